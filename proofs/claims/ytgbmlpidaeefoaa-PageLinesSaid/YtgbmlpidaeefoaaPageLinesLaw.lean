/-
  PageLines is proved: for all strings Line answers as the reference's CodeOf does. No condition.
-/
import Derived.Test.YtgbmlpidaeefoaaLinesBoth
import Derived.Test.YtgbmlpidaeefoaaSamePart
import Derived.Test.YtgbmlpidaeefoaaLaw
namespace Go.Proofs.Ytgbmlpidaeefoaa
open Go.RowKit Go.ChangeShapes Go.WideShapes Go.ChangeAt Go.Deep

set_option maxHeartbeats 1000000 in
theorem pageLines_walk (s : ByteArray) (w : World) (hs : s.size ≤ maxLen) : Calls Try.prog 3 #[.string s] w fun e w' => e = .returned (.bool true) ∧ Below w.heap.size w w' := by
  unfold maxLen at hs
  by_cases hbig : 20000 < s.size
  · go_enter Try.func3, Try.ntmps3
    go_wp2_with fail
    go_ret
    exact ⟨rfl, Below.refl _ _⟩
  obtain ⟨o, hL, hC⟩ := both_any s (by omega)
  have HL := Lib.hid hL; clear hL
  have HC := Lib.hid hC; clear hC
  go_enter Try.func3, Try.ntmps3
  go_wp2_with fail
  refine (HL.out _).mono ?_
  rintro e w1 ⟨nm, av, rfl, hnm, ha, hb1⟩
  obtain ⟨A1, c1, d1, o1, rfl, _⟩ := ha.form
  simp only [partC]
  have HA1 := Lib.hid ha
  have HB1 := Lib.hid hb1
  have HNm := Lib.hid hnm
  clear ha hb1 hnm
  go_wp2_with fail
  refine (HC.out _).mono ?_
  rintro e w2 ⟨nm2, av2, rfl, hnm2, ha2, hb2⟩
  obtain rfl : nm2 = nm := bytes_ext (by rw [hnm2, HNm.out])
  obtain ⟨A2, c2, d2, o2, rfl, _⟩ := ha2.form
  simp only [partC]
  have hX : CX w2 w1.heap.size 25 (partC nm2 (.slice A1 o.2.2.1.length c1) o.2.2.2) := CX.below (CX.new w1 _ _) hb2
  have p0 := hX.c 0
  have p1 := hX.c 1
  have p2 := hX.c 2
  have p3 := hX.c 3
  have p4 := hX.c 4
  have hxl := hX.lt
  simp only [partC] at p0 p1 p2 p3 p4
  have HA3 := Lib.hid ((HA1.out.keep (Keeps.alloc _ _)).keep (Keeps.of_below hb2))
  have HA4 := Lib.hid ha2
  have HB2 := Lib.hid ((HB1.out.alloc HB1.out.size _).trans (hb2.mono (Nat.le_trans HB1.out.size (by simp))))
  clear hX ha2 hb2 hnm2
  obtain ⟨o1', o2', o3', o4'⟩ := o
  have e1 : (o1' == o1') = true := by simp
  go_wp2_with fail
  have hx1 : CX (((w2.alloc (.cells (partC nm2 (.slice A2 o3'.length c2) o4') 25)).alloc (.cells (partC nm2 (.slice A1 o3'.length c1) o4') 25)).alloc (.cells (partC nm2 (.slice A2 o3'.length c2) o4') 25)) (w2.heap.size + 1) 25 (partC nm2 (.slice A1 o3'.length c1) o4') := CX.alloc (heap_alloc2_new w2 _ _) _
  have hx2 : CX (((w2.alloc (.cells (partC nm2 (.slice A2 o3'.length c2) o4') 25)).alloc (.cells (partC nm2 (.slice A1 o3'.length c1) o4') 25)).alloc (.cells (partC nm2 (.slice A2 o3'.length c2) o4') 25)) (w2.heap.size + 1 + 1) 25 (partC nm2 (.slice A2 o3'.length c2) o4') := by
    have := CX.new ((w2.alloc (.cells (partC nm2 (.slice A2 o3'.length c2) o4') 25)).alloc (.cells (partC nm2 (.slice A1 o3'.length c1) o4') 25)) (partC nm2 (.slice A2 o3'.length c2) o4') 25
    simp only [World.size_alloc] at this
    exact this
  have hk : Keeps w2 (((w2.alloc (.cells (partC nm2 (.slice A2 o3'.length c2) o4') 25)).alloc (.cells (partC nm2 (.slice A1 o3'.length c1) o4') 25)).alloc (.cells (partC nm2 (.slice A2 o3'.length c2) o4') 25)) := ((Keeps.alloc _ _).trans (Keeps.alloc _ _)).trans (Keeps.alloc _ _)
  refine (sameParts_one _ _ nm2 _ _ o4' o3' _ hx1 hx2 (HA3.out.keep hk) (HA4.out.keep hk)).mono ?_
  rintro e w3 ⟨rfl, hb3⟩
  have HB3 := Lib.hid ((((HB2.out.alloc HB2.out.size _).alloc (Nat.le_trans HB2.out.size (by simp)) _).alloc (Nat.le_trans HB2.out.size (by simp; omega)) _).trans (hb3.mono (Nat.le_trans HB2.out.size (by simp; omega))))
  clear hx1 hx2 hk hb3
  go_wp2_with fail
  go_ret
  exact ⟨rfl, HB3.out⟩

set_option maxRecDepth 100000 in
theorem pageLines_calls (H : Type) (enc : TypeId × Value → H) (W : World) (base : Nat) (args : Array Value) (ds gs : List (DataW H)) (before : List MemPlace)
    (hval : ∀ (j : Nat) t v, Try.f3.params[j]? = some t → args[j]? = some v → Value.okWide Try.prog W .any base t v)
    (hW : DataW.Whole enc Try.prog Try.f3.params.toList Rows.pageLinesSpec.vars false W args.toList ds gs before) :
    Calls Try.prog 3 args W fun e W' => ∃ v, e = .returned v ∧ Rows.pageLinesSpec.post enc Try.prog Try.f3 false true false false W args v W' := by
  have hW' := hW
  obtain ⟨p, q, hA0, hV, rfl, hfz, hnd⟩ := hW
  have hA : DataW.TrodAll enc Try.prog W 0 (fun _ => true) true Try.f3.params.toList args.toList ds p := hA0
  rw [Try.params3] at hA hval
  obtain ⟨v0, d0, rfl, rfl, h0⟩ := trodAll_one hA
  obtain ⟨rfl, rfl⟩ := trodVars_none hV
  obtain ⟨s0, rfl, hd0, _, hs0⟩ := Go.ChangeMaps.open_string Try.underlying9 (hval 0 9 v0 rfl rfl) h0
  refine (pageLines_walk s0 W hs0).mono fun e W' ⟨he, hb⟩ => ?_
  subst he
  refine ⟨_, rfl, law_post rfl rfl (tb := 4) (by kernel_rfl) Try.underlying4 ?_ hW' hb⟩
  rw [Try.params3]
  intro t ht
  simp only [List.mem_cons, List.not_mem_nil, or_false] at ht
  subst ht
  exact ⟨by kernel_rfl, of_decide_eq_true (by kernel_rfl)⟩

set_option maxRecDepth 100000 in
theorem pageLines_lifted (os : Os) (started : os.Started) (H : Type) (enc : TypeId × Value → H) :
    ReturnsInHanded {} Try.checked os 3 .any (Rows.pageLinesSpec.pre6 enc Try.prog Try.f3 Rows.pageLinesRow.domain false) (Rows.pageLinesSpec.post enc Try.prog Try.f3 false true false false) := by
  refine returnsInHanded_of_change (C := Try.checked) own started (by kernel_rfl) Try.func3
    (ChangeSpec.witness6 (enc := enc) (C := Try.checked) false ⟨#[], #[.string ⟨#[]⟩], []⟩ 8 (by kernel_rfl) (by kernel_rfl) (by kernel_rfl) (by kernel_rfl)) ?_
  intro W base args ds gs before hval0 hW _ _
  exact pageLines_calls H enc W base args ds gs before hval0 hW

theorem pageLines_holds : Rows.PageLinesSaid :=
  OpenClaim.holds_of_wide 3 Try.f3 rfl rfl rfl rfl rfl rfl rfl ⟨rfl, rfl, rfl, rfl, rfl⟩ rfl rfl rfl rfl rfl (by kernel_rfl) Try.func3 (by kernel_rfl)
    (of_decide_eq_true (by kernel_rfl)) (by unfold Func.isWrapper; first | (rw [if_pos (by decide +kernel)]; kernel_rfl) | (rw [if_neg (by decide +kernel)]; exact ⟨rfl, rfl⟩))
    (fun os started H enc _ => pageLines_lifted os started H enc)

end Go.Proofs.Ytgbmlpidaeefoaa
