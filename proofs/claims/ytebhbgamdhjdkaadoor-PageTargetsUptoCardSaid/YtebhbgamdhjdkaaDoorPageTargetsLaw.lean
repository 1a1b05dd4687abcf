/-
  PageTargets is proved, in its second form: for all hosts and strings whose reading stays below the given bound, Target answers as the reference's TargetOf does.
-/
import Derived.Test.YtebhbgamdhjdkaaDoorTargetOf
import Derived.Test.YtebhbgamdhjdkaaDoorLaw
import Derived.Test.YtebhbgamdhjdkaaDoorCards
import Derived.Test.YtebhbgamdhjdkaaDoorTie
import Derived.OpenShut
import Derived.Deep.DeepHandedRow
import Derived.Lib.LaidTab
import Derived.Lay
namespace Go.Proofs.YtebhbgamdhjdkaaDoor
open Go.RowKit Go.ChangeShapes Go.WideShapes Go.ChangeAt Go.Deep

theorem maxLen_at {W : World} (h : W.ShapedOpen Tryd.prog) : ∃ m, W.cell? ⟨0, 0, none⟩ = some (.int .i64 m) := (Tryd.laysM146).s1_3 W h

set_option maxHeartbeats 1000000 in
theorem pageTargets_walk (sv fv : Value) (f d : ByteArray) (l : List (ByteArray × Val)) (w : World) (hsh : w.ShapedOpen Tryd.checked.prog) (hn : NamedsAt w fv l) (hd : d.size ≤ 2 ^ 62) :
    Calls Tryd.prog 3 #[.agg #[sv, fv, .string f], .string d] w fun e w' => e = .returned (.bool true) ∧ Below w.heap.size w w' := by
  have HM := Lib.hid (show MaxCell w from maxLen_at hsh); clear hsh
  have HN := Lib.hid hn; clear hn
  obtain ⟨t, ht⟩ : ∃ t, targetO f l d = t := ⟨_, rfl⟩
  have HT := Lib.hid ht; clear ht
  go_enter Tryd.func3, Tryd.ntmps3
  go_wp2_with fail
  obtain ⟨W0, hW0⟩ : ∃ W0, w.alloc (.cells #[sv, fv, .string f] 25) = W0 := ⟨_, rfl⟩
  have HB0 := Lib.hid (show Below w.heap.size w W0 by rw [← hW0]; exact (Below.refl _ _).alloc (Nat.le_refl _) _)
  have HP0 := Lib.hid (show CB W0 w.heap.size 25 #[sv, fv, .string f] by rw [← hW0]; exact CB.new w _ _)
  rw [hW0]
  clear hW0
  refine (target_q sv fv f d l t _ (HM.out.keep (Keeps.of_below HB0.out)) (HN.out.keep (Keeps.of_below HB0.out)) hd HT.out).mono ?_
  rintro e w1 ⟨rfl, hb1⟩
  have HP1 := Lib.hid (HP0.out.below hb1)
  have HB1 := Lib.hid (HB0.out.trans (hb1.mono HB0.out.size))
  clear hb1
  have pc0 := HP1.out.c 0
  have pc1 := HP1.out.c 1
  have pc2 := HP1.out.c 2
  have psh := HP1.out.sh
  go_wp2_with fail
  refine (targetOf_q sv fv f d l t _ (HM.out.keep (Keeps.of_below HB1.out)) (HN.out.keep (Keeps.of_below HB1.out)) hd HT.out).mono ?_
  rintro e w2 ⟨rfl, hb2⟩
  have HB2 := Lib.hid (HB1.out.trans (hb2.mono HB1.out.size))
  clear hb2 pc0 pc1 pc2 psh
  obtain ⟨t1, t2, t3⟩ := t
  have e1 : (t1.toList == t1.toList) = true := by simp
  have e2 : (t2.toList == t2.toList) = true := by simp
  have e3 : (t3 == t3) = true := by simp
  go_wp2_with fail
  go_ret
  exact ⟨rfl, HB2.out⟩

theorem bulk_str1 {H : Type} {d0 d1 : DataW H} {t : ByteArray} (h1 : d1 = .lit (.string t.data.toList)) (h : Rows.uptoBulkAll [d0, d1] ≤ 1048576) : t.size ≤ 1048576 := by
  subst h1
  simp only [Rows.uptoBulkAll, Rows.uptoBulk, size_toList] at h
  omega

section
variable {H : Type} {enc : TypeId × Value → H} {w : World} {base : Nat} {spare : Nat → Bool} {held : Bool}
set_option maxRecDepth 100000 in
/-- an argument that is a host -/
theorem open_host {r : Reach} {b0 : Nat} {v : Value} {d : DataW H} {ps : List MemPlace} (hv : Value.okWide Tryd.prog w r b0 25 v) (h : DataW.Trod enc Tryd.prog w base spare held 25 v d ps) :
    ∃ (sv fv : Value) (f : ByteArray) (l : List (ByteArray × Val)), v = .agg #[sv, fv, .string f] ∧ NamedsAt w fv l := by
  obtain ⟨cs, rfl, hsz⟩ := okWide_struct Tryd.underlying25 hv
  obtain ⟨fuel, hf⟩ := h
  obtain ⟨m', ys, hm', hyl, hyd, hcl, hfl⟩ := open_fields Tryd.underlying25 (by kernel_rfl) (by kernel_rfl) hf
  obtain ⟨v0, y0, hv0, hy0, t0⟩ := hfl 0 _ rfl
  obtain ⟨v1, y1, hv1, hy1, t1⟩ := hfl 1 _ rfl
  obtain ⟨v2, y2, hv2, hy2, t2⟩ := hfl 2 _ rfl
  obtain ⟨fv, l, e1, hn, _⟩ := open_named _ _ _ t1
  obtain ⟨f, e2, z2, w2⟩ := DataW.trod_string Tryd.underlying9 t2
  simp only [List.cons.injEq, and_true] at e1 e2
  subst e1 e2
  refine ⟨v0, v1, f, l, ?_, hn⟩
  obtain ⟨l⟩ := cs
  simp only [Value.cells] at hv0 hv1 hv2 hcl
  match l, hcl with
  | [a0, a1, a2], _ =>
    simp only [List.getElem?_cons_zero, List.getElem?_cons_succ, Option.some.injEq] at hv0 hv1 hv2
    subst hv0 hv1 hv2
    rfl
end

set_option maxRecDepth 100000 in
theorem pageTargets_calls (H : Type) (enc : TypeId × Value → H) (W : World) (base : Nat) (args : Array Value) (ds gs : List (DataW H)) (before : List MemPlace)
    (hval : ∀ (j : Nat) t v, Tryd.f3.params[j]? = some t → args[j]? = some v → Value.okWide Tryd.prog W .any base t v)
    (hW : DataW.Whole enc Tryd.prog Tryd.f3.params.toList Rows.pageTargetsSpec.vars false W args.toList ds gs before) (hk : Rows.uptoSmall H (ds ++ gs) = true) (hsh : W.ShapedOpen Tryd.checked.prog) :
    Calls Tryd.prog 3 args W fun e W' => ∃ v, e = .returned v ∧ Rows.pageTargetsSpec.post enc Tryd.prog Tryd.f3 false true false false W args v W' := by
  have hW' := hW
  obtain ⟨p, q, hA0, hV, rfl, hfz, hnd⟩ := hW
  have hA : DataW.TrodAll enc Tryd.prog W 0 (fun _ => true) true Tryd.f3.params.toList args.toList ds p := hA0
  rw [Tryd.params3] at hA hval
  obtain ⟨v0, v1, d0, d1, p0, p1, rfl, rfl, rfl, h0, h1⟩ := trodAll_two hA
  obtain ⟨rfl, rfl⟩ := trodVars_none hV
  have hbulk : Rows.uptoBulkAll ([d0, d1]) ≤ 1048576 := of_decide_eq_true (by simpa [Rows.uptoSmall] using hk)
  obtain ⟨sv0, fv0, f0, l0, rfl, n0⟩ := open_host (hval 0 25 v0 rfl rfl) h0
  obtain ⟨s1, rfl, hd1, _, hs1⟩ := Go.ChangeMaps.open_string Tryd.underlying9 (hval 1 9 v1 rfl rfl) h1
  refine (pageTargets_walk sv0 fv0 f0 s1 l0 W hsh n0 (by have := bulk_str1 hd1 hbulk; omega)).mono fun e W' ⟨he, hb⟩ => ?_
  subst he
  refine ⟨_, rfl, law_post rfl rfl (tb := 4) (by kernel_rfl) Tryd.underlying4 ?_ hW' hb⟩
  rw [Tryd.params3]
  intro t ht
  simp only [List.mem_cons, List.not_mem_nil, or_false] at ht
  rcases ht with rfl | rfl
  · exact ⟨by kernel_rfl, of_decide_eq_true (by kernel_rfl)⟩
  · exact ⟨by kernel_rfl, of_decide_eq_true (by kernel_rfl)⟩

set_option maxRecDepth 100000 in
theorem pageTargets_met (os : Os) : laidMet Tryd.prog Rows.pageTargetsUptoRow.laid ((World.laidAll Tryd.prog os Rows.pageTargetsUptoRow.laid).forCall (fun _ _ => 0) ⟨#[], #[.agg #[.slice none 0 0, .slice none 0 0, .string ⟨#[]⟩], .string ⟨#[]⟩], []⟩).memory :=
  laidMet_laidAll _ (by kernel_rfl) (by kernel_rfl)

theorem pageTargets_reads (os : Os) {H : Type} (enc : TypeId × Value → H) : ∃ places, DataW.whole enc Tryd.prog ((World.laidAll Tryd.prog os Rows.pageTargetsUptoRow.laid).forCall (fun _ _ => 0) ⟨#[], #[.agg #[.slice none 0 0, .slice none 0 0, .string ⟨#[]⟩], .string ⟨#[]⟩], []⟩).memory Tryd.f3.params.toList Rows.pageTargetsSpec.vars false (#[(.agg #[.slice none 0 0, .slice none 0 0, .string ⟨#[]⟩] : Value), (.string ⟨#[]⟩ : Value)] : Array Value).toList 8 = some ([.agg [.nil, .nil, .lit (.string [])], .lit (.string [])], [], places) :=
  ⟨[], by kernel_rfl⟩

set_option maxRecDepth 100000 in
theorem pageTargets_lifted (os : Os) (started : os.Started) (H : Type) (enc : TypeId × Value → H) (F : Stop.Interp) :
    ReturnsInHanded {} Tryd.checked os 3 .any ((Rows.OpenSpec.upto Rows.pageTargetsSpec).preRow enc Tryd.prog Tryd.f3 Rows.pageTargetsUptoRow.domain false Rows.pageTargetsUptoRow.laid) (((Rows.OpenSpec.upto Rows.pageTargetsSpec).at F).post enc Tryd.prog Tryd.f3 false true false false) := by
  obtain ⟨places, hx⟩ := pageTargets_reads os enc
  refine returnsInHanded_of_row (C := Tryd.checked) (s := (Rows.OpenSpec.upto Rows.pageTargetsSpec)) own started (by kernel_rfl) Tryd.func3
    (witness_row_at (enc := enc) (C := Tryd.checked) false (World.laidAll Tryd.prog os Rows.pageTargetsUptoRow.laid) #[.agg #[.slice none 0 0, .slice none 0 0, .string ⟨#[]⟩], .string ⟨#[]⟩] (World.laidAll_os _ _ _) (by kernel_rfl) (by kernel_rfl) (by kernel_rfl)
      (OpenSpec.preRow_of_cond 8 hx (by kernel_rfl) (fun k hk => by cases hk; kernel_rfl) (by kernel_rfl) (pageTargets_met os))) ?_
  intro W base args ds gs before hval hW _ hk _ hL hsh _
  exact pageTargets_calls H enc W base args ds gs before hval hW (hk _ rfl) hsh

theorem pageTargets_said : Rows.PageTargetsUptoSaid :=
  OpenClaim.holds_of_cond 3 Tryd.f3 rfl rfl rfl rfl rfl rfl rfl ⟨rfl, rfl, rfl, rfl, rfl⟩ rfl rfl rfl rfl rfl (by kernel_rfl) Tryd.func3 (by kernel_rfl)
    (of_decide_eq_true (by kernel_rfl)) (by unfold Func.isWrapper; first | (rw [if_pos (by decide +kernel)]; kernel_rfl) | (rw [if_neg (by decide +kernel)]; exact ⟨rfl, rfl⟩))
    (fun os started H enc _ F => by rw [OpenClaim.pre_eq_preRow]; exact pageTargets_lifted os started H enc F)

theorem pageTargets_plain (f : FuncId) (fn : Func) (hf : Tryd.pinned.checked.prog.funcNamed "masthead/mastlaw1.PageTargets" = some f) (hfn : Tryd.pinned.checked.prog.funcs[f]? = some fn) :
    false = Tryd.pinned.checked.prog.looks [] ∧ ∀ (j : Nat) t, fn.params[j]? = some t → Tryd.pinned.checked.prog.wantsStandIn t = false := by
  obtain rfl : f = 3 := Option.some.inj ((show Tryd.prog.funcNamed "masthead/mastlaw1.PageTargets" = some 3 by kernel_rfl).symm.trans hf) |>.symm
  obtain rfl : fn = Tryd.f3 := (Option.some.inj (Tryd.func3.symm.trans hfn)).symm
  refine ⟨by kernel_rfl, fun j t ht => ?_⟩
  rw [Tryd.params3] at ht
  have h2 := Array.mem_of_getElem? ht
  simp at h2
  rcases h2 with rfl | rfl
  · exact (show Tryd.prog.wantsStandIn 25 = false by kernel_rfl)
  · exact (show Tryd.prog.wantsStandIn 9 = false by kernel_rfl)

theorem pageTargets_card : Rows.PageTargetsUptoCardSaid :=
  Claim7.holds_tied_plain_at .later [] _ _ _ _ pageTargets_said (fun _ h => by cases h) (by kernel_rfl) (fun _ h => by cases h) pageTargetsUpto_row_tie rfl ⟨rfl, rfl⟩ (by kernel_rfl) rfl pageTargets_plain (by kernel_rfl)

end Go.Proofs.YtebhbgamdhjdkaaDoor
