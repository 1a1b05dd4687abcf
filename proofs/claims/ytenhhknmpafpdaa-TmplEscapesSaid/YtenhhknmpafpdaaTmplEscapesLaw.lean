/-
  TmplEscapes is proved: for all strings EscapeAddr writes what the reference's AddrEscaped writes. No condition.
-/
import Derived.Test.YtenhhknmpafpdaaAddrEsc
import Derived.Test.YtenhhknmpafpdaaLaw
import Derived.OpenShut
namespace Go.Proofs.Ytenhhknmpafpdaa
open Go.RowKit Go.ChangeShapes Go.WideShapes Go.ChangeAt Go.Deep

set_option maxRecDepth 100000 in
set_option maxHeartbeats 1000000 in
theorem tmplEscapes_walk (s : ByteArray) (f : Bool) (w : World) (hs : s.size ≤ 9223372036854775807) :
    Calls Try.prog 3 #[.string s, .bool f] w fun e w' => e = .returned (.bool true) ∧ Below w.heap.size w w' := by
  by_cases hbig : (200000 : Int) < (s.size : Int)
  · have h1 : decide ((200000 : Int) < (s.size : Int)) = true := by simpa using hbig
    go_enter Try.func3, Try.ntmps3
    go_wp2_with fail
    go_ret
    exact ⟨rfl, Below.refl _ _⟩
  · have h1 : decide ((200000 : Int) < (s.size : Int)) = false := by simpa using hbig
    have hs2 : s.size ≤ 200000 := by omega
    obtain ⟨z, hz⟩ : ∃ z, addrES f s = z := ⟨_, rfl⟩
    have e1 : (z.toList == z.toList) = true := by simp
    have c1 := fun w => escapeAddr_q s f w hs2
    have c2 := fun w => addrEscaped_q s f w hs2
    rw [hz] at c1 c2
    have C1 := Lib.hid c1; clear c1
    have C2 := Lib.hid c2; clear c2 hz
    go_enter Try.func3, Try.ntmps3
    go_wp2_with (first | (go_at_call 5; go_must (refine (C1.out _).mono ?_); rintro e w1 ⟨rfl, hb⟩; have HB1 := Lib.hid hb; clear hb) | (go_at_call 6; go_must (refine (C2.out _).mono ?_); rintro e w2 ⟨rfl, hb⟩; have HB2 := Lib.hid (HB1.out.trans (hb.mono HB1.out.size)); clear hb))
    go_ret
    exact ⟨rfl, HB2.out⟩

set_option maxRecDepth 100000 in
theorem tmplEscapes_calls (H : Type) (enc : TypeId × Value → H) (W : World) (base : Nat) (args : Array Value) (ds gs : List (DataW H)) (before : List MemPlace)
    (hval : ∀ (j : Nat) t v, Try.f3.params[j]? = some t → args[j]? = some v → Value.okWide Try.prog W .any base t v)
    (hW : DataW.Whole enc Try.prog Try.f3.params.toList Rows.tmplEscapesSpec.vars false W args.toList ds gs before) :
    Calls Try.prog 3 args W fun e W' => ∃ v, e = .returned v ∧ Rows.tmplEscapesSpec.post enc Try.prog Try.f3 false true false false W args v W' := by
  have hW' := hW
  obtain ⟨p, q, hA0, hV, rfl, hfz, hnd⟩ := hW
  have hA : DataW.TrodAll enc Try.prog W 0 (fun _ => true) true Try.f3.params.toList args.toList ds p := hA0
  rw [Try.params3] at hA hval
  obtain ⟨v0, v1, d0, d1, p0, p1, rfl, rfl, rfl, h0, h1⟩ := trodAll_two hA
  obtain ⟨rfl, rfl⟩ := trodVars_none hV
  obtain ⟨s0, rfl, hd0, _, hs0⟩ := Go.ChangeMaps.open_string Try.underlying9 (hval 0 9 v0 rfl rfl) h0
  obtain ⟨b1, rfl, hd1, _⟩ := open_bool Try.underlying4 (hval 1 4 v1 rfl rfl) h1
  refine (tmplEscapes_walk s0 b1 W (by unfold maxLen at hs0; omega)).mono fun e W' ⟨he, hb⟩ => ?_
  subst he
  refine ⟨_, rfl, law_post rfl rfl (tb := 4) (by kernel_rfl) Try.underlying4 ?_ hW' hb⟩
  rw [Try.params3]
  intro t ht
  simp only [List.mem_cons, List.not_mem_nil, or_false] at ht
  rcases ht with rfl | rfl
  · exact ⟨by kernel_rfl, of_decide_eq_true (by kernel_rfl)⟩
  · exact ⟨by kernel_rfl, of_decide_eq_true (by kernel_rfl)⟩

set_option maxRecDepth 100000 in
theorem tmplEscapes_lifted (os : Os) (started : os.Started) (H : Type) (enc : TypeId × Value → H) :
    ReturnsInHanded {} Try.checked os 3 .any (Rows.tmplEscapesSpec.pre6 enc Try.prog Try.f3 Rows.tmplEscapesRow.domain false) (Rows.tmplEscapesSpec.post enc Try.prog Try.f3 false true false false) := by
  refine returnsInHanded_of_change (C := Try.checked) own started (by kernel_rfl) Try.func3
    (ChangeSpec.witness6 (enc := enc) (C := Try.checked) false ⟨#[], #[.string ⟨#[]⟩, .bool false], []⟩ 8 (by kernel_rfl) (by kernel_rfl) (by kernel_rfl) (by kernel_rfl)) ?_
  intro W base args ds gs before hval0 hW _ _
  exact tmplEscapes_calls H enc W base args ds gs before hval0 hW

theorem tmplEscapes_holds : Rows.TmplEscapesSaid :=
  OpenClaim.holds_of_wide 3 Try.f3 rfl rfl rfl rfl rfl rfl rfl ⟨rfl, rfl, rfl, rfl, rfl⟩ rfl rfl rfl rfl rfl (by kernel_rfl) Try.func3 (by kernel_rfl)
    (of_decide_eq_true (by kernel_rfl)) (by unfold Func.isWrapper; first | (rw [if_pos (by decide +kernel)]; kernel_rfl) | (rw [if_neg (by decide +kernel)]; exact ⟨rfl, rfl⟩))
    (fun os started H enc _ => tmplEscapes_lifted os started H enc)

end Go.Proofs.Ytenhhknmpafpdaa
