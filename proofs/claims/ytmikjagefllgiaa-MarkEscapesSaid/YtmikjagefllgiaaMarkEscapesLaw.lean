/-
  MarkEscapes is proved: for all strings Escape and Unescape write what the reference's Escaped and Unescaped write. No condition.
-/
import Derived.Test.YtmikjagefllgiaaUnDo
import Derived.Test.YtmikjagefllgiaaUnRef
import Derived.Test.YtmikjagefllgiaaLaw
import Derived.OpenShut
namespace Go.Proofs.Ytmikjagefllgiaa
open Go.RowKit Go.ChangeShapes Go.WideShapes Go.ChangeAt Go.Deep

set_option maxRecDepth 100000 in
set_option maxHeartbeats 1000000 in
theorem markEscapes_walk (s : ByteArray) (w : World) (hs : s.size ≤ 9223372036854775807) :
    Calls Try.prog 3 #[.string s] w fun e w' => e = .returned (.bool true) ∧ Below w.heap.size w w' := by
  by_cases hbig : (200000 : Int) < (s.size : Int)
  · have h1 : decide ((200000 : Int) < (s.size : Int)) = true := by simpa using hbig
    go_enter Try.func3, Try.ntmps3
    go_wp2_with fail
    go_ret
    exact ⟨rfl, Below.refl _ _⟩
  · have h1 : decide ((200000 : Int) < (s.size : Int)) = false := by simpa using hbig
    have hs2 : s.size ≤ 2097152 := by omega
    obtain ⟨z, hz⟩ : ∃ z : ByteArray, ⟨(escL s.data.toList).toArray⟩ = z := ⟨_, rfl⟩
    obtain ⟨y, hy⟩ : ∃ y : ByteArray, ⟨(unU s.data.toList).toArray⟩ = y := ⟨_, rfl⟩
    have e1 : (z.toList == z.toList) = true := by simp
    have e2 : (y.toList == y.toList) = true := by simp
    have C1 := Lib.hid (fun w => escape_q s z w hz hs2)
    have C2 := Lib.hid (fun w => escaped_q2 s z w hz hs2)
    have C3 := Lib.hid (fun w => unescape_q s y w hy hs2)
    have C4 := Lib.hid (fun w => by have h9 := unescaped_q s w hs2; rw [hy] at h9; exact h9 : ∀ w, Calls Try.prog 8 #[.string s] w fun e w' => e = .returned (.string y) ∧ Below w.heap.size w w')
    clear hz hy
    go_enter Try.func3, Try.ntmps3
    go_wp2_with (first
      | (go_at_call 5; go_must (refine (C1.out _).mono ?_); rintro e w1 ⟨rfl, hb⟩; have HB1 := Lib.hid hb; clear hb)
      | (go_at_call 6; go_must (refine (C2.out _).mono ?_); rintro e w2 ⟨rfl, hw2⟩; obtain rfl := hw2)
      | (go_at_call 7; go_must (refine (C3.out _).mono ?_); rintro e w3 ⟨rfl, hb⟩; have HB3 := Lib.hid (HB1.out.trans (hb.mono HB1.out.size)); clear hb)
      | (go_at_call 8; go_must (refine (C4.out _).mono ?_); rintro e w4 ⟨rfl, hb⟩; have HB4 := Lib.hid (HB3.out.trans (hb.mono HB3.out.size)); clear hb))
    go_ret
    exact ⟨rfl, HB4.out⟩

set_option maxRecDepth 100000 in
theorem markEscapes_calls (H : Type) (enc : TypeId × Value → H) (W : World) (base : Nat) (args : Array Value) (ds gs : List (DataW H)) (before : List MemPlace)
    (hval : ∀ (j : Nat) t v, Try.f3.params[j]? = some t → args[j]? = some v → Value.okWide Try.prog W .any base t v)
    (hW : DataW.Whole enc Try.prog Try.f3.params.toList Rows.markEscapesSpec.vars false W args.toList ds gs before) :
    Calls Try.prog 3 args W fun e W' => ∃ v, e = .returned v ∧ Rows.markEscapesSpec.post enc Try.prog Try.f3 false true false false W args v W' := by
  have hW' := hW
  obtain ⟨p, q, hA0, hV, rfl, hfz, hnd⟩ := hW
  have hA : DataW.TrodAll enc Try.prog W 0 (fun _ => true) true Try.f3.params.toList args.toList ds p := hA0
  rw [Try.params3] at hA hval
  obtain ⟨v0, d0, rfl, rfl, h0⟩ := trodAll_one hA
  obtain ⟨rfl, rfl⟩ := trodVars_none hV
  obtain ⟨s0, rfl, hd0, _, hs0⟩ := Go.ChangeMaps.open_string Try.underlying9 (hval 0 9 v0 rfl rfl) h0
  refine (markEscapes_walk s0 W (by unfold maxLen at hs0; omega)).mono fun e W' ⟨he, hb⟩ => ?_
  subst he
  refine ⟨_, rfl, law_post rfl rfl (tb := 4) (by kernel_rfl) Try.underlying4 ?_ hW' hb⟩
  rw [Try.params3]
  intro t ht
  simp only [List.mem_cons, List.not_mem_nil, or_false] at ht
  subst ht
  exact ⟨by kernel_rfl, of_decide_eq_true (by kernel_rfl)⟩

set_option maxRecDepth 100000 in
theorem markEscapes_lifted (os : Os) (started : os.Started) (H : Type) (enc : TypeId × Value → H) :
    ReturnsInHanded {} Try.checked os 3 .any (Rows.markEscapesSpec.pre6 enc Try.prog Try.f3 Rows.markEscapesRow.domain false) (Rows.markEscapesSpec.post enc Try.prog Try.f3 false true false false) := by
  refine returnsInHanded_of_change (C := Try.checked) own started (by kernel_rfl) Try.func3
    (ChangeSpec.witness6 (enc := enc) (C := Try.checked) false ⟨#[], #[.string ⟨#[]⟩], []⟩ 8 (by kernel_rfl) (by kernel_rfl) (by kernel_rfl) (by kernel_rfl)) ?_
  intro W base args ds gs before hval0 hW _ _
  exact markEscapes_calls H enc W base args ds gs before hval0 hW

theorem markEscapes_holds : Rows.MarkEscapesSaid :=
  OpenClaim.holds_of_wide 3 Try.f3 rfl rfl rfl rfl rfl rfl rfl ⟨rfl, rfl, rfl, rfl, rfl⟩ rfl rfl rfl rfl rfl (by kernel_rfl) Try.func3 (by kernel_rfl)
    (of_decide_eq_true (by kernel_rfl)) (by unfold Func.isWrapper; first | (rw [if_pos (by decide +kernel)]; kernel_rfl) | (rw [if_neg (by decide +kernel)]; exact ⟨rfl, rfl⟩))
    (fun os started H enc _ => markEscapes_lifted os started H enc)

end Go.Proofs.Ytmikjagefllgiaa
