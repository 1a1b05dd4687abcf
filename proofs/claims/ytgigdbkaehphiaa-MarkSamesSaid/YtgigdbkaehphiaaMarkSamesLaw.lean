/-
  MarkSames is proved: for all documents Same answers as the reference's SameDoc does, and a document is the same as itself. No condition.
-/
import Derived.Test.YtgigdbkaehphiaaSame
import Derived.Test.YtgigdbkaehphiaaLaw
import Derived.Deep.RegionWith
namespace Go.Proofs.Ytgigdbkaehphiaa
open Go.RowKit Go.ChangeShapes Go.WideShapes Go.ChangeAt Go.Deep

theorem same_refl : ∀ (l : List Node), same l l = true
  | [] => by rw [same]
  | n :: r => by rw [same, same_refl n.kids, same_refl r]; simp
termination_by l => SizeOf.sizeOf l
decreasing_by
  · have := Node.kids_lt n; simp; omega
  · simp; omega

set_option maxHeartbeats 400000 in
theorem markSames_walk (l1 l2 : List Node) (v1 v2 : Value) (w : World) (h1 : NodesAt w v1 l1) (h2 : NodesAt w v2 l2) :
    Calls Try.prog 3 #[v1, v2] w fun e w' => e = .returned (.bool true) ∧ Below w.heap.size w w' := by
  have H1 := Lib.hid h1; clear h1
  have H2 := Lib.hid h2; clear h2
  go_enter Try.func3, Try.ntmps3
  go_wp2_with fail
  refine (same_any _ l1 l2 v1 v2 _ (Nat.le_refl _) H1.out H2.out).mono ?_
  rintro e w1 ⟨rfl, hb1⟩
  have B1 := Lib.hid hb1; clear hb1
  go_wp2_with fail
  refine (sameDoc_any _ l1 l2 v1 v2 _ (Nat.le_refl _) (H1.out.keep (Keeps.of_below B1.out)) (H2.out.keep (Keeps.of_below B1.out))).mono ?_
  rintro e w2 ⟨rfl, hb2⟩
  have B2 := Lib.hid (B1.out.trans (hb2.mono B1.out.size)); clear hb2
  have hself : (same l1 l2 == same l1 l2) = true := by simp
  go_wp2_with fail
  refine (same_any _ l1 l1 v1 v1 _ (Nat.le_refl _) (H1.out.keep (Keeps.of_below B2.out)) (H1.out.keep (Keeps.of_below B2.out))).mono ?_
  rintro e w3 ⟨rfl, hb3⟩
  have B3 := Lib.hid (B2.out.trans (hb3.mono B2.out.size)); clear hb3
  go_wp2_with fail
  go_ret
  exact ⟨ret_bool (same_refl l1), B3.out⟩

set_option maxRecDepth 100000 in
theorem markSames_calls (H : Type) (enc : TypeId × Value → H) (W : World) (base : Nat) (args : Array Value) (ds gs : List (DataW H)) (before : List MemPlace)
    (hval : ∀ (j : Nat) t v, Try.f3.params[j]? = some t → args[j]? = some v → Value.okWide Try.prog W .any base t v)
    (hW : DataW.Whole enc Try.prog Try.f3.params.toList Rows.markSamesSpec.vars false W args.toList ds gs before) :
    Calls Try.prog 3 args W fun e W' => ∃ v, e = .returned v ∧ Rows.markSamesSpec.post enc Try.prog Try.f3 false true false false W args v W' := by
  have hW' := hW
  obtain ⟨p, q, hA0, hV, rfl, hfz, hnd⟩ := hW
  have hA : DataW.TrodAll enc Try.prog W 0 (fun _ => true) true Try.f3.params.toList args.toList ds p := hA0
  rw [Try.params3] at hA hval
  obtain ⟨v0, v1, d0, d1, p0, p1, rfl, rfl, rfl, ⟨fu0, h0⟩, ⟨fu1, h1⟩⟩ := trodAll_two hA
  obtain ⟨rfl, rfl⟩ := trodVars_none hV
  obtain ⟨u0, l0, e0, n0, _⟩ := open_nodes _ _ _ h0
  obtain ⟨u1, l1, e1, n1, _⟩ := open_nodes _ _ _ h1
  obtain ⟨a0, len0, cap0, rfl⟩ := okWide_slice Try.underlying22 (hval 0 22 v0 rfl rfl)
  obtain ⟨a1, len1, cap1, rfl⟩ := okWide_slice Try.underlying22 (hval 1 22 v1 rfl rfl)
  simp only [Value.cells, List.cons.injEq, and_true] at e0 e1
  subst e0
  subst e1
  refine (markSames_walk l0 l1 _ _ W n0 n1).mono fun e W' ⟨he, hb⟩ => ?_
  subst he
  exact ⟨_, rfl, law_post rfl rfl (tb := 4) (by kernel_rfl) Try.underlying4 (by rw [Try.params3]; intro t ht; simp at ht; subst ht; exact ⟨by kernel_rfl, of_decide_eq_true (by kernel_rfl)⟩) hW' hb⟩

set_option maxRecDepth 100000 in
theorem markSames_lifted (os : Os) (started : os.Started) (H : Type) (enc : TypeId × Value → H) :
    ReturnsInHanded {} Try.checked os 3 .any (Rows.markSamesSpec.pre6 enc Try.prog Try.f3 Rows.markSamesRow.domain false) (Rows.markSamesSpec.post enc Try.prog Try.f3 false true false false) := by
  refine returnsInHanded_of_change (C := Try.checked) own started (by kernel_rfl) Try.func3
    (ChangeSpec.witness6 (enc := enc) (C := Try.checked) false ⟨#[], #[.slice none 0 0, .slice none 0 0], []⟩ 8 (by kernel_rfl) (by kernel_rfl) (by kernel_rfl) (by kernel_rfl)) ?_
  intro W base args ds gs before hval0 hW _ _
  exact markSames_calls H enc W base args ds gs before hval0 hW

theorem markSames_holds : Rows.MarkSamesSaid :=
  OpenClaim.holds_of_wide 3 Try.f3 rfl rfl rfl rfl rfl rfl rfl ⟨rfl, rfl, rfl, rfl, rfl⟩ rfl rfl rfl rfl rfl (by kernel_rfl) Try.func3 (by kernel_rfl)
    (of_decide_eq_true (by kernel_rfl)) (by unfold Func.isWrapper; first | (rw [if_pos (by decide +kernel)]; kernel_rfl) | (rw [if_neg (by decide +kernel)]; exact ⟨rfl, rfl⟩))
    (fun os started H enc _ => markSames_lifted os started H enc)

end Go.Proofs.Ytgigdbkaehphiaa
