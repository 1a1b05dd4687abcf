/-
  MarkShifts is proved, in its second form: for all documents and numbers whose reading stays below the given bound, Shift answers as the reference's Shifted does, with DocError's error, or ErrRange.
-/
import Derived.Test.YtikcmmkeblgamaaShift
import Derived.Test.YtikcmmkeblgamaaSameDoc
import Derived.Test.YtikcmmkeblgamaaLaw
namespace Go.Proofs.Ytikcmmkeblgamaa
open Go.RowKit Go.ChangeShapes Go.WideShapes Go.ChangeAt Go.Deep

/-- Shift's two results -/
def ShiftRes (d : Int) (l : List Node) (w : World) (e : Ending) (w' : World) : Prop :=
  Below w.heap.size w w' ∧ ((docErr l ≠ 0 ∧ e = .returned (.tuple #[.slice none 0 0, .int .i64 (docErr l)])) ∨ (docErr l = 0 ∧ (d < -5 ∨ 5 < d) ∧ e = .returned (.tuple #[.slice none 0 0, .int .i64 2])) ∨
    (docErr l = 0 ∧ -5 ≤ d ∧ d ≤ 5 ∧ ∃ A c, e = .returned (.tuple #[.slice A l.length c, .int .i64 0]) ∧ NodesAt w' (.slice A l.length c) (shifted d l)))

set_option maxHeartbeats 1000000 in
theorem markShift_any (l : List Node) (v : Value) (d : Int) (w : World) (h : NodesAt w v l) (ht : total l ≤ 1073741824) :
    Calls Try.prog 11 #[v, .int .i64 d] w (ShiftRes d l w) := by
  have H := Lib.hid h; clear h
  by_cases h0 : docErr l = 0
  · obtain ⟨h4, hlv⟩ := docErr_zero h0
    have HLv := Lib.hid hlv; clear hlv
    by_cases hd : d < -5 ∨ 5 < d
    · have HR := Lib.hid (And.intro h0 hd)
      have H0 := Lib.hid h0; clear h0
      rcases hd with hd | hd
      · go_enter Try.func11, Try.ntmps11
        go_wp2_with fail
        refine (check_any l v _ H.out ht).mono ?_
        rw [H0.out]
        rintro e w1 ⟨rfl, hb⟩
        have HB := Lib.hid hb; clear hb
        go_wp2_with fail
        all_goals first
          | (exfalso; omega)
          | (go_ret2
             exact ⟨HB.out, Or.inr (Or.inl ⟨HR.out.1, HR.out.2, rfl⟩)⟩)
      · go_enter Try.func11, Try.ntmps11
        go_wp2_with fail
        refine (check_any l v _ H.out ht).mono ?_
        rw [H0.out]
        rintro e w1 ⟨rfl, hb⟩
        have HB := Lib.hid hb; clear hb
        go_wp2_with fail
        all_goals first
          | (exfalso; omega)
          | (go_ret2
             exact ⟨HB.out, Or.inr (Or.inl ⟨HR.out.1, HR.out.2, rfl⟩)⟩)
    · have hd1 : -5 ≤ d := by omega
      have hd2 : d ≤ 5 := by omega
      have g1 : decide (d < -5) = false := by simp; omega
      have g2 : decide (5 < d) = false := by simp; omega
      have H0 := Lib.hid h0; clear h0 hd
      go_enter Try.func11, Try.ntmps11
      go_wp2_with fail
      refine (check_any l v _ H.out ht).mono ?_
      rw [H0.out]
      rintro e w1 ⟨rfl, hb⟩
      have HB := Lib.hid hb; clear hb
      go_wp2_with fail
      refine (clone_any _ l v _ (Nat.le_refl _) (H.out.keep (Keeps.of_below HB.out)) ht).mono ?_
      rintro e w2 ⟨u, rfl, hT, hb⟩
      obtain ⟨A, c, rfl⟩ := hT.slice
      have HT := Lib.hid hT; clear hT
      have HB2 := Lib.hid (HB.out.trans (hb.mono HB.out.size)); clear hb
      have HSz := Lib.hid HB.out.size
      go_wp2_with fail
      refine (shift_any d hd1 hd2 _ l _ _ _ _ (Nat.le_refl _) HT.out ht HLv.out).mono ?_
      rintro e w3 ⟨rfl, hT3, hO⟩
      have HT3 := Lib.hid hT3; clear hT3
      have HB3 := Lib.hid (Only.below HB2.out hO (fun x hx => Nat.le_trans HSz.out hx.1)); clear hO
      go_wp2_with fail
      go_ret2
      refine ⟨HB3.out, Or.inr (Or.inr ⟨H0.out, hd1, hd2, A, c, rfl, ?_⟩)⟩
      exact HT3.out.nodes
  · have g1 : (docErr l != 0) = true := by simp [h0]
    have H0 := Lib.hid h0; clear h0
    go_enter Try.func11, Try.ntmps11
    go_wp2_with fail
    refine (check_any l v _ H.out ht).mono ?_
    rintro e w1 ⟨rfl, hb⟩
    have HB := Lib.hid hb; clear hb
    go_wp2_with fail
    go_ret2
    exact ⟨HB.out, Or.inl ⟨H0.out, rfl⟩⟩


set_option maxHeartbeats 1000000 in
theorem markShifts_walk (l : List Node) (v : Value) (d : Int) (w : World) (h : NodesAt w v l) (hx : I64 d) (ht : total l ≤ 1073741824) :
    Calls Try.prog 4 #[v, .int .i64 d] w fun e w' => e = .returned (.bool true) ∧ Below w.heap.size w w' := by
  have hx1 := hx.1
  have hx2 := hx.2
  clear hx
  have H := Lib.hid h; clear h
  go_enter Try.func4, Try.ntmps4
  go_wp2_with fail
  refine (markShift_any l v d _ H.out ht).mono ?_
  rintro e w1 ⟨hb, ⟨h0, rfl⟩ | ⟨h0, hd, rfl⟩ | ⟨h0, hd1, hd2, A, c, rfl, hT⟩⟩
  · have g1 : (docErr l != 0) = true := by simp [h0]
    have g2 : (docErr l == 0) = false := by simp [h0]
    have g3 : (docErr l == docErr l) = true := by simp
    have H0 := Lib.hid h0; clear h0
    have HB := Lib.hid hb; clear hb
    go_wp2_with fail
    refine (docError_any l v _ (H.out.keep (Keeps.of_below HB.out)) ht).mono ?_
    rintro e w2 ⟨rfl, hb⟩
    have HB2 := Lib.hid (HB.out.trans (hb.mono HB.out.size)); clear hb
    go_wp2_with fail
    go_ret
    exact ⟨rfl, HB2.out⟩
  · have HD := Lib.hid hd
    have H0 := Lib.hid h0; clear h0
    have HB := Lib.hid hb; clear hb
    rcases hd with hd | hd
    · go_wp2_with fail
      refine (docError_any l v _ (H.out.keep (Keeps.of_below HB.out)) ht).mono ?_
      rw [H0.out]
      rintro e w2 ⟨rfl, hb⟩
      have HB2 := Lib.hid (HB.out.trans (hb.mono HB.out.size)); clear hb
      go_wp2_with fail
      all_goals first
        | (exfalso; omega)
        | (go_ret
           exact ⟨rfl, HB2.out⟩)
    · go_wp2_with fail
      refine (docError_any l v _ (H.out.keep (Keeps.of_below HB.out)) ht).mono ?_
      rw [H0.out]
      rintro e w2 ⟨rfl, hb⟩
      have HB2 := Lib.hid (HB.out.trans (hb.mono HB.out.size)); clear hb
      go_wp2_with fail
      all_goals first
        | (exfalso; omega)
        | (go_ret
           exact ⟨rfl, HB2.out⟩)
  · obtain ⟨h4, hlv⟩ := docErr_zero h0
    have HLv := Lib.hid hlv; clear hlv
    have H0 := Lib.hid h0; clear h0
    have HB := Lib.hid hb; clear hb
    have HT := Lib.hid hT; clear hT
    have g1 : decide (d < -5) = false := by simp; omega
    have g2 : decide (5 < d) = false := by simp; omega
    go_wp2_with fail
    refine (docError_any l v _ (H.out.keep (Keeps.of_below HB.out)) ht).mono ?_
    rw [H0.out]
    rintro e w2 ⟨rfl, hb⟩
    have HB2 := Lib.hid (HB.out.trans (hb.mono HB.out.size))
    have HT2 := Lib.hid (HT.out.keep (Keeps.of_below hb)); clear hb
    go_wp2_with fail
    refine (shifted_any d hd1 hd2 _ l v _ (Nat.le_refl _) (H.out.keep (Keeps.of_below HB2.out)) ht HLv.out).mono ?_
    rintro e w3 ⟨u, rfl, hT3, hb⟩
    have HB3 := Lib.hid (HB2.out.trans (hb.mono HB2.out.size))
    have HT4 := Lib.hid (HT2.out.keep (Keeps.of_below hb)); clear hb
    have HT3 := Lib.hid hT3.nodes; clear hT3
    go_wp2_with fail
    refine (sameDoc_any _ (shifted d l) (shifted d l) _ _ _ (Nat.le_refl _) HT4.out HT3.out).mono ?_
    rw [same_refl]
    rintro e w4 ⟨rfl, hb⟩
    have HB4 := Lib.hid (HB3.out.trans (hb.mono HB3.out.size)); clear hb
    go_wp2_with fail
    go_ret
    exact ⟨rfl, HB4.out⟩
set_option maxRecDepth 100000 in
theorem markShifts_calls (H : Type) (enc : TypeId × Value → H) (W : World) (base : Nat) (args : Array Value) (ds gs : List (DataW H)) (before : List MemPlace)
    (hval : ∀ (j : Nat) t v, Try.f4.params[j]? = some t → args[j]? = some v → Value.okWide Try.prog W .any base t v)
    (hW : DataW.Whole enc Try.prog Try.f4.params.toList Rows.markShiftsSpec.vars false W args.toList ds gs before) (hk : Rows.uptoSmall H (ds ++ gs) = true) :
    Calls Try.prog 4 args W fun e W' => ∃ v, e = .returned v ∧ Rows.markShiftsSpec.post enc Try.prog Try.f4 false true false false W args v W' := by
  have hW' := hW
  obtain ⟨p, q, hA0, hV, rfl, hfz, hnd⟩ := hW
  have hA : DataW.TrodAll enc Try.prog W 0 (fun _ => true) true Try.f4.params.toList args.toList ds p := hA0
  rw [Try.params4] at hA hval
  obtain ⟨v0, v1, d0, d1, p0, p1, rfl, rfl, rfl, h0, h1⟩ := trodAll_two hA
  obtain ⟨rfl, rfl⟩ := trodVars_none hV
  have hbulk : Rows.uptoBulkAll ([d0, d1]) ≤ 1048576 := of_decide_eq_true (by simpa [Rows.uptoSmall] using hk)
  obtain ⟨fu0, g0⟩ := h0
  obtain ⟨u0, l0, e0, n0, w0⟩ := open_nodes _ _ _ g0
  obtain ⟨a0, len0, cap0, rfl⟩ := okWide_slice Try.underlying31 (hval 0 31 v0 rfl rfl)
  simp only [Value.cells, List.cons.injEq, and_true] at e0
  subst e0
  obtain ⟨x1, rfl, hd1, _, x1w⟩ := open_int Try.underlying3 (hval 1 3 v1 rfl rfl) h1
  refine (markShifts_walk l0 _ x1 W n0 (I64.of_wf x1w) (by have := total_weight _ l0 (Nat.le_refl _); have := bulk_mem (show d0 ∈ [d0, d1] by simp); have : weight l0 + 1 ≤ Rows.uptoBulk d0 := w0; omega)).mono fun e W' ⟨he, hb⟩ => ?_
  subst he
  refine ⟨_, rfl, law_post rfl rfl (tb := 4) (by kernel_rfl) Try.underlying4 ?_ hW' hb⟩
  rw [Try.params4]
  intro t ht
  simp only [List.mem_cons, List.not_mem_nil, or_false] at ht
  rcases ht with rfl | rfl
  · exact ⟨by kernel_rfl, of_decide_eq_true (by kernel_rfl)⟩
  · exact ⟨by kernel_rfl, of_decide_eq_true (by kernel_rfl)⟩

set_option maxRecDepth 100000 in
theorem markShifts_lifted (os : Os) (started : os.Started) (H : Type) (enc : TypeId × Value → H) (F : Stop.Interp) :
    ReturnsInHanded {} Try.checked os 4 .any ((Rows.OpenSpec.upto Rows.markShiftsSpec).pre6 enc Try.prog Try.f4 Rows.markShiftsUptoRow.domain false) (((Rows.OpenSpec.upto Rows.markShiftsSpec).at F).post enc Try.prog Try.f4 false true false false) := by
  refine returnsInHanded_of_cond (C := Try.checked) (s := Rows.OpenSpec.upto Rows.markShiftsSpec) (k := Rows.uptoSmall) rfl own started (by kernel_rfl) Try.func4
    (OpenSpec.witness (enc := enc) (C := Try.checked) (s := Rows.OpenSpec.upto Rows.markShiftsSpec) (k := Rows.uptoSmall) rfl false ⟨#[], #[.slice none 0 0, .int .i64 0], []⟩ 8 (by kernel_rfl) (by kernel_rfl) (by kernel_rfl)
      (x := ([.nil, .lit (.int .i64 0)], [], [])) (by kernel_rfl) rfl (by kernel_rfl)) ?_
  intro W base args ds gs before hval hW _ hk _
  exact markShifts_calls H enc W base args ds gs before hval hW hk

theorem markShifts_holds : Rows.MarkShiftsUptoSaid :=
  OpenClaim.holds_of_cond 4 Try.f4 rfl rfl rfl rfl rfl rfl rfl ⟨rfl, rfl, rfl, rfl, rfl⟩ rfl rfl rfl rfl rfl (by kernel_rfl) Try.func4 (by kernel_rfl)
    (of_decide_eq_true (by kernel_rfl)) (by unfold Func.isWrapper; first | (rw [if_pos (by decide +kernel)]; kernel_rfl) | (rw [if_neg (by decide +kernel)]; exact ⟨rfl, rfl⟩))
    (fun os started H enc _ F => markShifts_lifted os started H enc F)

end Go.Proofs.Ytikcmmkeblgamaa
