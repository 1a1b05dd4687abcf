/-
  The error of a term's postings: ship.termFault.
-/
import Derived.Test.YtjcegmbfipjdcaaGreatDoorIdxBytes
import Derived.Deep.CutRange
namespace Go.Proofs.YtjcegmbfipjdcaaGreatDoor
open Go.RowKit Go.ChangeShapes Go.WideShapes Go.Deep

theorem termE_empty {n : Nat} {t : TermR} (h : t.docs.length = 0 ∨ t.docs.length ≠ t.many.length) : termE n t = 1 := by rw [termE, if_pos h]
theorem termE_loop {n : Nat} {t : TermR} (h0 : ¬ t.docs.length = 0) (h : t.docs.length = t.many.length) : termE n t = firstE (postE1 n t.docs t.many) (t.docs.length - 0) 0 := by rw [termE, if_neg (by rintro (h1 | h1); exact h0 h1; exact h1 h)]; rfl
theorem firstE_all {f : Nat → Int} {n : Nat} : ∀ (m k : Nat), n - k = m → firstE f m k = 0 → ∀ j, k ≤ j → j < n → f j = 0
  | 0, k, hm, _, j, h1, h2 => by omega
  | m + 1, k, hm, h, j, h1, h2 => by
    rw [firstE] at h
    by_cases hk : f k = 0
    · rw [if_pos hk] at h
      rcases Nat.lt_or_ge k j with h3 | h3
      · exact firstE_all m (k + 1) (by omega) h j (by omega) h2
      · have : j = k := by omega
        rw [this]; exact hk
    · rw [if_neg hk] at h
      exact absurd h hk
theorem front_sizes {D : List DocR} {S : List Int} (h : frontE D S = 0) : S.length = D.length ∧ D.length ≤ 120 := by
  unfold frontE at h
  by_cases h1 : docsE D = 0
  · rw [if_pos h1] at h
    unfold sizesE at h
    unfold docsE at h1
    refine ⟨?_, ?_⟩
    · by_cases h2 : S.length = D.length
      · exact h2
      · rw [if_neg h2] at h; cases h
    · by_cases h3 : 120 < D.length
      · rw [if_pos h3] at h1; cases h1
      · omega
  · rw [if_neg h1] at h
    exact absurd h h1
theorem terms_eq {n : Nat} {T : List TermR} (h : termsE n T = 0) : ∀ t ∈ T, t.docs.length ≤ t.many.length := by
  intro t ht
  obtain ⟨k, hk⟩ := List.getElem?_of_mem ht
  have h1 := firstE_all T.length 0 (by omega) h k (Nat.zero_le _) (List.getElem?_eq_some_iff.1 hk).1
  rw [termE1_at hk] at h1
  split at h1
  · cases h1
  · split at h1
    · cases h1
    · by_cases h2 : t.docs.length = 0 ∨ t.docs.length ≠ t.many.length
      · rw [termE_empty h2] at h1; cases h1
      · omega

set_option maxRecDepth 100000 in
set_option maxHeartbeats 4000000 in
theorem termFault_q (word : ByteArray) (ds ms : List Int) (dv mv : Value) (n : Nat) (w : World) (hd : IntsAt w dv ds) (hm : IntsAt w mv ms) :
    Calls Tryz.prog 55 #[.agg #[.string word, dv, mv], .int .i64 n] w fun e w' => e = .returned (.int .i64 (termE n ⟨word, ds, ms⟩)) ∧ Below w.heap.size w w' := by
  obtain ⟨Ad, cd, bd, od, rfl, hlcd, hcd, hAd, hcelld⟩ := hd
  obtain ⟨Am, cm, bm, om, rfl, hlcm, hcm, hAm, hcellm⟩ := hm
  unfold maxLen at hcd hcm
  have HCd := Lib.hid hcelld; clear hcelld
  have HCm := Lib.hid hcellm; clear hcellm
  have HAd := Lib.hid hAd; clear hAd
  have HAm := Lib.hid hAm; clear hAm
  have HB0 := Lib.hid ((Below.refl w.heap.size w).alloc (Nat.le_refl _) (.cells #[.string word, .slice Ad ds.length cd, .slice Am ms.length cm] 71))
  by_cases h0 : ds.length = 0
  · have HR := Lib.hid (termE_empty (n := n) (t := ⟨word, ds, ms⟩) (Or.inl h0))
    have hds : ds = [] := List.eq_nil_of_length_eq_zero h0
    subst hds
    clear h0
    go_enter Tryz.func55, Tryz.ntmps55
    go_wp2_with fail
    go_ret
    exact ⟨ret_int HR.out.symm, HB0.out⟩
  have e0 : ((ds.length : Int) == 0) = false := by simp; intro h; rw [h] at h0; exact h0 rfl
  by_cases hne : ds.length = ms.length
  · have e1 : ((ds.length : Int) == (ms.length : Int)) = true := by simp [hne]
    have HL := Lib.hid (termE_loop (n := n) (t := ⟨word, ds, ms⟩) h0 hne)
    have HLm := Lib.hid hne
    clear hne h0
    have HX0 := Lib.hid (CB.new w #[.string word, .slice Ad ds.length cd, .slice Am ms.length cm] 71)
    go_enter Tryz.func55, Tryz.ntmps55
    go_wp2_with fail
    clear e0 e1
    obtain ⟨nb, hnb⟩ : ∃ nb, w.heap.size = nb := ⟨_, rfl⟩
    rw [hnb] at HX0
    have HNb := Lib.hid hnb
    rw [hnb]
    clear hnb
    go_loopw [23] (fun t wr => ∃ k : Nat, k ≤ ds.length ∧ t = .int .i64 k ∧ Hid (Below w.heap.size w wr) ∧ Hid (CB wr nb 71 #[.string word, .slice Ad ds.length cd, .slice Am ms.length cm]) ∧ Hid (termE n ⟨word, ds, ms⟩ = firstE (postE1 n ds ms) (ds.length - k) k)) (fun t _ => ds.length - (intOf t).toNat)
    case atStart => exact ⟨0, Nat.zero_le _, rfl, HB0.out, HX0.out, HL.out⟩
    case round =>
      clear HB0 HX0 HL
      obtain ⟨k, hk, rfl, HB, HX, HE⟩ := hrel
      by_cases hlt : k < ds.length
      · skip
        obtain ⟨x, hx⟩ : ∃ x, ds[k]? = some x := ⟨_, List.getElem?_eq_getElem hlt⟩
        have hkm : k < ms.length := by rw [← HLm.out]; exact hlt
        obtain ⟨y, hy⟩ : ∃ y, ms[k]? = some y := ⟨_, List.getElem?_eq_getElem hkm⟩
        have hAd' := HAd.out (by rintro rfl; simp at hlt)
        have hAm' := HAm.out (by rintro rfl; simp at hkm)
        subst hAd' hAm'
        have p0 := Keeps.of_below HB.out _ _ (HCd.out k _ hx).1
        have p1 := Keeps.of_below HB.out _ _ (HCm.out k _ hy).1
        have H1 := Lib.hid (postE1_at (n := n) hx hy)
        have hwr : 0 < k → IntKind.i64.wrap ((k : Int) - 1) = ((k - 1 : Nat) : Int) ∧ k - 1 < ds.length := fun h => ⟨by rw [show (k : Int) - 1 = ((k - 1 : Nat) : Int) by omega]; rw [IntKind.wrap_i64]; omega, by omega⟩
        have hpz : 0 < k → ∃ z, intPrev ds x k = decide (x ≤ z) ∧ wr.cell? ⟨bd, od + (k - 1), none⟩ = some (.int .i64 z) := by
          intro h
          obtain ⟨jj, rfl⟩ : ∃ jj, k = jj + 1 := ⟨k - 1, by omega⟩
          obtain ⟨z, hz⟩ : ∃ z, ds[jj]? = some z := ⟨_, List.getElem?_eq_getElem (by omega)⟩
          exact ⟨z, intPrev_succ hz, Keeps.of_below HB.out _ _ (HCd.out jj _ hz).1⟩
        clear hx hy
        have hkm := Lib.hid hkm
        have bx1 := HX.out.c 1
        have bx2 := HX.out.c 2
        have bsh := HX.out.sh
        by_cases hx0 : x < 0
        · have H2 := Lib.hid (HE.out.trans (firstE_bad hlt (H1.out.trans (if_pos (Or.inl hx0))) (by decide)))
          clear hwr hpz
          go_wp2_with fail
          go_ret
          exact ⟨ret_int H2.out.symm, HB.out⟩
        by_cases hxn : (n : Int) ≤ x
        · have H2 := Lib.hid (HE.out.trans (firstE_bad hlt (H1.out.trans (if_pos (Or.inr hxn))) (by decide)))
          clear hwr hpz
          go_wp2_with fail
          go_ret
          exact ⟨ret_int H2.out.symm, HB.out⟩
        have H2 := Lib.hid (H1.out.trans (if_neg (by omega)))
        rcases Nat.eq_zero_or_pos k with hk0 | hk0
        · have hk3 : ¬ (0 : Int) < k := by omega
          have H3 := Lib.hid (H2.out.trans (if_neg (by rw [hk0]; simp [intPrev])))
          have HK0 := Lib.hid hk0
          clear hk0 hwr hpz H1 H2
          by_cases hy1 : y < 1
          · have H4 := Lib.hid (HE.out.trans (firstE_bad hlt (H3.out.trans (if_pos (Or.inl hy1))) (by decide)))
            go_wp2_with fail
            go_ret
            exact ⟨ret_int H4.out.symm, HB.out⟩
          by_cases hy6 : 600000 < y
          · have H4 := Lib.hid (HE.out.trans (firstE_bad hlt (H3.out.trans (if_pos (Or.inr hy6))) (by decide)))
            go_wp2_with fail
            go_ret
            exact ⟨ret_int H4.out.symm, HB.out⟩
          have H4 := Lib.hid (H3.out.trans (if_neg (by omega)))
          go_wp2_with fail
          go_roundw
          case rel => exact ⟨k + 1, by omega, by go_num, HB.out, HX.out, HE.out.trans (firstE_ok hlt H4.out)⟩
          case measure => simp [intOf]; omega
        · obtain ⟨hwr, hjl⟩ := hwr hk0
          obtain ⟨z, hz, hpz⟩ := hpz hk0
          have hk3 : (0 : Int) < k := by omega
          have HZ2 := Lib.hid hz
          clear hz
          have HK0 := Lib.hid hk0
          clear hk0
          by_cases hxz : x ≤ z
          · have H3 := Lib.hid (HE.out.trans (firstE_bad hlt (H2.out.trans (if_pos (by rw [HZ2.out]; simpa using hxz))) (by decide)))
            clear H1 H2
            go_wp2_with fail
            go_ret
            exact ⟨ret_int H3.out.symm, HB.out⟩
          · have H3 := Lib.hid (H2.out.trans (if_neg (by rw [HZ2.out]; simpa using hxz)))
            clear H1 H2
            by_cases hy1 : y < 1
            · have H4 := Lib.hid (HE.out.trans (firstE_bad hlt (H3.out.trans (if_pos (Or.inl hy1))) (by decide)))
              go_wp2_with fail
              go_ret
              exact ⟨ret_int H4.out.symm, HB.out⟩
            by_cases hy6 : 600000 < y
            · have H4 := Lib.hid (HE.out.trans (firstE_bad hlt (H3.out.trans (if_pos (Or.inr hy6))) (by decide)))
              go_wp2_with fail
              go_ret
              exact ⟨ret_int H4.out.symm, HB.out⟩
            have H4 := Lib.hid (H3.out.trans (if_neg (by omega)))
            go_wp2_with fail
            go_roundw
            case rel => exact ⟨k + 1, by omega, by go_num, HB.out, HX.out, HE.out.trans (firstE_ok hlt H4.out)⟩
            case measure => simp [intOf]; omega
      · have H1 := Lib.hid (HE.out.trans (firstE_end (by omega)))
        go_wp2_with fail
        go_ret
        exact ⟨ret_int H1.out.symm, HB.out⟩
  · have e1 : ((ds.length : Int) == (ms.length : Int)) = false := by simp; omega
    have HR := Lib.hid (termE_empty (n := n) (t := ⟨word, ds, ms⟩) (Or.inr hne))
    have hne := Lib.hid hne
    have h0 := Lib.hid h0
    go_enter Tryz.func55, Tryz.ntmps55
    go_wp2_with fail
    go_ret
    exact ⟨ret_int HR.out.symm, HB0.out⟩

end Go.Proofs.YtjcegmbfipjdcaaGreatDoor
