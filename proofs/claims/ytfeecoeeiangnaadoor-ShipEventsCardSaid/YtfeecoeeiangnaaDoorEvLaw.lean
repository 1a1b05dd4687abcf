/-
  The law of the events, walked.
-/
import Derived.Test.YtfeecoeeiangnaaDoorRefEvents
import Derived.Test.YtfeecoeeiangnaaDoorEqualStrs
namespace Go.Proofs.YtfeecoeeiangnaaDoor
open Go.RowKit Go.Deep

theorem ones_of_strs {w : World} {B n : Nat} {v : Value} {L : List (List UInt8)} (h : w.ownsRow B 9 1 v n (strCells L)) : OnesAt w v (strCells L) := OnesAt.of_own h
set_option maxRecDepth 100000 in
set_option maxHeartbeats 2000000 in
theorem shipEvents_walk (a b : List OutV) (va vb : Value) (w : World) (ha : OutsAt w va a) (hb : OutsAt w vb b) (hm : MaxAt w) : Calls Tryd.prog 4 #[va, vb] w fun e w' => e = .returned (.bool true) ∧ Below w.heap.size w w' := by
  have Ha := Lib.hid ha; have Hb := Lib.hid hb; have HM := Lib.hid hm
  have hev := events_q a b va vb w ha hb hm
  clear ha hb hm
  obtain ⟨N, hN⟩ : ∃ N, w.heap.size = N := ⟨_, rfl⟩
  rw [hN] at hev ⊢
  have HN := Lib.hid hN
  obtain ⟨e1, he1⟩ : ∃ e, outsE a = e := ⟨_, rfl⟩
  obtain ⟨e2, he2⟩ : ∃ e, outsE b = e := ⟨_, rfl⟩
  have HE1 := Lib.hid he1
  have HE2 := Lib.hid he2
  by_cases h1 : e1 = 0
  · subst h1
    by_cases h2 : e2 = 0
    · subst h2
      have hEv : evE a b = 0 := by rw [evE, if_pos he1, he2]
      have hEr : evR a b = evS a b := by rw [evR, if_pos hEv]
      unfold EvPost at hev
      rw [hEv, hEr] at hev
      have HEv := Lib.hid hev
      clear hev hEv hEr he1 he2 hN
      go_enter Tryd.func4, Tryd.ntmps4
      go_wp2_with fail
      refine HEv.out.mono ?_
      rintro e w1 ⟨v, rfl, own1, hb1⟩
      have HO1 := Lib.hid own1; have B1 := Lib.hid (show Below N w w1 from hb1)
      clear own1 hb1
      go_wp2_with fail
      refine (outsError_q a _ 0 w1 (Ha.out.keep (Keeps.of_below (by rw [HN.out]; exact B1.out))) (HM.out.keep (Keeps.of_below (by rw [HN.out]; exact B1.out))) HE1.out).mono ?_
      rintro e w2 ⟨rfl, hb⟩
      have B2 := Lib.hid (B1.out.trans (hb.mono (by have := B1.out.size; have := HN.out; omega))); have HO2 := Lib.hid (own_keepB2 HO1.out hb)
      clear hb
      go_wp2_with fail
      refine (outsError_q b _ 0 w2 (Hb.out.keep (Keeps.of_below (by rw [HN.out]; exact B2.out))) (HM.out.keep (Keeps.of_below (by rw [HN.out]; exact B2.out))) HE2.out).mono ?_
      rintro e w3 ⟨rfl, hb⟩
      have B3 := Lib.hid (B2.out.trans (hb.mono (by have := B2.out.size; have := HN.out; omega))); have HO3 := Lib.hid (own_keepB2 HO2.out hb)
      clear hb
      go_wp2_with fail
      have hq := eventsOf_q a b va vb w3 (Ha.out.keep (Keeps.of_below (by rw [HN.out]; exact B3.out))) (Hb.out.keep (Keeps.of_below (by rw [HN.out]; exact B3.out))) (HM.out.keep (Keeps.of_below (by rw [HN.out]; exact B3.out))) HE1.out HE2.out
      refine hq.mono ?_
      clear hq
      rintro e w4 ⟨v4, rfl, own4, hb⟩
      have B4 := Lib.hid (B3.out.trans (hb.mono (by have := B3.out.size; have := HN.out; omega))); have HO4 := Lib.hid (own_keepB2 HO3.out hb); have HQ4 := Lib.hid own4
      clear hb own4
      go_wp2_with fail
      refine (equalStrs_any (evS a b) (evS a b) _ _ w4 (ones_of_strs HO4.out) (ones_of_strs HQ4.out)).mono ?_
      rw [show (evS a b == evS a b) = true by simp]
      rintro e w5 ⟨rfl, hb⟩
      have B5 := Lib.hid (B4.out.trans (hb.mono (by have := B4.out.size; have := HN.out; omega)))
      clear hb
      go_wp2_with fail
      go_ret
      exact ⟨rfl, B5.out⟩
    · have hEv : evE a b = e2 := by rw [evE, if_pos he1, he2]
      have hEr : evR a b = [] := by rw [evR, if_neg (by rw [hEv]; exact h2)]
      unfold EvPost at hev
      rw [hEv, hEr] at hev
      have HEv := Lib.hid hev
      clear hev hEv hEr he1 he2 hN
      go_enter Tryd.func4, Tryd.ntmps4
      go_wp2_with fail
      refine HEv.out.mono ?_
      rintro e w1 ⟨v, rfl, own1, hb1⟩
      have HO1 := Lib.hid own1; have B1 := Lib.hid (show Below N w w1 from hb1)
      clear own1 hb1
      go_wp2_with fail
      refine (outsError_q a _ 0 w1 (Ha.out.keep (Keeps.of_below (by rw [HN.out]; exact B1.out))) (HM.out.keep (Keeps.of_below (by rw [HN.out]; exact B1.out))) HE1.out).mono ?_
      rintro e w2 ⟨rfl, hb⟩
      have B2 := Lib.hid (B1.out.trans (hb.mono (by have := B1.out.size; have := HN.out; omega))); have HO2 := Lib.hid (own_keepB2 HO1.out hb)
      clear hb
      go_wp2_with fail
      refine (outsError_q b _ e2 w2 (Hb.out.keep (Keeps.of_below (by rw [HN.out]; exact B2.out))) (HM.out.keep (Keeps.of_below (by rw [HN.out]; exact B2.out))) HE2.out).mono ?_
      rintro e w3 ⟨rfl, hb⟩
      have B3 := Lib.hid (B2.out.trans (hb.mono (by have := B2.out.size; have := HN.out; omega))); have HO3 := Lib.hid (own_keepB2 HO2.out hb)
      clear hb
      obtain ⟨A, c, rfl, _, _, _⟩ := own_form HO3.out
      go_wp2_with fail
      go_ret
      exact ⟨ret_bool (by simp), B3.out⟩
  · have hEv : evE a b = e1 := by rw [evE, if_neg (by rw [he1]; exact h1), he1]
    have hEr : evR a b = [] := by rw [evR, if_neg (by rw [hEv]; exact h1)]
    unfold EvPost at hev
    rw [hEv, hEr] at hev
    have HEv := Lib.hid hev
    clear hev hEv hEr he1 he2 hN
    go_enter Tryd.func4, Tryd.ntmps4
    go_wp2_with fail
    refine HEv.out.mono ?_
    rintro e w1 ⟨v, rfl, own1, hb1⟩
    have HO1 := Lib.hid own1; have B1 := Lib.hid (show Below N w w1 from hb1)
    clear own1 hb1
    go_wp2_with fail
    refine (outsError_q a _ e1 w1 (Ha.out.keep (Keeps.of_below (by rw [HN.out]; exact B1.out))) (HM.out.keep (Keeps.of_below (by rw [HN.out]; exact B1.out))) HE1.out).mono ?_
    rintro e w2 ⟨rfl, hb⟩
    have B2 := Lib.hid (B1.out.trans (hb.mono (by have := B1.out.size; have := HN.out; omega))); have HO2 := Lib.hid (own_keepB2 HO1.out hb)
    clear hb
    obtain ⟨A, c, rfl, _, _, _⟩ := own_form HO2.out
    go_wp2_with fail
    go_ret
    exact ⟨ret_bool (by simp), B2.out⟩

end Go.Proofs.YtfeecoeeiangnaaDoor
