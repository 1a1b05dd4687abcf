/-
  Tokens, by the reference: mastref1.upTo, chars, endTag2.
-/
import Derived.Test.YtbhildmalcfhiaaGreatDoorTokSmall
import Derived.Test.YtbhildmalcfhiaaGreatDoorTokScan
import Derived.Test.YtbhildmalcfhiaaGreatDoorTokTok
import Derived.Laws.Strings2
namespace Go.Proofs.YtbhildmalcfhiaaGreatDoor
open Go.RowKit Go.Deep

theorem lowerR_q (s z : ByteArray) (w : World) (hs : s.size ≤ 1073741824) (hz : lowBA s = z) : Calls Tryz.prog 90 #[.string s] w fun e w' => e = .returned (.string z) ∧ Below w.heap.size w w' := by
  subst hz
  exact refLower_any s w hs
set_option maxHeartbeats 1000000 in
theorem upToR_q (B : Nat) (s t : ByteArray) (tl : List UInt8) (i e n : Nat) (w : World) (hi : i ≤ s.size) (hs : s.size ≤ 1048576) (ht : t.size ≤ 3) (hm : MaxT B w) (hl : t.data.toList = tl) (he : upE s i tl = e) (hn : upN s i tl = n) :
    Calls Tryz.prog 87 #[.string s, .int .i64 (i : Int), .string t] w fun e' w' => e' = .returned (.tuple #[.int .i64 (e : Int), .int .i64 (n : Int)]) ∧ w = w' := by
  subst hl he hn
  have HM := Lib.hid hm; clear hm
  have hi0 : (0 : Int) ≤ (i : Int) := by omega
  have hi1 : (i : Int) ≤ (s.size : Int) := by omega
  have hys : (s.extract i s.size).size ≤ 1048576 := by rw [ext_size s (Nat.le_refl _)]; omega
  rcases up_cases s i t.data.toList hi with ⟨h1, h2, h3⟩ | ⟨k, h1, h2, h3, h4⟩
  · obtain ⟨m, hm1, hm2⟩ : ∃ m : Int, Lib.index (s.extract i s.size).data.toList t.data.toList = m ∧ m < 0 := ⟨-1, h1, by decide⟩
    have H1 := Lib.hid hm1
    clear hm1
    have H2 := Lib.hid h2
    have H3 := Lib.hid h3
    clear h1 h2 h3
    go_enter Tryz.func87, Tryz.ntmps87
    go_wp2_with (go_at_call 122; go_must (refine (index_q B _ _ _ _ HM.out hys H1.out).mono ?_); rintro e w1 ⟨rfl, rfl⟩)
    go_ret2
    exact ⟨by rw [H2.out, H3.out]; rfl, rfl⟩
  · rw [size_toList] at h3 h4
    have H1 := Lib.hid (show Lib.index (s.extract i s.size).data.toList t.data.toList = (k : Int) from h1)
    have H2 := Lib.hid h2
    have H3 := Lib.hid h3
    clear h1 h2 h3
    have hk0 : ¬ (k : Int) < 0 := by omega
    go_enter Tryz.func87, Tryz.ntmps87
    go_wp2_with (go_at_call 122; go_must (refine (index_q B _ _ _ _ HM.out hys H1.out).mono ?_); rintro e w1 ⟨rfl, rfl⟩)
    go_ret2
    exact ⟨by rw [H2.out, H3.out]; simp, rfl⟩
def CharsR (B : Nat) (L : List (TokR × Value)) (add : List TokR) (w : World) (e : Ending) (w' : World) : Prop :=
  ∃ (ov : Value) (N : List (TokR × Value)), e = .returned ov ∧ N.map (·.1) = add ∧ ToksOwn w' B ov (L ++ N) ∧ Below B w w'
theorem two_bytes {s : ByteArray} {i : Nat} (h : i + 2 ≤ s.size) : ((s.extract i (i + 2)).toList == [60, 47]) = (isAt s i 60 && isAt s (i + 1) 47) := by
  have h0 : i < s.size := by omega
  have h1 : i + 1 < s.size := by omega
  have e : (s.extract i (i + 2)).toList = [bAt s i, bAt s (i + 1)] := by
    rw [Go.ByteArray.toList_eq, ByteArray.data_extract, Array.toList_extract]
    have k0 := bAt_get h0
    have k1 := bAt_get h1
    obtain ⟨a0, b0⟩ := List.getElem?_eq_some_iff.1 k0
    obtain ⟨a1, b1⟩ := List.getElem?_eq_some_iff.1 k1
    simp only [List.extract]
    rw [List.drop_eq_getElem_cons a0, List.drop_eq_getElem_cons a1, b0, b1, show i + 2 - i = 2 by omega]
    rfl
  rw [e, isAt, isAt, decide_eq_true h0, decide_eq_true h1, Bool.true_and, Bool.true_and]
  rw [Bool.eq_iff_iff, Bool.and_eq_true, beq_iff_eq, List.cons.injEq, List.cons.injEq]
  constructor
  · rintro ⟨h5, h6, _⟩
    exact ⟨decide_eq_true (by unfold nAt; rw [h5]; rfl), decide_eq_true (by unfold nAt; rw [h6]; rfl)⟩
  · rintro ⟨h5, h6⟩
    have h7 := of_decide_eq_true h5
    have h8 := of_decide_eq_true h6
    unfold nAt at h7 h8
    exact ⟨UInt8.toNat_inj.1 (by have : (60 : UInt8).toNat = 60 := rfl; omega), UInt8.toNat_inj.1 (by have : (47 : UInt8).toNat = 47 := rfl; omega), rfl⟩

set_option maxRecDepth 100000 in
set_option maxHeartbeats 4000000 in
theorem endTag_q (s name : ByteArray) (i : Nat) (v : Bool) (w : World) (hi : i < s.size) (hs : s.size ≤ 1048576) (hn : name.size ≤ 1048576) (hv : endAt s name i = v) :
    Calls Tryz.prog 52 #[.string s, .int .i64 (i : Int), .string name] w fun e w' => e = .returned (.bool v) ∧ Below w.heap.size w w' := by
  have HV := Lib.hid hv; clear hv
  have hi0 : (0 : Int) ≤ (i : Int) := by omega
  by_cases hf : i + 2 + name.size ≤ s.size
  · have hfit : (i : Int) + 2 + (name.size : Int) ≤ (s.size : Int) := by omega
    have hk1' : (i : Int) ≤ (i : Int) + 2 := by omega
    have hk2' : (i : Int) + 2 ≤ (i : Int) + 2 + (name.size : Int) := by omega
    have hk3' : (i : Int) + 2 ≤ (s.size : Int) := by omega
    obtain ⟨y, hy⟩ : ∃ y, s.extract i (i + 2) = y := ⟨_, rfl⟩
    obtain ⟨q1, hq1⟩ : ∃ q, (y.toList == [60, 47]) = q := ⟨_, rfl⟩
    have hq2 : (isAt s i 60 && isAt s (i + 1) 47) = q1 := by rw [← two_bytes (by omega), hy, hq1]
    cases q1 with
    | false =>
      have HE := Lib.hid (show v = false by
        rw [← HV.out]
        refine end_no (fun h => ?_)
        have h1 : isAt s i 60 = true := by simp [isAt, h.2.1]; omega
        have h2 : isAt s (i + 1) 47 = true := by simp [isAt, h.2.2]; omega
        rw [h1, h2] at hq2; cases hq2)
      clear hq2
      go_enter Tryz.func52, Tryz.ntmps52
      go_wp2_with fail
      go_ret
      exact ⟨ret_bool HE.out.symm, Below.refl _ _⟩
    | true =>
      rw [Bool.and_eq_true] at hq2
      obtain ⟨z, hz⟩ : ∃ z, lowBA (s.extract (i + 2) (i + 2 + name.size)) = z := ⟨_, rfl⟩
      obtain ⟨q, hq⟩ : ∃ q, (z.toList == name.toList) = q := ⟨_, rfl⟩
      have HE := Lib.hid (end_eq (name := name) hf (isAt_lt hq2.1).2 (isAt_lt hq2.2).2)
      rw [hz, hq, HV.out] at HE
      have HZ := Lib.hid hz
      clear hz hq2 HV
      cases q with
      | false =>
        go_enter Tryz.func52, Tryz.ntmps52
        go_wp2_with (go_at_call 90; go_must (refine (lowerR_q _ z _ (by rw [ext_size s hf]; omega) HZ.out).mono ?_); rintro e w5 ⟨rfl, hb5⟩; have HB5 := Lib.hid hb5; clear hb5)
        go_ret
        exact ⟨ret_bool (by rw [HE.out]; rfl), HB5.out⟩
      | true =>
        by_cases hend : i + 2 + name.size = s.size
        · have e9 : ((i : Int) + 2 + (name.size : Int) == (s.size : Int)) = true := by rw [beq_iff_eq]; omega
          rw [decide_eq_true hend] at HE
          clear hend
          go_enter Tryz.func52, Tryz.ntmps52
          go_wp2_with (go_at_call 90; go_must (refine (lowerR_q _ z _ (by rw [ext_size s hf]; omega) HZ.out).mono ?_); rintro e w5 ⟨rfl, hb5⟩; have HB5 := Lib.hid hb5; clear hb5)
          go_ret
          exact ⟨ret_bool (by rw [HE.out]; rfl), HB5.out⟩
        · have e9 : ((i : Int) + 2 + (name.size : Int) == (s.size : Int)) = false := by rw [beq_eq_false_iff_ne]; omega
          have hK : i + 2 + name.size < s.size := by omega
          have hK' : (i : Int) + 2 + (name.size : Int) < (s.size : Int) := by omega
          obtain ⟨n2, hn2⟩ : ∃ n, nAt s (i + 2 + name.size) = n := ⟨_, rfl⟩
          have e2 : ((s[i + 2 + name.size]'hK).toNat : Int) = n2 := by rw [bAt_idx hK]; exact hn2
          obtain ⟨t, ht⟩ : ∃ a, tagN n2 = a := ⟨_, rfl⟩
          rw [decide_eq_false hend, hn2, ht] at HE
          have HY := Lib.hid ht
          clear hend hn2 ht
          go_enter Tryz.func52, Tryz.ntmps52
          go_wp2_with (first
            | (go_at_call 90; go_must (refine (lowerR_q _ z _ (by rw [ext_size s hf]; omega) HZ.out).mono ?_); rintro e w5 ⟨rfl, hb5⟩; have HB5 := Lib.hid hb5; clear hb5)
            | (go_at_call 89; go_must (refine (tagR_q _ _ _ HY.out).mono ?_); rintro e w6 ⟨rfl, rfl⟩))
          go_ret
          exact ⟨ret_bool (by rw [HE.out]; simp), HB5.out⟩
  · have hfit : decide ((i : Int) + 2 + (name.size : Int) ≤ (s.size : Int)) = false := decide_eq_false (by omega)
    have HE := Lib.hid (show v = false by rw [← HV.out]; exact end_no (fun h => hf h.1))
    clear hf
    go_enter Tryz.func52, Tryz.ntmps52
    go_wp2_with fail
    go_ret
    exact ⟨ret_bool HE.out.symm, Below.refl _ _⟩

end Go.Proofs.YtbhildmalcfhiaaGreatDoor
