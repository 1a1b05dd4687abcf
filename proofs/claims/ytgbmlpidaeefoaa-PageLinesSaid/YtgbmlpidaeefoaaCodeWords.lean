/-
  The reference's reading of a shortcode's line: bytes, names, values, words.
-/
import Derived.Test.YtgbmlpidaeefoaaLine
namespace Go.Proofs.Ytgbmlpidaeefoaa
open Go.RowKit Go.Deep

theorem isLetter_c (c : UInt8) (w : World) : Calls Try.prog 46 #[.int .u8 (c.toNat : Int)] w fun e w' => e = .returned (.bool (smallC c || upperC c)) ∧ w = w' := by
  go_enter Try.func46, Try.ntmps46
  go_wp2_with fail
  all_goals
    go_ret
    refine ⟨ret_bool ?_, rfl⟩
    rw [Bool.eq_iff_iff]
    simp [smallC, upperC]
    try omega

theorem isDigit_c (c : UInt8) (w : World) : Calls Try.prog 47 #[.int .u8 (c.toNat : Int)] w fun e w' => e = .returned (.bool (digitC c)) ∧ w = w' := by
  go_enter Try.func47, Try.ntmps47
  go_wp2_with fail
  all_goals
    go_ret
    refine ⟨ret_bool ?_, rfl⟩
    rw [Bool.eq_iff_iff]
    simp [digitC]
    try omega

theorem byte_all {p : UInt8 → Bool} (h : ∀ n : Fin 256, p (UInt8.ofNat n.1) = true) (c : UInt8) : p c = true := by
  have := h ⟨c.toNat, c.toNat_lt⟩
  simpa using this
theorem argC_int (c : UInt8) : argC c = (decide (97 ≤ (c.toNat : Int)) && decide ((c.toNat : Int) ≤ 122) || digitC c || ((c.toNat : Int) == 95)) :=
  eq_of_beq (byte_all (p := fun c => argC c == (decide (97 ≤ (c.toNat : Int)) && decide ((c.toNat : Int) ≤ 122) || digitC c || ((c.toNat : Int) == 95))) (by decide +kernel) c)
theorem nameC_int (c : UInt8) : nameC c = (decide (97 ≤ (c.toNat : Int)) && decide ((c.toNat : Int) ≤ 122) || digitC c || ((c.toNat : Int) == 45)) :=
  eq_of_beq (byte_all (p := fun c => nameC c == (decide (97 ≤ (c.toNat : Int)) && decide ((c.toNat : Int) ≤ 122) || digitC c || ((c.toNat : Int) == 45))) (by decide +kernel) c)
theorem bareC_int (c : UInt8) : bareC c = ((smallC c || upperC c) || digitC c || ((c.toNat : Int) == 45) || ((c.toNat : Int) == 95) || ((c.toNat : Int) == 46) || ((c.toNat : Int) == 47) || ((c.toNat : Int) == 58)) :=
  eq_of_beq (byte_all (p := fun c => bareC c == ((smallC c || upperC c) || digitC c || ((c.toNat : Int) == 45) || ((c.toNat : Int) == 95) || ((c.toNat : Int) == 46) || ((c.toNat : Int) == 47) || ((c.toNat : Int) == 58))) (by decide +kernel) c)

theorem wordByte_c (c : UInt8) (w : World) : Calls Try.prog 56 #[.int .u8 (c.toNat : Int)] w fun e w' => e = .returned (.bool (argC c)) ∧ w = w' := by
  have HE := Lib.hid (argC_int c)
  go_enter Try.func56, Try.ntmps56
  go_wp2_with (go_at_call 47; go_must (refine (isDigit_c _ _).mono ?_); rintro e w1 ⟨rfl, rfl⟩)
  all_goals
    go_ret
    refine ⟨ret_bool ?_, rfl⟩
    rw [HE.out]
    first
    | (simp_all; done)
    | (simp_all; omega)

theorem bareByte_c (c : UInt8) (w : World) : Calls Try.prog 70 #[.int .u8 (c.toNat : Int)] w fun e w' => e = .returned (.bool (bareC c)) ∧ w = w' := by
  have HE := Lib.hid (bareC_int c)
  go_enter Try.func70, Try.ntmps70
  go_wp2_with (first
    | (go_at_call 46; go_must (refine (isLetter_c _ _).mono ?_); rintro e w1 ⟨rfl, rfl⟩)
    | (go_at_call 47; go_must (refine (isDigit_c _ _).mono ?_); rintro e w1 ⟨rfl, rfl⟩))
  all_goals
    go_ret
    refine ⟨ret_bool ?_, rfl⟩
    rw [HE.out]
    first
    | (simp_all; done)
    | (simp_all; omega)

theorem isEmpty_false {s : ByteArray} (h : ¬ s.size = 0) : s.toList.isEmpty = false := by
  have hne : ¬ s.data.toList = [] := by intro hs; exact absurd (by rw [← size_toList, hs]; rfl) h
  have h2 : ¬ s.toList = [] := by rw [Go.ByteArray.toList_eq]; exact hne
  cases hs : s.toList with | nil => exact absurd hs h2 | cons a r => rfl
theorem isEmpty_true {s : ByteArray} (h : s.size = 0) : s.toList = [] := by rw [Go.ByteArray.toList_eq]; exact List.eq_nil_of_length_eq_zero (by rw [size_toList]; exact h)
theorem data_nil {s : ByteArray} (h : s.size = 0) : s.data.toList = [] := List.eq_nil_of_length_eq_zero (by rw [size_toList]; exact h)

theorem bareL_not {l : List UInt8} {k : Nat} {c : UInt8} (h : l[k]? = some c) (hc : bareC c = false ∨ (k = 0 ∧ (c.toNat : Int) = 58)) : bareL l = false := by
  cases l with
  | nil => rfl
  | cons a r =>
    rcases hc with hc | ⟨rfl, hc⟩
    · have : (a :: r).all bareC = false := by rw [List.all_eq_false]; exact ⟨c, List.mem_of_getElem? h, by simp [hc]⟩
      simp only [bareL, this, Bool.and_false]
    · simp at h
      subst h
      have : decide (a.toNat ≠ 58) = false := by simp; omega
      simp only [bareL, this, Bool.false_and]
theorem bareL_all2 {l : List UInt8} (hn : l ≠ []) (h : ∀ (j : Nat) (c : UInt8), l[j]? = some c → bareC c = true ∧ (j = 0 → ¬ (c.toNat : Int) = 58)) : bareL l = true := by
  cases l with
  | nil => exact absurd rfl hn
  | cons a r =>
    have h0 := (h 0 a rfl).2 rfl
    have : decide (a.toNat ≠ 58) = true := by simp; omega
    simp only [bareL, this, Bool.true_and, List.all_eq_true]
    intro c hc
    obtain ⟨j, hj⟩ := List.getElem?_of_mem hc
    exact (h j c hj).1

set_option maxHeartbeats 2000000 in
theorem bare_c (s : ByteArray) (w : World) (hs : s.size ≤ 1073741824) : Calls Try.prog 57 #[.string s] w fun e w' => e = .returned (.bool (bareL s.data.toList)) ∧ w = w' := by
  go_enter Try.func57, Try.ntmps57
  go_wp2_with fail
  go_loopw [3] (fun t wr => ∃ k : Nat, k ≤ s.size ∧ t = .int .i64 k ∧ EqW wr w ∧ Hid (∀ (j : Nat) (c : UInt8), s.data.toList[j]? = some c → j < k → bareC c = true ∧ (j = 0 → ¬ (c.toNat : Int) = 58))) (fun t _ => s.size - (intOf t).toNat)
  case atStart => exact ⟨0, Nat.zero_le _, rfl, EqW.refl _, fun j c _ h => absurd h (by omega)⟩
  case round =>
    obtain ⟨k, hk, rfl, hww, hall⟩ := hrel
    unfold EqW at hww
    subst hww
    by_cases hlt : k < s.size
    · have HB := Lib.hid (byteR hlt)
      by_cases hk0 : k = 0
      · subst hk0
        cases hbc : bareC s[0]
        · have HX := Lib.hid (bareL_not HB.out (Or.inl hbc))
          go_wp2_with (go_at_call 70; go_must (refine (bareByte_c _ _).mono ?_); rintro e w1 ⟨rfl, rfl⟩)
          go_ret
          exact ⟨ret_bool HX.out.symm, rfl⟩
        · have HBC := Lib.hid hbc
          by_cases h58 : (s[0].toNat : Int) = 58
          · have HX := Lib.hid (bareL_not HB.out (Or.inr ⟨rfl, h58⟩))
            have hb58 : ((s[0].toNat : Int) == 58) = true := by simpa using h58
            clear h58
            go_wp2_with (go_at_call 70; go_must (refine (bareByte_c _ _).mono ?_); rintro e w1 ⟨rfl, rfl⟩)
            go_ret
            exact ⟨ret_bool HX.out.symm, rfl⟩
          · have H58 := Lib.hid h58
            have hb58 : ((s[0].toNat : Int) == 58) = false := by simpa using h58
            clear h58
            go_wp2_with (go_at_call 70; go_must (refine (bareByte_c _ _).mono ?_); rintro e w1 ⟨rfl, rfl⟩)
            go_roundw
            case rel =>
              refine ⟨1, by omega, by go_num, EqW.refl _, fun j c h3 h4 => ?_⟩
              have : j = 0 := by omega
              subst this
              rw [HB.out] at h3
              cases h3
              exact ⟨HBC.out, fun _ => H58.out⟩
            case measure => simp [intOf]; omega
      · have hk1 : ((k : Int) == 0) = false := by simpa using hk0
        have HK := Lib.hid hk0
        clear hk0
        cases hbc : bareC s[k]
        · have HX := Lib.hid (bareL_not HB.out (Or.inl hbc))
          go_wp2_with (go_at_call 70; go_must (refine (bareByte_c _ _).mono ?_); rintro e w1 ⟨rfl, rfl⟩)
          go_ret
          exact ⟨ret_bool HX.out.symm, rfl⟩
        · have HBC := Lib.hid hbc
          go_wp2_with (go_at_call 70; go_must (refine (bareByte_c _ _).mono ?_); rintro e w1 ⟨rfl, rfl⟩)
          go_roundw
          case rel =>
            refine ⟨k + 1, by omega, by go_num, EqW.refl _, fun j c h3 h4 => ?_⟩
            rcases Nat.lt_succ_iff_lt_or_eq.1 h4 with h5 | rfl
            · exact hall.out j c h3 h5
            · rw [HB.out] at h3
              cases h3
              exact ⟨HBC.out, fun h => absurd h HK.out⟩
          case measure => simp [intOf]; omega
    · by_cases h0 : s.size = 0
      · have e0 := isEmpty_true h0
        have HX := Lib.hid (show bareL s.data.toList = false by rw [data_nil h0]; rfl)
        go_wp2_with fail
        go_ret
        exact ⟨ret_bool HX.out.symm, rfl⟩
      · have e0 := isEmpty_false h0
        have HX := Lib.hid (bareL_all2 (l := s.data.toList) (fun e => h0 (by rw [← size_toList, e]; rfl)) (fun j c h3 => hall.out j c h3 (by have := (List.getElem?_eq_some_iff.1 h3).1; rw [size_toList] at this; omega)))
        go_wp2_with fail
        go_ret
        exact ⟨ret_bool HX.out.symm, rfl⟩

theorem codeName_bad {l : List UInt8} {k : Nat} {c : UInt8} (h : l[k]? = some c) (hc : nameC c = false) : codeNameL l = false := by
  have : l.all nameC = false := by rw [List.all_eq_false]; exact ⟨c, List.mem_of_getElem? h, by simp [hc]⟩
  simp only [codeNameL, this, Bool.and_false]
theorem codeName_size {l : List UInt8} (h : l.length < 1 ∨ 20 < l.length) : codeNameL l = false := by
  simp only [codeNameL]
  rcases h with h | h
  · rw [show decide (1 ≤ l.length) = false by rw [decide_eq_false_iff_not]; omega]; simp
  · rw [show decide (l.length ≤ 20) = false by simp; omega]; simp
theorem codeName_good {l : List UInt8} (h1 : 1 ≤ l.length) (h2 : l.length ≤ 20) (h : ∀ (j : Nat) (c : UInt8), l[j]? = some c → nameC c = true) : codeNameL l = true := by
  simp only [codeNameL, h1, h2, decide_true, Bool.true_and, List.all_eq_true]
  intro c hc
  obtain ⟨j, hj⟩ := List.getElem?_of_mem hc
  exact h j c hj

set_option maxHeartbeats 2000000 in
theorem codeName_c (s : ByteArray) (w : World) (hs : s.size ≤ 1073741824) : Calls Try.prog 27 #[.string s] w fun e w' => e = .returned (.bool (codeNameL s.data.toList)) ∧ w = w' := by
  by_cases hz : s.size < 1 ∨ 20 < s.size
  · have HX := Lib.hid (codeName_size (l := s.data.toList) (by rw [size_toList]; exact hz))
    go_enter Try.func27, Try.ntmps27
    go_wp2_with fail
    all_goals first
      | (exfalso; omega)
      | (go_ret
         exact ⟨ret_bool HX.out.symm, rfl⟩)
  have hz1 : 1 ≤ s.size := by omega
  have hz2 : s.size ≤ 20 := by omega
  clear hz
  go_enter Try.func27, Try.ntmps27
  go_wp2_with fail
  all_goals first
    | (exfalso; omega)
    | skip
  go_loopw [3] (fun t wr => ∃ k : Nat, k ≤ s.size ∧ t = .int .i64 k ∧ EqW wr w ∧ Hid (∀ (j : Nat) (c : UInt8), s.data.toList[j]? = some c → j < k → nameC c = true)) (fun t _ => s.size - (intOf t).toNat)
  case atStart => exact ⟨0, Nat.zero_le _, rfl, EqW.refl _, fun j c _ h => absurd h (by omega)⟩
  case round =>
    obtain ⟨k, hk, rfl, hww, hall⟩ := hrel
    unfold EqW at hww
    subst hww
    by_cases hlt : k < s.size
    · have HB := Lib.hid (byteR hlt)
      have HN := Lib.hid (nameC_int s[k])
      go_wp2_with (go_at_call 47; go_must (refine (isDigit_c _ _).mono ?_); rintro e w1 ⟨rfl, rfl⟩)
      all_goals first
        | (go_roundw
           case rel =>
             have hn : nameC s[k] = true := by rw [HN.out]; first | (simp_all; done) | (simp_all; omega)
             refine ⟨k + 1, by omega, by go_num, EqW.refl _, fun j c h3 h4 => ?_⟩
             rcases Nat.lt_succ_iff_lt_or_eq.1 h4 with h5 | rfl
             · exact hall.out j c h3 h5
             · rw [HB.out] at h3
               cases h3
               exact hn
           case measure => simp [intOf]; omega)
        | (go_ret
           have hn : nameC s[k] = false := by rw [HN.out]; first | (simp_all; done) | (simp_all; omega)
           exact ⟨ret_bool (codeName_bad HB.out hn).symm, rfl⟩)
    · have HR := Lib.hid (codeName_good (l := s.data.toList) (by rw [size_toList]; omega) (by rw [size_toList]; omega) (fun j c h3 => hall.out j c h3 (by have := (List.getElem?_eq_some_iff.1 h3).1; rw [size_toList] at this; omega)))
      go_wp2_with fail
      go_ret
      exact ⟨ret_bool HR.out.symm, rfl⟩

theorem argName_first2 {s : ByteArray} (h : 0 < s.size) (hc : (s[0].toNat : Int) < 97 ∨ 122 < (s[0].toNat : Int)) : argNameL s.data.toList = false := argName_first (byteR h) (by
  unfold smallC
  rcases hc with hc | hc
  · rw [show decide (97 ≤ s[0].toNat) = false by simp; omega]; rfl
  · rw [show decide (s[0].toNat ≤ 122) = false by simp; omega, Bool.and_false])
theorem argName_bad2 {s : ByteArray} {k : Nat} (hk : k < s.size) (h0 : 0 < s.size) (hsm : smallC s[0] = true) (hc : argC s[k] = false) : argNameL s.data.toList = false := by
  by_cases hk0 : k = 0
  · subst hk0
    rw [small_arg hsm] at hc
    cases hc
  · exact argName_bad (by omega) (byteR hk) hc

set_option maxHeartbeats 2000000 in
theorem argName_c (s : ByteArray) (w : World) (hs : s.size ≤ 1073741824) : Calls Try.prog 29 #[.string s] w fun e w' => e = .returned (.bool (argNameL s.data.toList)) ∧ w = w' := by
  by_cases h0 : s.size < 1
  · have HX := Lib.hid (show argNameL s.data.toList = false by rw [data_nil (by omega)]; rfl)
    go_enter Try.func29, Try.ntmps29
    go_wp2_with fail
    all_goals first
      | (exfalso; omega)
      | (go_ret
         exact ⟨ret_bool HX.out.symm, rfl⟩)
  by_cases h20 : 20 < s.size
  · have HX := Lib.hid (argName_long (l := s.data.toList) (by rw [size_toList]; exact h20))
    go_enter Try.func29, Try.ntmps29
    go_wp2_with fail
    all_goals first
      | (exfalso; omega)
      | (go_ret
         exact ⟨ret_bool HX.out.symm, rfl⟩)
  have hz1 : 0 < s.size := by omega
  by_cases hsm : (s[0].toNat : Int) < 97 ∨ 122 < (s[0].toNat : Int)
  · have HX := Lib.hid (argName_first2 hz1 hsm)
    go_enter Try.func29, Try.ntmps29
    go_wp2_with fail
    all_goals first
      | (exfalso; omega)
      | (go_ret
         exact ⟨ret_bool HX.out.symm, rfl⟩)
  have HSm := Lib.hid (show smallC s[0] = true by simp [smallC]; omega)
  go_enter Try.func29, Try.ntmps29
  go_wp2_with fail
  all_goals first
    | (exfalso; omega)
    | skip
  go_loopw [3] (fun t wr => ∃ k : Nat, k ≤ s.size ∧ t = .int .i64 k ∧ EqW wr w ∧ Hid (∀ (j : Nat) (c : UInt8), s.data.toList[j]? = some c → j < k → argC c = true)) (fun t _ => s.size - (intOf t).toNat)
  case atStart => exact ⟨0, Nat.zero_le _, rfl, EqW.refl _, fun j c _ h => absurd h (by omega)⟩
  case round =>
    obtain ⟨k, hk, rfl, hww, hall⟩ := hrel
    unfold EqW at hww
    subst hww
    by_cases hlt : k < s.size
    · have HB := Lib.hid (byteR hlt)
      cases hn : argC s[k]
      · have HX := Lib.hid (argName_bad2 hlt hz1 HSm.out hn)
        go_wp2_with (go_at_call 56; go_must (refine (wordByte_c _ _).mono ?_); rintro e w1 ⟨rfl, rfl⟩)
        go_ret
        exact ⟨ret_bool HX.out.symm, rfl⟩
      · have HN := Lib.hid hn
        go_wp2_with (go_at_call 56; go_must (refine (wordByte_c _ _).mono ?_); rintro e w1 ⟨rfl, rfl⟩)
        go_roundw
        case rel =>
          refine ⟨k + 1, by omega, by go_num, EqW.refl _, fun j c h3 h4 => ?_⟩
          rcases Nat.lt_succ_iff_lt_or_eq.1 h4 with h5 | rfl
          · exact hall.out j c h3 h5
          · rw [HB.out] at h3
            cases h3
            exact HN.out
        case measure => simp [intOf]; omega
    · have HR := Lib.hid (argName_good (l := s.data.toList) (byteR hz1) HSm.out (by rw [size_toList]; omega) (fun j c h3 _ => hall.out j c h3 (by have := (List.getElem?_eq_some_iff.1 h3).1; rw [size_toList] at this; omega)))
      go_wp2_with fail
      go_ret
      exact ⟨ret_bool HR.out.symm, rfl⟩

end Go.Proofs.Ytgbmlpidaeefoaa
