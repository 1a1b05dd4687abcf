/-
  The stem of a word: ship.Stem and mastref1.StemOf.
-/
import Derived.Test.YtmcelgokchhpfaaGreatDoorBytes
import Derived.Test.YtmcelgokchhpfaaGreatDoorShelf
import Derived.Deep.DeepMust
import Derived.WalkSpells
import Derived.Outline
namespace Go.Proofs.YtmcelgokchhpfaaGreatDoor
open Go.RowKit Go.Deep

/-- a small letter -/
def smallB (c : UInt8) : Bool := decide (97 ≤ (c.toNat : Int)) && decide ((c.toNat : Int) ≤ 122)
/-- the rules, in their order: does rule k serve, and how many letters does it take -/
def ruleB (l : List UInt8) : Nat → Bool
  | 0 => Lib.hasSuffix l [115, 115, 101, 115]
  | 1 => Lib.hasSuffix l [105, 101, 115]
  | 2 => Lib.hasSuffix l [115, 115]
  | 3 => Lib.hasSuffix l [115]
  | 4 => Lib.hasSuffix l [101, 101, 100]
  | 5 => Lib.hasSuffix l [105, 110, 103] && decide (6 ≤ l.length)
  | 6 => Lib.hasSuffix l [101, 100] && decide (5 ≤ l.length)
  | _ => false
def ruleCut : Nat → Nat
  | 0 => 2
  | 1 => 2
  | 2 => 0
  | 3 => 1
  | 4 => 1
  | 5 => 3
  | 6 => 2
  | _ => 0
/-- the first rule from k on that serves -/
def stemFrom (l : List UInt8) : Nat → Nat → List UInt8
  | 0, _ => l
  | f + 1, k => if ruleB l k then l.take (l.length - ruleCut k) else stemFrom l f (k + 1)
/-- the stem of a word -/
def stemL (l : List UInt8) : List UInt8 := if l.all smallB && decide (4 ≤ l.length) then stemFrom l 7 0 else l

theorem stem_at {l : List UInt8} {k : Nat} (h : l.all smallB = true) (h4 : 4 ≤ l.length) (hk : k < 7) (hno : ∀ j, j < k → ruleB l j = false) (hr : ruleB l k = true) : stemL l = l.take (l.length - ruleCut k) := by
  have key : ∀ n j, j + n = k → stemFrom l (7 - j) j = l.take (l.length - ruleCut k) := by
    intro n
    induction n with
    | zero => intro j hj; obtain rfl : j = k := by omega
              rw [show 7 - j = (6 - j) + 1 from by omega, stemFrom, if_pos hr]
    | succ n ih => intro j hj; rw [show 7 - j = (6 - j) + 1 from by omega, stemFrom, if_neg (by simp [hno j (by omega)]), show 6 - j = 7 - (j + 1) from by omega, ih (j + 1) (by omega)]
  rw [stemL, if_pos (by simp [h, h4])]
  exact key k 0 (by omega)
theorem stem_none {l : List UInt8} (hno : ∀ j, j < 7 → ruleB l j = false) : stemL l = l := by
  unfold stemL
  split
  · simp [stemFrom, hno 0 (by omega), hno 1 (by omega), hno 2 (by omega), hno 3 (by omega), hno 4 (by omega), hno 5 (by omega), hno 6 (by omega)]
  · rfl
theorem stem_short {l : List UInt8} (h : l.length < 4) : stemL l = l := by
  rw [stemL, if_neg (by simp; intro _; omega)]
theorem stem_other {l : List UInt8} {c : UInt8} {k : Nat} (h : l[k]? = some c) (hc : smallB c = false) : stemL l = l := by
  have : l.all smallB = false := by
    rw [List.all_eq_false]
    exact ⟨c, List.mem_of_getElem? h, by simp [hc]⟩
  rw [stemL, this]; rfl
theorem all_small {l : List UInt8} (h : ∀ (j : Nat) (c : UInt8), l[j]? = some c → j < l.length → smallB c = true) : l.all smallB = true := by
  rw [List.all_eq_true]
  intro c hc
  obtain ⟨j, hj⟩ := List.getElem?_of_mem hc
  exact h j c hj (List.getElem?_eq_some_iff.1 hj).1

theorem hasSuffix_val (s p : ByteArray) (v : Bool) (w : World) (hs : s.size ≤ 1048576) (h : Lib.hasSuffix s.data.toList p.data.toList = v) :
    Calls Tryz.prog 23 #[.string s, .string p] w fun e w' => e = .returned (.bool v) ∧ w = w' :=
  (Tryz.strings_HasSuffix s p w (by omega)).mono fun _ _ ⟨he, hw⟩ => ⟨by rw [he, h], hw.symm⟩

theorem stem_ext (s : ByteArray) (c : Nat) : (s.extract 0 (s.size - c)).data.toList = (⟨(s.data.toList.take (s.data.toList.length - c)).toArray⟩ : ByteArray).data.toList := by
  rw [Lib.extract_data, size_toList, List.drop_zero, Nat.sub_zero]
theorem stem_ext0 (s : ByteArray) : s.data.toList = (⟨(s.data.toList.take (s.data.toList.length - 0)).toArray⟩ : ByteArray).data.toList := by
  rw [Nat.sub_zero, List.take_length]

theorem byteAt {s : ByteArray} {i : Nat} {c : UInt8} (h : s.data.toList[i]? = some c) (hi : i < s.size) : s[i] = c := by
  obtain ⟨h1, h2⟩ := List.getElem?_eq_some_iff.1 h
  rw [← h2]; rfl

set_option maxRecDepth 100000 in
set_option maxHeartbeats 4000000 in
theorem stemOf_any (s : ByteArray) (w : World) (hs : s.size ≤ 1048576) :
    Calls Tryz.prog 16 #[.string s] w fun e w' => e = .returned (.string ⟨(stemL s.data.toList).toArray⟩) ∧ Below w.heap.size w w' := by
  by_cases h4 : s.size < 4
  · go_enter Tryz.func16, Tryz.ntmps16
    go_wp2_with fail
    go_ret
    exact ⟨ret_string (by rw [stem_short (by rw [size_toList]; omega)]), Below.refl _ _⟩
  · go_enter Tryz.func16, Tryz.ntmps16
    go_wp2_with fail
    go_loopw [3] (fun t w2 => ∃ k : Nat, k ≤ s.size ∧ t = .int .i64 k ∧ EqW w2 w ∧ ∀ (j : Nat) (c : UInt8), s.data.toList[j]? = some c → j < k → smallB c = true) (fun t _ => s.size - (intOf t).toNat)
    case atStart => exact ⟨0, Nat.zero_le _, rfl, EqW.refl _, fun j c _ h => absurd h (by omega)⟩
    case round =>
      obtain ⟨k, hk, rfl, hww, hall0⟩ := hrel
      unfold EqW at hww
      subst hww
      have hall := Lib.hid hall0; clear hall0
      by_cases hlt : k < s.size
      · obtain ⟨ch, hch0⟩ : ∃ b, s.data.toList[k]? = some b := ⟨_, List.getElem?_eq_getElem (by rw [size_toList]; exact hlt)⟩
        have hch := Lib.hid hch0; clear hch0
        have hsb : s[k] = ch := byteAt hch.out hlt
        subst hsb
        by_cases h1 : 97 ≤ (s[k].toNat : Int)
        · by_cases h2 : (s[k].toNat : Int) ≤ 122
          · have hsm := Lib.hid (show smallB s[k] = true by simp [smallB, h1, h2])
            have h1' : ¬ (s[k].toNat : Int) < 97 := by omega
            have h2' : ¬ 122 < (s[k].toNat : Int) := by omega
            go_wp2_with fail
            go_roundw
            case rel =>
              refine ⟨k + 1, by omega, by go_num, EqW.refl _, fun j c h3 h4 => ?_⟩
              rcases Nat.lt_succ_iff_lt_or_eq.1 h4 with h5 | rfl
              · exact hall.out j c h3 h5
              · rw [hch.out] at h3
                cases h3
                exact hsm.out
            case measure => simp [intOf]; omega
          · have hsm := Lib.hid (show smallB s[k] = false by simp [smallB, h2])
            have h1' : ¬ (s[k].toNat : Int) < 97 := by omega
            have h2' : 122 < (s[k].toNat : Int) := by omega
            go_wp2_with fail
            go_ret
            exact ⟨ret_string (by rw [stem_other hch.out hsm.out]), Below.refl _ _⟩
        · have hsm := Lib.hid (show smallB s[k] = false by simp [smallB, h1])
          have h1' : (s[k].toNat : Int) < 97 := by omega
          go_wp2_with fail
          go_ret
          exact ⟨ret_string (by rw [stem_other hch.out hsm.out]), Below.refl _ _⟩
      · have hsm := Lib.hid (all_small (l := s.data.toList) (fun j c h3 h4 => hall.out j c h3 (by rw [size_toList] at h4; omega)))
        by_cases r0 : Lib.hasSuffix s.data.toList [115, 115, 101, 115] = true
        · have QY := Lib.hid (show ruleB s.data.toList 0 = true by simp [ruleB, r0])
          have R0 := Lib.hid r0; clear r0
          have hst := Lib.hid (stem_at (l := s.data.toList) (k := 0) hsm.out (by rw [size_toList]; omega) (by omega) (fun j hj => absurd hj (by omega)) QY.out)
          go_wp2_with (first
            | (go_at_call 23; (with_reducible refine (hasSuffix_val s (ByteArray.mk #[115, 115, 101, 115]) true _ hs R0.out).mono ?_); rintro e w' ⟨rfl, rfl⟩))
          go_ret
          exact ⟨ret_string (by rw [hst.out]; exact stem_ext s 2), Below.refl _ _⟩
        · have r0' : Lib.hasSuffix s.data.toList [115, 115, 101, 115] = false := by simpa using r0
          clear r0
          have Q0 := Lib.hid (show ruleB s.data.toList 0 = false by simp [ruleB, r0'])
          have R0 := Lib.hid r0'; clear r0'
          by_cases r1 : Lib.hasSuffix s.data.toList [105, 101, 115] = true
          · have QY := Lib.hid (show ruleB s.data.toList 1 = true by simp [ruleB, r1])
            have R1 := Lib.hid r1; clear r1
            have hst := Lib.hid (stem_at (l := s.data.toList) (k := 1) hsm.out (by rw [size_toList]; omega) (by omega) (fun j hj => by
              match j, hj with
              | 0, _ => exact Q0.out) QY.out)
            go_wp2_with (first
              | (go_at_call 23; (with_reducible refine (hasSuffix_val s (ByteArray.mk #[115, 115, 101, 115]) false _ hs R0.out).mono ?_); rintro e w' ⟨rfl, rfl⟩)
              | (go_at_call 23; (with_reducible refine (hasSuffix_val s (ByteArray.mk #[105, 101, 115]) true _ hs R1.out).mono ?_); rintro e w' ⟨rfl, rfl⟩))
            go_ret
            exact ⟨ret_string (by rw [hst.out]; exact stem_ext s 2), Below.refl _ _⟩
          · have r1' : Lib.hasSuffix s.data.toList [105, 101, 115] = false := by simpa using r1
            clear r1
            have Q1 := Lib.hid (show ruleB s.data.toList 1 = false by simp [ruleB, r1'])
            have R1 := Lib.hid r1'; clear r1'
            by_cases r2 : Lib.hasSuffix s.data.toList [115, 115] = true
            · have QY := Lib.hid (show ruleB s.data.toList 2 = true by simp [ruleB, r2])
              have R2 := Lib.hid r2; clear r2
              have hst := Lib.hid (stem_at (l := s.data.toList) (k := 2) hsm.out (by rw [size_toList]; omega) (by omega) (fun j hj => by
                match j, hj with
                | 0, _ => exact Q0.out
                | 1, _ => exact Q1.out) QY.out)
              go_wp2_with (first
                | (go_at_call 23; (with_reducible refine (hasSuffix_val s (ByteArray.mk #[115, 115, 101, 115]) false _ hs R0.out).mono ?_); rintro e w' ⟨rfl, rfl⟩)
                | (go_at_call 23; (with_reducible refine (hasSuffix_val s (ByteArray.mk #[105, 101, 115]) false _ hs R1.out).mono ?_); rintro e w' ⟨rfl, rfl⟩)
                | (go_at_call 23; (with_reducible refine (hasSuffix_val s (ByteArray.mk #[115, 115]) true _ hs R2.out).mono ?_); rintro e w' ⟨rfl, rfl⟩))
              go_ret
              exact ⟨ret_string (by rw [hst.out]; exact stem_ext0 s), Below.refl _ _⟩
            · have r2' : Lib.hasSuffix s.data.toList [115, 115] = false := by simpa using r2
              clear r2
              have Q2 := Lib.hid (show ruleB s.data.toList 2 = false by simp [ruleB, r2'])
              have R2 := Lib.hid r2'; clear r2'
              by_cases r3 : Lib.hasSuffix s.data.toList [115] = true
              · have QY := Lib.hid (show ruleB s.data.toList 3 = true by simp [ruleB, r3])
                have R3 := Lib.hid r3; clear r3
                have hst := Lib.hid (stem_at (l := s.data.toList) (k := 3) hsm.out (by rw [size_toList]; omega) (by omega) (fun j hj => by
                  match j, hj with
                  | 0, _ => exact Q0.out
                  | 1, _ => exact Q1.out
                  | 2, _ => exact Q2.out) QY.out)
                go_wp2_with (first
                  | (go_at_call 23; (with_reducible refine (hasSuffix_val s (ByteArray.mk #[115, 115, 101, 115]) false _ hs R0.out).mono ?_); rintro e w' ⟨rfl, rfl⟩)
                  | (go_at_call 23; (with_reducible refine (hasSuffix_val s (ByteArray.mk #[105, 101, 115]) false _ hs R1.out).mono ?_); rintro e w' ⟨rfl, rfl⟩)
                  | (go_at_call 23; (with_reducible refine (hasSuffix_val s (ByteArray.mk #[115, 115]) false _ hs R2.out).mono ?_); rintro e w' ⟨rfl, rfl⟩)
                  | (go_at_call 23; (with_reducible refine (hasSuffix_val s (ByteArray.mk #[115]) true _ hs R3.out).mono ?_); rintro e w' ⟨rfl, rfl⟩))
                go_ret
                exact ⟨ret_string (by rw [hst.out]; exact stem_ext s 1), Below.refl _ _⟩
              · have r3' : Lib.hasSuffix s.data.toList [115] = false := by simpa using r3
                clear r3
                have Q3 := Lib.hid (show ruleB s.data.toList 3 = false by simp [ruleB, r3'])
                have R3 := Lib.hid r3'; clear r3'
                by_cases r4 : Lib.hasSuffix s.data.toList [101, 101, 100] = true
                · have QY := Lib.hid (show ruleB s.data.toList 4 = true by simp [ruleB, r4])
                  have R4 := Lib.hid r4; clear r4
                  have hst := Lib.hid (stem_at (l := s.data.toList) (k := 4) hsm.out (by rw [size_toList]; omega) (by omega) (fun j hj => by
                    match j, hj with
                    | 0, _ => exact Q0.out
                    | 1, _ => exact Q1.out
                    | 2, _ => exact Q2.out
                    | 3, _ => exact Q3.out) QY.out)
                  go_wp2_with (first
                    | (go_at_call 23; (with_reducible refine (hasSuffix_val s (ByteArray.mk #[115, 115, 101, 115]) false _ hs R0.out).mono ?_); rintro e w' ⟨rfl, rfl⟩)
                    | (go_at_call 23; (with_reducible refine (hasSuffix_val s (ByteArray.mk #[105, 101, 115]) false _ hs R1.out).mono ?_); rintro e w' ⟨rfl, rfl⟩)
                    | (go_at_call 23; (with_reducible refine (hasSuffix_val s (ByteArray.mk #[115, 115]) false _ hs R2.out).mono ?_); rintro e w' ⟨rfl, rfl⟩)
                    | (go_at_call 23; (with_reducible refine (hasSuffix_val s (ByteArray.mk #[115]) false _ hs R3.out).mono ?_); rintro e w' ⟨rfl, rfl⟩)
                    | (go_at_call 23; (with_reducible refine (hasSuffix_val s (ByteArray.mk #[101, 101, 100]) true _ hs R4.out).mono ?_); rintro e w' ⟨rfl, rfl⟩))
                  go_ret
                  exact ⟨ret_string (by rw [hst.out]; exact stem_ext s 1), Below.refl _ _⟩
                · have r4' : Lib.hasSuffix s.data.toList [101, 101, 100] = false := by simpa using r4
                  clear r4
                  have Q4 := Lib.hid (show ruleB s.data.toList 4 = false by simp [ruleB, r4'])
                  have R4 := Lib.hid r4'; clear r4'
                  by_cases r5 : Lib.hasSuffix s.data.toList [105, 110, 103] = true
                  · by_cases z5 : 6 ≤ s.size
                    · have QY := Lib.hid (show ruleB s.data.toList 5 = true by simp [ruleB, r5, z5])
                      have R5 := Lib.hid r5; clear r5
                      have hst := Lib.hid (stem_at (l := s.data.toList) (k := 5) hsm.out (by rw [size_toList]; omega) (by omega) (fun j hj => by
                        match j, hj with
                        | 0, _ => exact Q0.out
                        | 1, _ => exact Q1.out
                        | 2, _ => exact Q2.out
                        | 3, _ => exact Q3.out
                        | 4, _ => exact Q4.out) QY.out)
                      go_wp2_with (first
                        | (go_at_call 23; (with_reducible refine (hasSuffix_val s (ByteArray.mk #[115, 115, 101, 115]) false _ hs R0.out).mono ?_); rintro e w' ⟨rfl, rfl⟩)
                        | (go_at_call 23; (with_reducible refine (hasSuffix_val s (ByteArray.mk #[105, 101, 115]) false _ hs R1.out).mono ?_); rintro e w' ⟨rfl, rfl⟩)
                        | (go_at_call 23; (with_reducible refine (hasSuffix_val s (ByteArray.mk #[115, 115]) false _ hs R2.out).mono ?_); rintro e w' ⟨rfl, rfl⟩)
                        | (go_at_call 23; (with_reducible refine (hasSuffix_val s (ByteArray.mk #[115]) false _ hs R3.out).mono ?_); rintro e w' ⟨rfl, rfl⟩)
                        | (go_at_call 23; (with_reducible refine (hasSuffix_val s (ByteArray.mk #[101, 101, 100]) false _ hs R4.out).mono ?_); rintro e w' ⟨rfl, rfl⟩)
                        | (go_at_call 23; (with_reducible refine (hasSuffix_val s (ByteArray.mk #[105, 110, 103]) true _ hs R5.out).mono ?_); rintro e w' ⟨rfl, rfl⟩))
                      go_ret
                      exact ⟨ret_string (by rw [hst.out]; exact stem_ext s 3), Below.refl _ _⟩
                    · have Q5 := Lib.hid (show ruleB s.data.toList 5 = false by simp [ruleB, r5]; omega)
                      have R5 := Lib.hid r5; clear r5
                      by_cases r6 : Lib.hasSuffix s.data.toList [101, 100] = true
                      · by_cases z6 : 5 ≤ s.size
                        · have QY := Lib.hid (show ruleB s.data.toList 6 = true by simp [ruleB, r6, z6])
                          have R6 := Lib.hid r6; clear r6
                          have hst := Lib.hid (stem_at (l := s.data.toList) (k := 6) hsm.out (by rw [size_toList]; omega) (by omega) (fun j hj => by
                            match j, hj with
                            | 0, _ => exact Q0.out
                            | 1, _ => exact Q1.out
                            | 2, _ => exact Q2.out
                            | 3, _ => exact Q3.out
                            | 4, _ => exact Q4.out
                            | 5, _ => exact Q5.out) QY.out)
                          go_wp2_with (first
                            | (go_at_call 23; (with_reducible refine (hasSuffix_val s (ByteArray.mk #[115, 115, 101, 115]) false _ hs R0.out).mono ?_); rintro e w' ⟨rfl, rfl⟩)
                            | (go_at_call 23; (with_reducible refine (hasSuffix_val s (ByteArray.mk #[105, 101, 115]) false _ hs R1.out).mono ?_); rintro e w' ⟨rfl, rfl⟩)
                            | (go_at_call 23; (with_reducible refine (hasSuffix_val s (ByteArray.mk #[115, 115]) false _ hs R2.out).mono ?_); rintro e w' ⟨rfl, rfl⟩)
                            | (go_at_call 23; (with_reducible refine (hasSuffix_val s (ByteArray.mk #[115]) false _ hs R3.out).mono ?_); rintro e w' ⟨rfl, rfl⟩)
                            | (go_at_call 23; (with_reducible refine (hasSuffix_val s (ByteArray.mk #[101, 101, 100]) false _ hs R4.out).mono ?_); rintro e w' ⟨rfl, rfl⟩)
                            | (go_at_call 23; (with_reducible refine (hasSuffix_val s (ByteArray.mk #[105, 110, 103]) true _ hs R5.out).mono ?_); rintro e w' ⟨rfl, rfl⟩)
                            | (go_at_call 23; (with_reducible refine (hasSuffix_val s (ByteArray.mk #[101, 100]) true _ hs R6.out).mono ?_); rintro e w' ⟨rfl, rfl⟩))
                          go_ret
                          exact ⟨ret_string (by rw [hst.out]; exact stem_ext s 2), Below.refl _ _⟩
                        · have Q6 := Lib.hid (show ruleB s.data.toList 6 = false by simp [ruleB, r6]; omega)
                          have R6 := Lib.hid r6; clear r6
                          have hst := Lib.hid (stem_none (l := s.data.toList) (fun j hj => by
                            match j, hj with
                            | 0, _ => exact Q0.out
                            | 1, _ => exact Q1.out
                            | 2, _ => exact Q2.out
                            | 3, _ => exact Q3.out
                            | 4, _ => exact Q4.out
                            | 5, _ => exact Q5.out
                            | 6, _ => exact Q6.out
                          ))
                          go_wp2_with (first
                            | (go_at_call 23; (with_reducible refine (hasSuffix_val s (ByteArray.mk #[115, 115, 101, 115]) false _ hs R0.out).mono ?_); rintro e w' ⟨rfl, rfl⟩)
                            | (go_at_call 23; (with_reducible refine (hasSuffix_val s (ByteArray.mk #[105, 101, 115]) false _ hs R1.out).mono ?_); rintro e w' ⟨rfl, rfl⟩)
                            | (go_at_call 23; (with_reducible refine (hasSuffix_val s (ByteArray.mk #[115, 115]) false _ hs R2.out).mono ?_); rintro e w' ⟨rfl, rfl⟩)
                            | (go_at_call 23; (with_reducible refine (hasSuffix_val s (ByteArray.mk #[115]) false _ hs R3.out).mono ?_); rintro e w' ⟨rfl, rfl⟩)
                            | (go_at_call 23; (with_reducible refine (hasSuffix_val s (ByteArray.mk #[101, 101, 100]) false _ hs R4.out).mono ?_); rintro e w' ⟨rfl, rfl⟩)
                            | (go_at_call 23; (with_reducible refine (hasSuffix_val s (ByteArray.mk #[105, 110, 103]) true _ hs R5.out).mono ?_); rintro e w' ⟨rfl, rfl⟩)
                            | (go_at_call 23; (with_reducible refine (hasSuffix_val s (ByteArray.mk #[101, 100]) true _ hs R6.out).mono ?_); rintro e w' ⟨rfl, rfl⟩))
                          go_ret
                          exact ⟨ret_string (by rw [hst.out]), Below.refl _ _⟩
                      · have r6' : Lib.hasSuffix s.data.toList [101, 100] = false := by simpa using r6
                        clear r6
                        have Q6 := Lib.hid (show ruleB s.data.toList 6 = false by simp [ruleB, r6'])
                        have R6 := Lib.hid r6'; clear r6'
                        have hst := Lib.hid (stem_none (l := s.data.toList) (fun j hj => by
                          match j, hj with
                          | 0, _ => exact Q0.out
                          | 1, _ => exact Q1.out
                          | 2, _ => exact Q2.out
                          | 3, _ => exact Q3.out
                          | 4, _ => exact Q4.out
                          | 5, _ => exact Q5.out
                          | 6, _ => exact Q6.out
                        ))
                        go_wp2_with (first
                          | (go_at_call 23; (with_reducible refine (hasSuffix_val s (ByteArray.mk #[115, 115, 101, 115]) false _ hs R0.out).mono ?_); rintro e w' ⟨rfl, rfl⟩)
                          | (go_at_call 23; (with_reducible refine (hasSuffix_val s (ByteArray.mk #[105, 101, 115]) false _ hs R1.out).mono ?_); rintro e w' ⟨rfl, rfl⟩)
                          | (go_at_call 23; (with_reducible refine (hasSuffix_val s (ByteArray.mk #[115, 115]) false _ hs R2.out).mono ?_); rintro e w' ⟨rfl, rfl⟩)
                          | (go_at_call 23; (with_reducible refine (hasSuffix_val s (ByteArray.mk #[115]) false _ hs R3.out).mono ?_); rintro e w' ⟨rfl, rfl⟩)
                          | (go_at_call 23; (with_reducible refine (hasSuffix_val s (ByteArray.mk #[101, 101, 100]) false _ hs R4.out).mono ?_); rintro e w' ⟨rfl, rfl⟩)
                          | (go_at_call 23; (with_reducible refine (hasSuffix_val s (ByteArray.mk #[105, 110, 103]) true _ hs R5.out).mono ?_); rintro e w' ⟨rfl, rfl⟩)
                          | (go_at_call 23; (with_reducible refine (hasSuffix_val s (ByteArray.mk #[101, 100]) false _ hs R6.out).mono ?_); rintro e w' ⟨rfl, rfl⟩))
                        go_ret
                        exact ⟨ret_string (by rw [hst.out]), Below.refl _ _⟩
                  · have r5' : Lib.hasSuffix s.data.toList [105, 110, 103] = false := by simpa using r5
                    clear r5
                    have Q5 := Lib.hid (show ruleB s.data.toList 5 = false by simp [ruleB, r5'])
                    have R5 := Lib.hid r5'; clear r5'
                    by_cases r6 : Lib.hasSuffix s.data.toList [101, 100] = true
                    · by_cases z6 : 5 ≤ s.size
                      · have QY := Lib.hid (show ruleB s.data.toList 6 = true by simp [ruleB, r6, z6])
                        have R6 := Lib.hid r6; clear r6
                        have hst := Lib.hid (stem_at (l := s.data.toList) (k := 6) hsm.out (by rw [size_toList]; omega) (by omega) (fun j hj => by
                          match j, hj with
                          | 0, _ => exact Q0.out
                          | 1, _ => exact Q1.out
                          | 2, _ => exact Q2.out
                          | 3, _ => exact Q3.out
                          | 4, _ => exact Q4.out
                          | 5, _ => exact Q5.out) QY.out)
                        go_wp2_with (first
                          | (go_at_call 23; (with_reducible refine (hasSuffix_val s (ByteArray.mk #[115, 115, 101, 115]) false _ hs R0.out).mono ?_); rintro e w' ⟨rfl, rfl⟩)
                          | (go_at_call 23; (with_reducible refine (hasSuffix_val s (ByteArray.mk #[105, 101, 115]) false _ hs R1.out).mono ?_); rintro e w' ⟨rfl, rfl⟩)
                          | (go_at_call 23; (with_reducible refine (hasSuffix_val s (ByteArray.mk #[115, 115]) false _ hs R2.out).mono ?_); rintro e w' ⟨rfl, rfl⟩)
                          | (go_at_call 23; (with_reducible refine (hasSuffix_val s (ByteArray.mk #[115]) false _ hs R3.out).mono ?_); rintro e w' ⟨rfl, rfl⟩)
                          | (go_at_call 23; (with_reducible refine (hasSuffix_val s (ByteArray.mk #[101, 101, 100]) false _ hs R4.out).mono ?_); rintro e w' ⟨rfl, rfl⟩)
                          | (go_at_call 23; (with_reducible refine (hasSuffix_val s (ByteArray.mk #[105, 110, 103]) false _ hs R5.out).mono ?_); rintro e w' ⟨rfl, rfl⟩)
                          | (go_at_call 23; (with_reducible refine (hasSuffix_val s (ByteArray.mk #[101, 100]) true _ hs R6.out).mono ?_); rintro e w' ⟨rfl, rfl⟩))
                        go_ret
                        exact ⟨ret_string (by rw [hst.out]; exact stem_ext s 2), Below.refl _ _⟩
                      · have Q6 := Lib.hid (show ruleB s.data.toList 6 = false by simp [ruleB, r6]; omega)
                        have R6 := Lib.hid r6; clear r6
                        have hst := Lib.hid (stem_none (l := s.data.toList) (fun j hj => by
                          match j, hj with
                          | 0, _ => exact Q0.out
                          | 1, _ => exact Q1.out
                          | 2, _ => exact Q2.out
                          | 3, _ => exact Q3.out
                          | 4, _ => exact Q4.out
                          | 5, _ => exact Q5.out
                          | 6, _ => exact Q6.out
                        ))
                        go_wp2_with (first
                          | (go_at_call 23; (with_reducible refine (hasSuffix_val s (ByteArray.mk #[115, 115, 101, 115]) false _ hs R0.out).mono ?_); rintro e w' ⟨rfl, rfl⟩)
                          | (go_at_call 23; (with_reducible refine (hasSuffix_val s (ByteArray.mk #[105, 101, 115]) false _ hs R1.out).mono ?_); rintro e w' ⟨rfl, rfl⟩)
                          | (go_at_call 23; (with_reducible refine (hasSuffix_val s (ByteArray.mk #[115, 115]) false _ hs R2.out).mono ?_); rintro e w' ⟨rfl, rfl⟩)
                          | (go_at_call 23; (with_reducible refine (hasSuffix_val s (ByteArray.mk #[115]) false _ hs R3.out).mono ?_); rintro e w' ⟨rfl, rfl⟩)
                          | (go_at_call 23; (with_reducible refine (hasSuffix_val s (ByteArray.mk #[101, 101, 100]) false _ hs R4.out).mono ?_); rintro e w' ⟨rfl, rfl⟩)
                          | (go_at_call 23; (with_reducible refine (hasSuffix_val s (ByteArray.mk #[105, 110, 103]) false _ hs R5.out).mono ?_); rintro e w' ⟨rfl, rfl⟩)
                          | (go_at_call 23; (with_reducible refine (hasSuffix_val s (ByteArray.mk #[101, 100]) true _ hs R6.out).mono ?_); rintro e w' ⟨rfl, rfl⟩))
                        go_ret
                        exact ⟨ret_string (by rw [hst.out]), Below.refl _ _⟩
                    · have r6' : Lib.hasSuffix s.data.toList [101, 100] = false := by simpa using r6
                      clear r6
                      have Q6 := Lib.hid (show ruleB s.data.toList 6 = false by simp [ruleB, r6'])
                      have R6 := Lib.hid r6'; clear r6'
                      have hst := Lib.hid (stem_none (l := s.data.toList) (fun j hj => by
                        match j, hj with
                        | 0, _ => exact Q0.out
                        | 1, _ => exact Q1.out
                        | 2, _ => exact Q2.out
                        | 3, _ => exact Q3.out
                        | 4, _ => exact Q4.out
                        | 5, _ => exact Q5.out
                        | 6, _ => exact Q6.out
                      ))
                      go_wp2_with (first
                        | (go_at_call 23; (with_reducible refine (hasSuffix_val s (ByteArray.mk #[115, 115, 101, 115]) false _ hs R0.out).mono ?_); rintro e w' ⟨rfl, rfl⟩)
                        | (go_at_call 23; (with_reducible refine (hasSuffix_val s (ByteArray.mk #[105, 101, 115]) false _ hs R1.out).mono ?_); rintro e w' ⟨rfl, rfl⟩)
                        | (go_at_call 23; (with_reducible refine (hasSuffix_val s (ByteArray.mk #[115, 115]) false _ hs R2.out).mono ?_); rintro e w' ⟨rfl, rfl⟩)
                        | (go_at_call 23; (with_reducible refine (hasSuffix_val s (ByteArray.mk #[115]) false _ hs R3.out).mono ?_); rintro e w' ⟨rfl, rfl⟩)
                        | (go_at_call 23; (with_reducible refine (hasSuffix_val s (ByteArray.mk #[101, 101, 100]) false _ hs R4.out).mono ?_); rintro e w' ⟨rfl, rfl⟩)
                        | (go_at_call 23; (with_reducible refine (hasSuffix_val s (ByteArray.mk #[105, 110, 103]) false _ hs R5.out).mono ?_); rintro e w' ⟨rfl, rfl⟩)
                        | (go_at_call 23; (with_reducible refine (hasSuffix_val s (ByteArray.mk #[101, 100]) false _ hs R6.out).mono ?_); rintro e w' ⟨rfl, rfl⟩))
                      go_ret
                      exact ⟨ret_string (by rw [hst.out]), Below.refl _ _⟩

set_option maxRecDepth 100000 in
set_option maxHeartbeats 4000000 in
theorem shipStem_any (s : ByteArray) (w : World) (hs : s.size ≤ 1048576) :
    Calls Tryz.prog 10 #[.string s] w fun e w' => e = .returned (.string ⟨(stemL s.data.toList).toArray⟩) ∧ Below w.heap.size w w' := by
  go_enter Tryz.func10, Tryz.ntmps10
  go_wp2_with fail
  go_loopw [3] (fun t w2 => ∃ k : Nat, k ≤ s.size ∧ t = .int .i64 k ∧ EqW w2 w ∧ ∀ (j : Nat) (c : UInt8), s.data.toList[j]? = some c → j < k → smallB c = true) (fun t _ => s.size - (intOf t).toNat)
  case atStart => exact ⟨0, Nat.zero_le _, rfl, EqW.refl _, fun j c _ h => absurd h (by omega)⟩
  case round =>
    obtain ⟨k, hk, rfl, hww, hall0⟩ := hrel
    unfold EqW at hww
    subst hww
    have hall := Lib.hid hall0; clear hall0
    by_cases hlt : k < s.size
    · obtain ⟨ch, hch0⟩ : ∃ b, s.data.toList[k]? = some b := ⟨_, List.getElem?_eq_getElem (by rw [size_toList]; exact hlt)⟩
      have hch := Lib.hid hch0; clear hch0
      have hsb : s[k] = ch := byteAt hch.out hlt
      subst hsb
      by_cases h1 : 97 ≤ (s[k].toNat : Int)
      · by_cases h2 : (s[k].toNat : Int) ≤ 122
        · have hsm := Lib.hid (show smallB s[k] = true by simp [smallB, h1, h2])
          have h1' : ¬ (s[k].toNat : Int) < 97 := by omega
          have h2' : ¬ 122 < (s[k].toNat : Int) := by omega
          go_wp2_with fail
          go_roundw
          case rel =>
            refine ⟨k + 1, by omega, by go_num, EqW.refl _, fun j c h3 h4 => ?_⟩
            rcases Nat.lt_succ_iff_lt_or_eq.1 h4 with h5 | rfl
            · exact hall.out j c h3 h5
            · rw [hch.out] at h3
              cases h3
              exact hsm.out
          case measure => simp [intOf]; omega
        · have hsm := Lib.hid (show smallB s[k] = false by simp [smallB, h2])
          have h1' : ¬ (s[k].toNat : Int) < 97 := by omega
          have h2' : 122 < (s[k].toNat : Int) := by omega
          go_wp2_with fail
          go_ret
          exact ⟨ret_string (by rw [stem_other hch.out hsm.out]), Below.refl _ _⟩
      · have hsm := Lib.hid (show smallB s[k] = false by simp [smallB, h1])
        have h1' : (s[k].toNat : Int) < 97 := by omega
        go_wp2_with fail
        go_ret
        exact ⟨ret_string (by rw [stem_other hch.out hsm.out]), Below.refl _ _⟩
    · have hsm := Lib.hid (all_small (l := s.data.toList) (fun j c h3 h4 => hall.out j c h3 (by rw [size_toList] at h4; omega)))
      clear hall
      obtain ⟨w, rfl⟩ : ∃ w1 : World, w1 = wr := ⟨_, rfl⟩
      by_cases h4 : s.size < 4
      · go_wp2_with fail
        go_ret
        exact ⟨ret_string (by rw [stem_short (by rw [size_toList]; omega)]), Below.refl _ _⟩
      · go_wp2_with fail
        go_loopw [40] (fun t w2 => ∃ k : Nat, k ≤ 7 ∧ t = .int .i64 k ∧ Keeps (w.alloc (.cells #[.string ⟨#[115, 115, 101, 115]⟩, .int .i64 2, .int .i64 0, .string ⟨#[105, 101, 115]⟩, .int .i64 2, .int .i64 0, .string ⟨#[115, 115]⟩, .int .i64 0, .int .i64 0, .string ⟨#[115]⟩, .int .i64 1, .int .i64 0, .string ⟨#[101, 101, 100]⟩, .int .i64 1, .int .i64 0, .string ⟨#[105, 110, 103]⟩, .int .i64 3, .int .i64 6, .string ⟨#[101, 100]⟩, .int .i64 2, .int .i64 5] 57)) w2 ∧ Below w.heap.size w w2 ∧ ∀ j, j < k → ruleB s.data.toList j = false) (fun t _ => 7 - (intOf t).toNat)
        case atStart => exact ⟨0, by omega, rfl, Keeps.refl _, (Below.refl _ _).alloc (Nat.le_refl _) _, fun j h => absurd h (by omega)⟩
        case round =>
          obtain ⟨k, hk, rfl, hK0, hB0, hno0⟩ := hrel
          have hK := Lib.hid hK0; clear hK0
          have hB := Lib.hid hB0; clear hB0
          have hno := Lib.hid hno0; clear hno0
          rcases (by omega : k = 0 ∨ k = 1 ∨ k = 2 ∨ k = 3 ∨ k = 4 ∨ k = 5 ∨ k = 6 ∨ k = 7) with rfl | rfl | rfl | rfl | rfl | rfl | rfl | rfl
          · have c0 := hK.out ⟨w.heap.size, 0, none⟩ _ (World.cell?_alloc_new w #[.string ⟨#[115, 115, 101, 115]⟩, .int .i64 2, .int .i64 0, .string ⟨#[105, 101, 115]⟩, .int .i64 2, .int .i64 0, .string ⟨#[115, 115]⟩, .int .i64 0, .int .i64 0, .string ⟨#[115]⟩, .int .i64 1, .int .i64 0, .string ⟨#[101, 101, 100]⟩, .int .i64 1, .int .i64 0, .string ⟨#[105, 110, 103]⟩, .int .i64 3, .int .i64 6, .string ⟨#[101, 100]⟩, .int .i64 2, .int .i64 5] 57 0)
            have c1 := hK.out ⟨w.heap.size, 1, none⟩ _ (World.cell?_alloc_new w #[.string ⟨#[115, 115, 101, 115]⟩, .int .i64 2, .int .i64 0, .string ⟨#[105, 101, 115]⟩, .int .i64 2, .int .i64 0, .string ⟨#[115, 115]⟩, .int .i64 0, .int .i64 0, .string ⟨#[115]⟩, .int .i64 1, .int .i64 0, .string ⟨#[101, 101, 100]⟩, .int .i64 1, .int .i64 0, .string ⟨#[105, 110, 103]⟩, .int .i64 3, .int .i64 6, .string ⟨#[101, 100]⟩, .int .i64 2, .int .i64 5] 57 1)
            have c2 := hK.out ⟨w.heap.size, 2, none⟩ _ (World.cell?_alloc_new w #[.string ⟨#[115, 115, 101, 115]⟩, .int .i64 2, .int .i64 0, .string ⟨#[105, 101, 115]⟩, .int .i64 2, .int .i64 0, .string ⟨#[115, 115]⟩, .int .i64 0, .int .i64 0, .string ⟨#[115]⟩, .int .i64 1, .int .i64 0, .string ⟨#[101, 101, 100]⟩, .int .i64 1, .int .i64 0, .string ⟨#[105, 110, 103]⟩, .int .i64 3, .int .i64 6, .string ⟨#[101, 100]⟩, .int .i64 2, .int .i64 5] 57 2)
            have bb := World.block_lt_of_cell? _ _ c0
            simp only at bb
            by_cases r : Lib.hasSuffix s.data.toList [115, 115, 101, 115] = true
            · have QY := Lib.hid (show ruleB s.data.toList 0 = true by simp [ruleB, r])
              have R := Lib.hid r; clear r
              have hst := Lib.hid (stem_at (l := s.data.toList) (k := 0) hsm.out (by rw [size_toList]; omega) (by omega) (fun j hj => hno.out j hj) QY.out)
              go_wp2_with (go_at_call 23; ((with_reducible refine (hasSuffix_val s (ByteArray.mk #[115, 115, 101, 115]) true _ hs R.out).mono ?_); rintro e w' ⟨rfl, rfl⟩))
              go_ret
              exact ⟨ret_string (by rw [hst.out]; exact stem_ext s 2), hB.out.alloc hB.out.size _⟩
            · have r' : Lib.hasSuffix s.data.toList [115, 115, 101, 115] = false := by simpa using r
              clear r
              have QN := Lib.hid (show ruleB s.data.toList 0 = false by simp [ruleB, r'])
              have R := Lib.hid r'; clear r'
              go_wp2_with (go_at_call 23; ((with_reducible refine (hasSuffix_val s (ByteArray.mk #[115, 115, 101, 115]) false _ hs R.out).mono ?_); rintro e w' ⟨rfl, rfl⟩))
              go_roundw
              case rel =>
                refine ⟨1, by omega, rfl, hK.out.trans (Keeps.alloc _ _), hB.out.alloc hB.out.size _, fun j hj => ?_⟩
                rcases Nat.lt_succ_iff_lt_or_eq.1 hj with h5 | rfl
                · exact hno.out j h5
                · exact QN.out
              case measure => simp [intOf]
          · have c0 := hK.out ⟨w.heap.size, 3, none⟩ _ (World.cell?_alloc_new w #[.string ⟨#[115, 115, 101, 115]⟩, .int .i64 2, .int .i64 0, .string ⟨#[105, 101, 115]⟩, .int .i64 2, .int .i64 0, .string ⟨#[115, 115]⟩, .int .i64 0, .int .i64 0, .string ⟨#[115]⟩, .int .i64 1, .int .i64 0, .string ⟨#[101, 101, 100]⟩, .int .i64 1, .int .i64 0, .string ⟨#[105, 110, 103]⟩, .int .i64 3, .int .i64 6, .string ⟨#[101, 100]⟩, .int .i64 2, .int .i64 5] 57 3)
            have c1 := hK.out ⟨w.heap.size, 4, none⟩ _ (World.cell?_alloc_new w #[.string ⟨#[115, 115, 101, 115]⟩, .int .i64 2, .int .i64 0, .string ⟨#[105, 101, 115]⟩, .int .i64 2, .int .i64 0, .string ⟨#[115, 115]⟩, .int .i64 0, .int .i64 0, .string ⟨#[115]⟩, .int .i64 1, .int .i64 0, .string ⟨#[101, 101, 100]⟩, .int .i64 1, .int .i64 0, .string ⟨#[105, 110, 103]⟩, .int .i64 3, .int .i64 6, .string ⟨#[101, 100]⟩, .int .i64 2, .int .i64 5] 57 4)
            have c2 := hK.out ⟨w.heap.size, 5, none⟩ _ (World.cell?_alloc_new w #[.string ⟨#[115, 115, 101, 115]⟩, .int .i64 2, .int .i64 0, .string ⟨#[105, 101, 115]⟩, .int .i64 2, .int .i64 0, .string ⟨#[115, 115]⟩, .int .i64 0, .int .i64 0, .string ⟨#[115]⟩, .int .i64 1, .int .i64 0, .string ⟨#[101, 101, 100]⟩, .int .i64 1, .int .i64 0, .string ⟨#[105, 110, 103]⟩, .int .i64 3, .int .i64 6, .string ⟨#[101, 100]⟩, .int .i64 2, .int .i64 5] 57 5)
            have bb := World.block_lt_of_cell? _ _ c0
            simp only at bb
            by_cases r : Lib.hasSuffix s.data.toList [105, 101, 115] = true
            · have QY := Lib.hid (show ruleB s.data.toList 1 = true by simp [ruleB, r])
              have R := Lib.hid r; clear r
              have hst := Lib.hid (stem_at (l := s.data.toList) (k := 1) hsm.out (by rw [size_toList]; omega) (by omega) (fun j hj => hno.out j hj) QY.out)
              go_wp2_with (go_at_call 23; ((with_reducible refine (hasSuffix_val s (ByteArray.mk #[105, 101, 115]) true _ hs R.out).mono ?_); rintro e w' ⟨rfl, rfl⟩))
              go_ret
              exact ⟨ret_string (by rw [hst.out]; exact stem_ext s 2), hB.out.alloc hB.out.size _⟩
            · have r' : Lib.hasSuffix s.data.toList [105, 101, 115] = false := by simpa using r
              clear r
              have QN := Lib.hid (show ruleB s.data.toList 1 = false by simp [ruleB, r'])
              have R := Lib.hid r'; clear r'
              go_wp2_with (go_at_call 23; ((with_reducible refine (hasSuffix_val s (ByteArray.mk #[105, 101, 115]) false _ hs R.out).mono ?_); rintro e w' ⟨rfl, rfl⟩))
              go_roundw
              case rel =>
                refine ⟨2, by omega, rfl, hK.out.trans (Keeps.alloc _ _), hB.out.alloc hB.out.size _, fun j hj => ?_⟩
                rcases Nat.lt_succ_iff_lt_or_eq.1 hj with h5 | rfl
                · exact hno.out j h5
                · exact QN.out
              case measure => simp [intOf]
          · have c0 := hK.out ⟨w.heap.size, 6, none⟩ _ (World.cell?_alloc_new w #[.string ⟨#[115, 115, 101, 115]⟩, .int .i64 2, .int .i64 0, .string ⟨#[105, 101, 115]⟩, .int .i64 2, .int .i64 0, .string ⟨#[115, 115]⟩, .int .i64 0, .int .i64 0, .string ⟨#[115]⟩, .int .i64 1, .int .i64 0, .string ⟨#[101, 101, 100]⟩, .int .i64 1, .int .i64 0, .string ⟨#[105, 110, 103]⟩, .int .i64 3, .int .i64 6, .string ⟨#[101, 100]⟩, .int .i64 2, .int .i64 5] 57 6)
            have c1 := hK.out ⟨w.heap.size, 7, none⟩ _ (World.cell?_alloc_new w #[.string ⟨#[115, 115, 101, 115]⟩, .int .i64 2, .int .i64 0, .string ⟨#[105, 101, 115]⟩, .int .i64 2, .int .i64 0, .string ⟨#[115, 115]⟩, .int .i64 0, .int .i64 0, .string ⟨#[115]⟩, .int .i64 1, .int .i64 0, .string ⟨#[101, 101, 100]⟩, .int .i64 1, .int .i64 0, .string ⟨#[105, 110, 103]⟩, .int .i64 3, .int .i64 6, .string ⟨#[101, 100]⟩, .int .i64 2, .int .i64 5] 57 7)
            have c2 := hK.out ⟨w.heap.size, 8, none⟩ _ (World.cell?_alloc_new w #[.string ⟨#[115, 115, 101, 115]⟩, .int .i64 2, .int .i64 0, .string ⟨#[105, 101, 115]⟩, .int .i64 2, .int .i64 0, .string ⟨#[115, 115]⟩, .int .i64 0, .int .i64 0, .string ⟨#[115]⟩, .int .i64 1, .int .i64 0, .string ⟨#[101, 101, 100]⟩, .int .i64 1, .int .i64 0, .string ⟨#[105, 110, 103]⟩, .int .i64 3, .int .i64 6, .string ⟨#[101, 100]⟩, .int .i64 2, .int .i64 5] 57 8)
            have bb := World.block_lt_of_cell? _ _ c0
            simp only at bb
            by_cases r : Lib.hasSuffix s.data.toList [115, 115] = true
            · have QY := Lib.hid (show ruleB s.data.toList 2 = true by simp [ruleB, r])
              have R := Lib.hid r; clear r
              have hst := Lib.hid (stem_at (l := s.data.toList) (k := 2) hsm.out (by rw [size_toList]; omega) (by omega) (fun j hj => hno.out j hj) QY.out)
              go_wp2_with (go_at_call 23; ((with_reducible refine (hasSuffix_val s (ByteArray.mk #[115, 115]) true _ hs R.out).mono ?_); rintro e w' ⟨rfl, rfl⟩))
              go_ret
              exact ⟨ret_string (by rw [hst.out]; exact stem_ext0 s), hB.out.alloc hB.out.size _⟩
            · have r' : Lib.hasSuffix s.data.toList [115, 115] = false := by simpa using r
              clear r
              have QN := Lib.hid (show ruleB s.data.toList 2 = false by simp [ruleB, r'])
              have R := Lib.hid r'; clear r'
              go_wp2_with (go_at_call 23; ((with_reducible refine (hasSuffix_val s (ByteArray.mk #[115, 115]) false _ hs R.out).mono ?_); rintro e w' ⟨rfl, rfl⟩))
              go_roundw
              case rel =>
                refine ⟨3, by omega, rfl, hK.out.trans (Keeps.alloc _ _), hB.out.alloc hB.out.size _, fun j hj => ?_⟩
                rcases Nat.lt_succ_iff_lt_or_eq.1 hj with h5 | rfl
                · exact hno.out j h5
                · exact QN.out
              case measure => simp [intOf]
          · have c0 := hK.out ⟨w.heap.size, 9, none⟩ _ (World.cell?_alloc_new w #[.string ⟨#[115, 115, 101, 115]⟩, .int .i64 2, .int .i64 0, .string ⟨#[105, 101, 115]⟩, .int .i64 2, .int .i64 0, .string ⟨#[115, 115]⟩, .int .i64 0, .int .i64 0, .string ⟨#[115]⟩, .int .i64 1, .int .i64 0, .string ⟨#[101, 101, 100]⟩, .int .i64 1, .int .i64 0, .string ⟨#[105, 110, 103]⟩, .int .i64 3, .int .i64 6, .string ⟨#[101, 100]⟩, .int .i64 2, .int .i64 5] 57 9)
            have c1 := hK.out ⟨w.heap.size, 10, none⟩ _ (World.cell?_alloc_new w #[.string ⟨#[115, 115, 101, 115]⟩, .int .i64 2, .int .i64 0, .string ⟨#[105, 101, 115]⟩, .int .i64 2, .int .i64 0, .string ⟨#[115, 115]⟩, .int .i64 0, .int .i64 0, .string ⟨#[115]⟩, .int .i64 1, .int .i64 0, .string ⟨#[101, 101, 100]⟩, .int .i64 1, .int .i64 0, .string ⟨#[105, 110, 103]⟩, .int .i64 3, .int .i64 6, .string ⟨#[101, 100]⟩, .int .i64 2, .int .i64 5] 57 10)
            have c2 := hK.out ⟨w.heap.size, 11, none⟩ _ (World.cell?_alloc_new w #[.string ⟨#[115, 115, 101, 115]⟩, .int .i64 2, .int .i64 0, .string ⟨#[105, 101, 115]⟩, .int .i64 2, .int .i64 0, .string ⟨#[115, 115]⟩, .int .i64 0, .int .i64 0, .string ⟨#[115]⟩, .int .i64 1, .int .i64 0, .string ⟨#[101, 101, 100]⟩, .int .i64 1, .int .i64 0, .string ⟨#[105, 110, 103]⟩, .int .i64 3, .int .i64 6, .string ⟨#[101, 100]⟩, .int .i64 2, .int .i64 5] 57 11)
            have bb := World.block_lt_of_cell? _ _ c0
            simp only at bb
            by_cases r : Lib.hasSuffix s.data.toList [115] = true
            · have QY := Lib.hid (show ruleB s.data.toList 3 = true by simp [ruleB, r])
              have R := Lib.hid r; clear r
              have hst := Lib.hid (stem_at (l := s.data.toList) (k := 3) hsm.out (by rw [size_toList]; omega) (by omega) (fun j hj => hno.out j hj) QY.out)
              go_wp2_with (go_at_call 23; ((with_reducible refine (hasSuffix_val s (ByteArray.mk #[115]) true _ hs R.out).mono ?_); rintro e w' ⟨rfl, rfl⟩))
              go_ret
              exact ⟨ret_string (by rw [hst.out]; exact stem_ext s 1), hB.out.alloc hB.out.size _⟩
            · have r' : Lib.hasSuffix s.data.toList [115] = false := by simpa using r
              clear r
              have QN := Lib.hid (show ruleB s.data.toList 3 = false by simp [ruleB, r'])
              have R := Lib.hid r'; clear r'
              go_wp2_with (go_at_call 23; ((with_reducible refine (hasSuffix_val s (ByteArray.mk #[115]) false _ hs R.out).mono ?_); rintro e w' ⟨rfl, rfl⟩))
              go_roundw
              case rel =>
                refine ⟨4, by omega, rfl, hK.out.trans (Keeps.alloc _ _), hB.out.alloc hB.out.size _, fun j hj => ?_⟩
                rcases Nat.lt_succ_iff_lt_or_eq.1 hj with h5 | rfl
                · exact hno.out j h5
                · exact QN.out
              case measure => simp [intOf]
          · have c0 := hK.out ⟨w.heap.size, 12, none⟩ _ (World.cell?_alloc_new w #[.string ⟨#[115, 115, 101, 115]⟩, .int .i64 2, .int .i64 0, .string ⟨#[105, 101, 115]⟩, .int .i64 2, .int .i64 0, .string ⟨#[115, 115]⟩, .int .i64 0, .int .i64 0, .string ⟨#[115]⟩, .int .i64 1, .int .i64 0, .string ⟨#[101, 101, 100]⟩, .int .i64 1, .int .i64 0, .string ⟨#[105, 110, 103]⟩, .int .i64 3, .int .i64 6, .string ⟨#[101, 100]⟩, .int .i64 2, .int .i64 5] 57 12)
            have c1 := hK.out ⟨w.heap.size, 13, none⟩ _ (World.cell?_alloc_new w #[.string ⟨#[115, 115, 101, 115]⟩, .int .i64 2, .int .i64 0, .string ⟨#[105, 101, 115]⟩, .int .i64 2, .int .i64 0, .string ⟨#[115, 115]⟩, .int .i64 0, .int .i64 0, .string ⟨#[115]⟩, .int .i64 1, .int .i64 0, .string ⟨#[101, 101, 100]⟩, .int .i64 1, .int .i64 0, .string ⟨#[105, 110, 103]⟩, .int .i64 3, .int .i64 6, .string ⟨#[101, 100]⟩, .int .i64 2, .int .i64 5] 57 13)
            have c2 := hK.out ⟨w.heap.size, 14, none⟩ _ (World.cell?_alloc_new w #[.string ⟨#[115, 115, 101, 115]⟩, .int .i64 2, .int .i64 0, .string ⟨#[105, 101, 115]⟩, .int .i64 2, .int .i64 0, .string ⟨#[115, 115]⟩, .int .i64 0, .int .i64 0, .string ⟨#[115]⟩, .int .i64 1, .int .i64 0, .string ⟨#[101, 101, 100]⟩, .int .i64 1, .int .i64 0, .string ⟨#[105, 110, 103]⟩, .int .i64 3, .int .i64 6, .string ⟨#[101, 100]⟩, .int .i64 2, .int .i64 5] 57 14)
            have bb := World.block_lt_of_cell? _ _ c0
            simp only at bb
            by_cases r : Lib.hasSuffix s.data.toList [101, 101, 100] = true
            · have QY := Lib.hid (show ruleB s.data.toList 4 = true by simp [ruleB, r])
              have R := Lib.hid r; clear r
              have hst := Lib.hid (stem_at (l := s.data.toList) (k := 4) hsm.out (by rw [size_toList]; omega) (by omega) (fun j hj => hno.out j hj) QY.out)
              go_wp2_with (go_at_call 23; ((with_reducible refine (hasSuffix_val s (ByteArray.mk #[101, 101, 100]) true _ hs R.out).mono ?_); rintro e w' ⟨rfl, rfl⟩))
              go_ret
              exact ⟨ret_string (by rw [hst.out]; exact stem_ext s 1), hB.out.alloc hB.out.size _⟩
            · have r' : Lib.hasSuffix s.data.toList [101, 101, 100] = false := by simpa using r
              clear r
              have QN := Lib.hid (show ruleB s.data.toList 4 = false by simp [ruleB, r'])
              have R := Lib.hid r'; clear r'
              go_wp2_with (go_at_call 23; ((with_reducible refine (hasSuffix_val s (ByteArray.mk #[101, 101, 100]) false _ hs R.out).mono ?_); rintro e w' ⟨rfl, rfl⟩))
              go_roundw
              case rel =>
                refine ⟨5, by omega, rfl, hK.out.trans (Keeps.alloc _ _), hB.out.alloc hB.out.size _, fun j hj => ?_⟩
                rcases Nat.lt_succ_iff_lt_or_eq.1 hj with h5 | rfl
                · exact hno.out j h5
                · exact QN.out
              case measure => simp [intOf]
          · have c0 := hK.out ⟨w.heap.size, 15, none⟩ _ (World.cell?_alloc_new w #[.string ⟨#[115, 115, 101, 115]⟩, .int .i64 2, .int .i64 0, .string ⟨#[105, 101, 115]⟩, .int .i64 2, .int .i64 0, .string ⟨#[115, 115]⟩, .int .i64 0, .int .i64 0, .string ⟨#[115]⟩, .int .i64 1, .int .i64 0, .string ⟨#[101, 101, 100]⟩, .int .i64 1, .int .i64 0, .string ⟨#[105, 110, 103]⟩, .int .i64 3, .int .i64 6, .string ⟨#[101, 100]⟩, .int .i64 2, .int .i64 5] 57 15)
            have c1 := hK.out ⟨w.heap.size, 16, none⟩ _ (World.cell?_alloc_new w #[.string ⟨#[115, 115, 101, 115]⟩, .int .i64 2, .int .i64 0, .string ⟨#[105, 101, 115]⟩, .int .i64 2, .int .i64 0, .string ⟨#[115, 115]⟩, .int .i64 0, .int .i64 0, .string ⟨#[115]⟩, .int .i64 1, .int .i64 0, .string ⟨#[101, 101, 100]⟩, .int .i64 1, .int .i64 0, .string ⟨#[105, 110, 103]⟩, .int .i64 3, .int .i64 6, .string ⟨#[101, 100]⟩, .int .i64 2, .int .i64 5] 57 16)
            have c2 := hK.out ⟨w.heap.size, 17, none⟩ _ (World.cell?_alloc_new w #[.string ⟨#[115, 115, 101, 115]⟩, .int .i64 2, .int .i64 0, .string ⟨#[105, 101, 115]⟩, .int .i64 2, .int .i64 0, .string ⟨#[115, 115]⟩, .int .i64 0, .int .i64 0, .string ⟨#[115]⟩, .int .i64 1, .int .i64 0, .string ⟨#[101, 101, 100]⟩, .int .i64 1, .int .i64 0, .string ⟨#[105, 110, 103]⟩, .int .i64 3, .int .i64 6, .string ⟨#[101, 100]⟩, .int .i64 2, .int .i64 5] 57 17)
            have bb := World.block_lt_of_cell? _ _ c0
            simp only at bb
            by_cases r : Lib.hasSuffix s.data.toList [105, 110, 103] = true
            · by_cases z : 6 ≤ s.size
              · have QY := Lib.hid (show ruleB s.data.toList 5 = true by simp [ruleB, r, z])
                have R := Lib.hid r; clear r
                have hst := Lib.hid (stem_at (l := s.data.toList) (k := 5) hsm.out (by rw [size_toList]; omega) (by omega) (fun j hj => hno.out j hj) QY.out)
                go_wp2_with (go_at_call 23; ((with_reducible refine (hasSuffix_val s (ByteArray.mk #[105, 110, 103]) true _ hs R.out).mono ?_); rintro e w' ⟨rfl, rfl⟩))
                go_ret
                exact ⟨ret_string (by rw [hst.out]; exact stem_ext s 3), hB.out.alloc hB.out.size _⟩
              · have QN := Lib.hid (show ruleB s.data.toList 5 = false by simp [ruleB, r]; omega)
                have R := Lib.hid r; clear r
                go_wp2_with (go_at_call 23; ((with_reducible refine (hasSuffix_val s (ByteArray.mk #[105, 110, 103]) true _ hs R.out).mono ?_); rintro e w' ⟨rfl, rfl⟩))
                go_roundw
                case rel =>
                  refine ⟨6, by omega, rfl, hK.out.trans (Keeps.alloc _ _), hB.out.alloc hB.out.size _, fun j hj => ?_⟩
                  rcases Nat.lt_succ_iff_lt_or_eq.1 hj with h5 | rfl
                  · exact hno.out j h5
                  · exact QN.out
                case measure => simp [intOf]
            · have r' : Lib.hasSuffix s.data.toList [105, 110, 103] = false := by simpa using r
              clear r
              have QN := Lib.hid (show ruleB s.data.toList 5 = false by simp [ruleB, r'])
              have R := Lib.hid r'; clear r'
              go_wp2_with (go_at_call 23; ((with_reducible refine (hasSuffix_val s (ByteArray.mk #[105, 110, 103]) false _ hs R.out).mono ?_); rintro e w' ⟨rfl, rfl⟩))
              go_roundw
              case rel =>
                refine ⟨6, by omega, rfl, hK.out.trans (Keeps.alloc _ _), hB.out.alloc hB.out.size _, fun j hj => ?_⟩
                rcases Nat.lt_succ_iff_lt_or_eq.1 hj with h5 | rfl
                · exact hno.out j h5
                · exact QN.out
              case measure => simp [intOf]
          · have c0 := hK.out ⟨w.heap.size, 18, none⟩ _ (World.cell?_alloc_new w #[.string ⟨#[115, 115, 101, 115]⟩, .int .i64 2, .int .i64 0, .string ⟨#[105, 101, 115]⟩, .int .i64 2, .int .i64 0, .string ⟨#[115, 115]⟩, .int .i64 0, .int .i64 0, .string ⟨#[115]⟩, .int .i64 1, .int .i64 0, .string ⟨#[101, 101, 100]⟩, .int .i64 1, .int .i64 0, .string ⟨#[105, 110, 103]⟩, .int .i64 3, .int .i64 6, .string ⟨#[101, 100]⟩, .int .i64 2, .int .i64 5] 57 18)
            have c1 := hK.out ⟨w.heap.size, 19, none⟩ _ (World.cell?_alloc_new w #[.string ⟨#[115, 115, 101, 115]⟩, .int .i64 2, .int .i64 0, .string ⟨#[105, 101, 115]⟩, .int .i64 2, .int .i64 0, .string ⟨#[115, 115]⟩, .int .i64 0, .int .i64 0, .string ⟨#[115]⟩, .int .i64 1, .int .i64 0, .string ⟨#[101, 101, 100]⟩, .int .i64 1, .int .i64 0, .string ⟨#[105, 110, 103]⟩, .int .i64 3, .int .i64 6, .string ⟨#[101, 100]⟩, .int .i64 2, .int .i64 5] 57 19)
            have c2 := hK.out ⟨w.heap.size, 20, none⟩ _ (World.cell?_alloc_new w #[.string ⟨#[115, 115, 101, 115]⟩, .int .i64 2, .int .i64 0, .string ⟨#[105, 101, 115]⟩, .int .i64 2, .int .i64 0, .string ⟨#[115, 115]⟩, .int .i64 0, .int .i64 0, .string ⟨#[115]⟩, .int .i64 1, .int .i64 0, .string ⟨#[101, 101, 100]⟩, .int .i64 1, .int .i64 0, .string ⟨#[105, 110, 103]⟩, .int .i64 3, .int .i64 6, .string ⟨#[101, 100]⟩, .int .i64 2, .int .i64 5] 57 20)
            have bb := World.block_lt_of_cell? _ _ c0
            simp only at bb
            by_cases r : Lib.hasSuffix s.data.toList [101, 100] = true
            · by_cases z : 5 ≤ s.size
              · have QY := Lib.hid (show ruleB s.data.toList 6 = true by simp [ruleB, r, z])
                have R := Lib.hid r; clear r
                have hst := Lib.hid (stem_at (l := s.data.toList) (k := 6) hsm.out (by rw [size_toList]; omega) (by omega) (fun j hj => hno.out j hj) QY.out)
                go_wp2_with (go_at_call 23; ((with_reducible refine (hasSuffix_val s (ByteArray.mk #[101, 100]) true _ hs R.out).mono ?_); rintro e w' ⟨rfl, rfl⟩))
                go_ret
                exact ⟨ret_string (by rw [hst.out]; exact stem_ext s 2), hB.out.alloc hB.out.size _⟩
              · have QN := Lib.hid (show ruleB s.data.toList 6 = false by simp [ruleB, r]; omega)
                have R := Lib.hid r; clear r
                go_wp2_with (go_at_call 23; ((with_reducible refine (hasSuffix_val s (ByteArray.mk #[101, 100]) true _ hs R.out).mono ?_); rintro e w' ⟨rfl, rfl⟩))
                go_roundw
                case rel =>
                  refine ⟨7, by omega, rfl, hK.out.trans (Keeps.alloc _ _), hB.out.alloc hB.out.size _, fun j hj => ?_⟩
                  rcases Nat.lt_succ_iff_lt_or_eq.1 hj with h5 | rfl
                  · exact hno.out j h5
                  · exact QN.out
                case measure => simp [intOf]
            · have r' : Lib.hasSuffix s.data.toList [101, 100] = false := by simpa using r
              clear r
              have QN := Lib.hid (show ruleB s.data.toList 6 = false by simp [ruleB, r'])
              have R := Lib.hid r'; clear r'
              go_wp2_with (go_at_call 23; ((with_reducible refine (hasSuffix_val s (ByteArray.mk #[101, 100]) false _ hs R.out).mono ?_); rintro e w' ⟨rfl, rfl⟩))
              go_roundw
              case rel =>
                refine ⟨7, by omega, rfl, hK.out.trans (Keeps.alloc _ _), hB.out.alloc hB.out.size _, fun j hj => ?_⟩
                rcases Nat.lt_succ_iff_lt_or_eq.1 hj with h5 | rfl
                · exact hno.out j h5
                · exact QN.out
              case measure => simp [intOf]
          · have hst := Lib.hid (stem_none (l := s.data.toList) (fun j hj => hno.out j hj))
            go_wp2_with fail
            go_ret
            exact ⟨ret_string (by rw [hst.out]), hB.out⟩

end Go.Proofs.YtmcelgokchhpfaaGreatDoor
