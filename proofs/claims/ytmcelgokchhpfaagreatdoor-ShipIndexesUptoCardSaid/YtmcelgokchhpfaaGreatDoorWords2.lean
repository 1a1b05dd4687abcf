/-
  The words of a string: ship.Words.
-/
import Derived.Test.YtmcelgokchhpfaaGreatDoorWords
namespace Go.Proofs.YtmcelgokchhpfaaGreatDoor
open Go.RowKit Go.Deep

theorem flush_some {l : List UInt8} (h0 : 0 < l.length) (h : l.length ≤ 30) : flush l = [l] := by
  unfold flush; rw [if_pos ⟨fun e => by rw [e] at h0; simp at h0, h⟩]
theorem flush_none {l : List UInt8} (h : 30 < l.length) : flush l = [] := by
  unfold flush; rw [if_neg (by omega)]
theorem rest1 {s : ByteArray} {k : Nat} (h : ∀ c, s.data.toList[k]? = some c → wordB c = false) (hk : k < s.size) : wordsAux (s.data.toList.drop k) [] = wordsAux (s.data.toList.drop (k + 1)) [] := by
  have hc : s.data.toList[k]? = some (s.data.toList[k]'(by rw [size_toList]; exact hk)) := List.getElem?_eq_getElem _
  rw [words_at hc, if_neg (by rw [h _ hc]; simp), flush_nil, List.nil_append]

/-- what holds at the head of a round of Words -/
def ShipWordsRel (s : ByteArray) (B : Nat) (w0 : World) (t3 t4 : Value) (wr : World) : Prop :=
  ∃ (i : Nat) (A : Option Addr) (c : Nat) (outL : List (List UInt8)), i ≤ s.size ∧ t4 = .int .i64 i ∧ t3 = .slice A outL.length c ∧
    wr.ownsRow B 9 1 (.slice A outL.length c) outL.length (strCells outL) ∧ wordsAux s.data.toList [] = outL ++ wordsAux (s.data.toList.drop i) [] ∧ outL.length ≤ i ∧ Below B w0 wr

set_option maxRecDepth 100000 in
set_option maxHeartbeats 4000000 in
theorem words_own (s : ByteArray) (w : World) (hs : s.size ≤ 1048576) :
    Calls Tryz.prog 9 #[.string s] w fun e w' => ∃ v, e = .returned v ∧ w'.ownsRow w.heap.size 9 1 v (wordsAux s.data.toList []).length (strCells (wordsAux s.data.toList [])) ∧ Below w.heap.size w w' := by
  go_enter Tryz.func9, Tryz.ntmps9
  go_wp2_with fail
  go_loopw [3, 4] (fun t3 t4 wr => ShipWordsRel s w.heap.size w t3 t4 wr) (fun _ i _ => s.size - (intOf i).toNat)
  case atStart => exact ⟨0, none, 0, [], Nat.zero_le _, rfl, rfl, World.ownsRow_nil _ _ _ _, rfl, Nat.le_refl _, Below.refl _ _⟩
  case round =>
    obtain ⟨i, A, c, outL, hi, rfl, rfl, hown0, htot0, hol, hB0⟩ := hrel
    have hown := Lib.hid hown0; clear hown0
    have htot := Lib.hid htot0; clear htot0
    have hB := Lib.hid hB0; clear hB0
    by_cases hlt : i < s.size
    · obtain ⟨wo, rfl⟩ : ∃ wo : World, wo = wr := ⟨_, rfl⟩
      go_wp2_with fail
      go_loopw [5] (fun t5 w2 => ∃ k : Nat, i ≤ k ∧ k ≤ s.size ∧ t5 = .int .i64 k ∧ EqW w2 wo ∧ ∀ (j : Nat) (c : UInt8), i ≤ j → j < k → s.data.toList[j]? = some c → wordB c = true) (fun t5 _ => s.size - (intOf t5).toNat)
      case atStart => exact ⟨i, Nat.le_refl _, by omega, rfl, EqW.refl _, fun j c h1 h2 => absurd h1 (by omega)⟩
      case round =>
        obtain ⟨k, hik, hkn, rfl, hww, hall0⟩ := hrel
        unfold EqW at hww
        subst hww
        have hall := Lib.hid hall0; clear hall0
        by_cases hlk : k < s.size
        · obtain ⟨ch, hch0⟩ : ∃ b, s.data.toList[k]? = some b := ⟨_, List.getElem?_eq_getElem (by rw [size_toList]; exact hlk)⟩
          have hch := Lib.hid hch0; clear hch0
          have hsb : s[k] = ch := byte_at hch.out hlk
          subst hsb
          by_cases hL : isLetterP (s[k].toNat : Int) = true
          · have hwb0 : wordB s[k] = true := by simp [wordB, hL]
            have hwb := Lib.hid hwb0; clear hwb0
            have HL := Lib.hid hL; clear hL
            go_wp2_with (first
              | (go_at_call 25; refine (shipIsLetter_any _ true _ HL.out).mono ?_; rintro e w' ⟨rfl, rfl⟩)
              | (go_at_call 26; refine (shipIsDigit_any _ false _ HD.out).mono ?_; rintro e w' ⟨rfl, rfl⟩))
            go_roundw
            case rel =>
              refine ⟨k + 1, by omega, by omega, by go_num, EqW.refl _, fun j c h1 h2 h3 => ?_⟩
              rcases Nat.lt_succ_iff_lt_or_eq.1 h2 with h4 | rfl
              · exact hall.out j c h1 h4 h3
              · rw [hch.out] at h3
                cases h3
                exact hwb.out
            case measure => simp [intOf]; omega
          · have hL' : isLetterP (s[k].toNat : Int) = false := by simpa using hL
            clear hL
            by_cases hD : isDigitP (s[k].toNat : Int) = true
            · have hwb0 : wordB s[k] = true := by simp [wordB, hD]
              have hwb := Lib.hid hwb0; clear hwb0
              have HL := Lib.hid hL'; clear hL'
              have HD := Lib.hid hD; clear hD
              go_wp2_with (first
                | (go_at_call 25; refine (shipIsLetter_any _ false _ HL.out).mono ?_; rintro e w' ⟨rfl, rfl⟩)
                | (go_at_call 26; refine (shipIsDigit_any _ true _ HD.out).mono ?_; rintro e w' ⟨rfl, rfl⟩))
              go_roundw
              case rel =>
                refine ⟨k + 1, by omega, by omega, by go_num, EqW.refl _, fun j c h1 h2 h3 => ?_⟩
                rcases Nat.lt_succ_iff_lt_or_eq.1 h2 with h4 | rfl
                · exact hall.out j c h1 h4 h3
                · rw [hch.out] at h3
                  cases h3
                  exact hwb.out
              case measure => simp [intOf]; omega
            · have hD' : isDigitP (s[k].toNat : Int) = false := by simpa using hD
              clear hD
              by_cases hG : 128 ≤ (s[k].toNat : Int)
              · have hwb0 : wordB s[k] = true := by simp [wordB, hG]
                have hwb := Lib.hid hwb0; clear hwb0
                have HL := Lib.hid hL'; clear hL'
                have HD := Lib.hid hD'; clear hD'
                go_wp2_with (first
                  | (go_at_call 25; refine (shipIsLetter_any _ false _ HL.out).mono ?_; rintro e w' ⟨rfl, rfl⟩)
                  | (go_at_call 26; refine (shipIsDigit_any _ false _ HD.out).mono ?_; rintro e w' ⟨rfl, rfl⟩))
                go_roundw
                case rel =>
                  refine ⟨k + 1, by omega, by omega, by go_num, EqW.refl _, fun j c h1 h2 h3 => ?_⟩
                  rcases Nat.lt_succ_iff_lt_or_eq.1 h2 with h4 | rfl
                  · exact hall.out j c h1 h4 h3
                  · rw [hch.out] at h3
                    cases h3
                    exact hwb.out
                case measure => simp [intOf]; omega
              · have hwb0 : wordB s[k] = false := by simp [wordB, hL', hD', hG]
                have hst0 : ∀ c, s.data.toList[k]? = some c → wordB c = false := fun c h => by rw [hch.out] at h; cases h; exact hwb0
                have hst := Lib.hid hst0; clear hst0
                clear hwb0
                have HL := Lib.hid hL'; clear hL'
                have HD := Lib.hid hD'; clear hD'
                have hstop := words_stop hst.out
                have HStop := Lib.hid hstop; clear hstop
                have hrun := words_run s.data.toList i (k - i) [] (by rw [size_toList]; omega) (fun j c h1 h2 h3 => hall.out j c h1 (by omega) h3)
                rw [show i + (k - i) = k from by omega, List.nil_append, HStop.out] at hrun
                have HRun := Lib.hid hrun; clear hrun
                have hlen : (lowerL ((s.data.toList.drop i).take (k - i))).length = k - i := by simp only [lowerL, List.length_map, List.length_take, List.length_drop]; rw [size_toList]; omega
                have HLen := Lib.hid hlen; clear hlen
                by_cases hki : k = i
                · subst hki
                  go_wp2_with (first
                    | (go_at_call 25; refine (shipIsLetter_any _ false _ HL.out).mono ?_; rintro e w' ⟨rfl, rfl⟩)
                    | (go_at_call 26; refine (shipIsDigit_any _ false _ HD.out).mono ?_; rintro e w' ⟨rfl, rfl⟩)
                    | fail)
                  go_roundw
                  case rel =>
                    refine ⟨k + 1, A, c, outL, by omega, by go_num, rfl, hown.out, ?_, by omega, hB.out⟩
                    rw [htot.out]
                    have hs := rest1 hst.out hlt
                    rw [hs]
                  case measure => simp [intOf]; omega
                · by_cases h30 : k - i ≤ 30
                  · have hsz1 : (s.extract i k).size ≤ 1073741824 := by rw [ByteArray.size_extract]; omega
                    have h30' : (k : Int) - (i : Int) ≤ 30 := by omega
                    go_wp2_with (first
                      | (go_at_call 25; refine (shipIsLetter_any _ false _ HL.out).mono ?_; rintro e w' ⟨rfl, rfl⟩)
                      | (go_at_call 26; refine (shipIsDigit_any _ false _ HD.out).mono ?_; rintro e w' ⟨rfl, rfl⟩)
                      | (go_at_call 27; refine (shipLower_any _ _ hsz1).mono ?_; rintro e w5 ⟨rfl, hb1⟩; have HB1 := Lib.hid hb1; clear hb1)
                      | (at_builtin; have hh := (own_below hown.out HB1.out hB.out).alloc (.cells #[.string ⟨(lowerL ((s.data.toList.drop i).take (k - i))).toArray⟩] 9); have k1 : (outL.length + 1) * 16 ≤ 140737488355328 := (by omega); have k2 : outL.length + 1 ≤ maxLen := (by unfold maxLen; omega); have k3 := Nat.le_trans (Nat.le_trans hB.out.size HB1.out.size) (show w5.heap.size ≤ (w5.alloc (.cells #[.string ⟨(lowerL ((s.data.toList.drop i).take (k - i))).toArray⟩] 9)).heap.size from (by simp)); have k4 := cell_new w5 [.string ⟨(lowerL ((s.data.toList.drop i).take (k - i))).toArray⟩] 9 w5.heap.size rfl; go_must (refine wpList_push _ rfl (.tmp 44) (.tmp 50) 38 rfl w.heap.size 9 (.string ⟨#[]⟩) 1 16 Tryz.underlying38 info_string rfl (by omega) (.slice A outL.length c) outL.length _ rfl hh [.string ⟨(lowerL ((s.data.toList.drop i).take (k - i))).toArray⟩] rfl _ rfl k4 (one_str _) k1 k2 k3 ?_); clear hh k1 k2 k3 k4; intro g1 c1 w2 h1 hw1 hg1 hb1))
                    go_roundw
                    case rel =>
                      refine ⟨k, some ⟨g1, 0, none⟩, c1, outL ++ [lowerL ((s.data.toList.drop i).take (k - i))], by omega, by go_num, by simp, ?_, ?_, by simp; omega, hB.out.trans ((HB1.out.mono hB.out.size).trans (((Below.refl _ _).alloc (Nat.le_trans hB.out.size HB1.out.size) _).trans hb1))⟩
                      · rw [strCells, List.map_append, List.length_append]
                        simpa [strCells] using h1
                      · rw [htot.out, HRun.out, flush_some (by rw [HLen.out]; omega) (by rw [HLen.out]; exact h30), List.append_assoc]
                    case measure => simp [intOf]; omega
                  · have h30' : ¬ (k : Int) - (i : Int) ≤ 30 := by omega
                    go_wp2_with (first
                      | (go_at_call 25; refine (shipIsLetter_any _ false _ HL.out).mono ?_; rintro e w' ⟨rfl, rfl⟩)
                      | (go_at_call 26; refine (shipIsDigit_any _ false _ HD.out).mono ?_; rintro e w' ⟨rfl, rfl⟩)
                      | fail)
                    go_roundw
                    case rel =>
                      refine ⟨k, A, c, outL, by omega, by go_num, rfl, hown.out, ?_, by omega, hB.out⟩
                      rw [htot.out, HRun.out, flush_none (by rw [HLen.out]; omega), List.nil_append]
                    case measure => simp [intOf]; omega
        · have hst0 : ∀ c, s.data.toList[k]? = some c → wordB c = false := fun c h => absurd ((List.getElem?_eq_some_iff.1 h).1) (by rw [size_toList]; omega)
          have hst := Lib.hid hst0; clear hst0
          have hstop := words_stop hst.out
          have HStop := Lib.hid hstop; clear hstop
          have hrun := words_run s.data.toList i (k - i) [] (by rw [size_toList]; omega) (fun j c h1 h2 h3 => hall.out j c h1 (by omega) h3)
          rw [show i + (k - i) = k from by omega, List.nil_append, HStop.out] at hrun
          have HRun := Lib.hid hrun; clear hrun
          have hlen : (lowerL ((s.data.toList.drop i).take (k - i))).length = k - i := by simp only [lowerL, List.length_map, List.length_take, List.length_drop]; rw [size_toList]; omega
          have HLen := Lib.hid hlen; clear hlen
          by_cases hki : k = i
          · subst hki
            go_wp2_with (first
              | fail)
            go_roundw
            case rel =>
              refine ⟨k + 1, A, c, outL, by omega, by go_num, rfl, hown.out, ?_, by omega, hB.out⟩
              rw [htot.out]
              have hs := rest1 hst.out hlt
              rw [hs]
            case measure => simp [intOf]; omega
          · by_cases h30 : k - i ≤ 30
            · have hsz1 : (s.extract i k).size ≤ 1073741824 := by rw [ByteArray.size_extract]; omega
              have h30' : (k : Int) - (i : Int) ≤ 30 := by omega
              go_wp2_with (first
                | (go_at_call 27; refine (shipLower_any _ _ hsz1).mono ?_; rintro e w5 ⟨rfl, hb1⟩; have HB1 := Lib.hid hb1; clear hb1)
                | (at_builtin; have hh := (own_below hown.out HB1.out hB.out).alloc (.cells #[.string ⟨(lowerL ((s.data.toList.drop i).take (k - i))).toArray⟩] 9); have k1 : (outL.length + 1) * 16 ≤ 140737488355328 := (by omega); have k2 : outL.length + 1 ≤ maxLen := (by unfold maxLen; omega); have k3 := Nat.le_trans (Nat.le_trans hB.out.size HB1.out.size) (show w5.heap.size ≤ (w5.alloc (.cells #[.string ⟨(lowerL ((s.data.toList.drop i).take (k - i))).toArray⟩] 9)).heap.size from (by simp)); have k4 := cell_new w5 [.string ⟨(lowerL ((s.data.toList.drop i).take (k - i))).toArray⟩] 9 w5.heap.size rfl; go_must (refine wpList_push _ rfl (.tmp 44) (.tmp 50) 38 rfl w.heap.size 9 (.string ⟨#[]⟩) 1 16 Tryz.underlying38 info_string rfl (by omega) (.slice A outL.length c) outL.length _ rfl hh [.string ⟨(lowerL ((s.data.toList.drop i).take (k - i))).toArray⟩] rfl _ rfl k4 (one_str _) k1 k2 k3 ?_); clear hh k1 k2 k3 k4; intro g1 c1 w2 h1 hw1 hg1 hb1))
              go_roundw
              case rel =>
                refine ⟨k, some ⟨g1, 0, none⟩, c1, outL ++ [lowerL ((s.data.toList.drop i).take (k - i))], by omega, by go_num, by simp, ?_, ?_, by simp; omega, hB.out.trans ((HB1.out.mono hB.out.size).trans (((Below.refl _ _).alloc (Nat.le_trans hB.out.size HB1.out.size) _).trans hb1))⟩
                · rw [strCells, List.map_append, List.length_append]
                  simpa [strCells] using h1
                · rw [htot.out, HRun.out, flush_some (by rw [HLen.out]; omega) (by rw [HLen.out]; exact h30), List.append_assoc]
              case measure => simp [intOf]; omega
            · have h30' : ¬ (k : Int) - (i : Int) ≤ 30 := by omega
              go_wp2_with (first
                | fail)
              go_roundw
              case rel =>
                refine ⟨k, A, c, outL, by omega, by go_num, rfl, hown.out, ?_, by omega, hB.out⟩
                rw [htot.out, HRun.out, flush_none (by rw [HLen.out]; omega), List.nil_append]
              case measure => simp [intOf]; omega
    · have hfin : wordsAux s.data.toList [] = outL := by
        rw [htot.out, List.drop_of_length_le (by rw [size_toList]; omega), wordsAux, flush_nil, List.append_nil]
      have HO := Lib.hid (hown.out)
      have HFin := Lib.hid hfin; clear hfin
      go_wp2_with fail
      go_ret
      exact ⟨_, rfl, by rw [HFin.out]; exact HO.out, hB.out⟩

theorem words_any (s : ByteArray) (w : World) (hs : s.size ≤ 1048576) :
    Calls Tryz.prog 9 #[.string s] w fun e w' => ∃ v, e = .returned v ∧ OnesAt w' v (strCells (wordsAux s.data.toList [])) ∧ Below w.heap.size w w' :=
  (words_own s w hs).mono fun _ _ ⟨v, h1, h2, h3⟩ => ⟨v, h1, OnesAt.of_own h2, h3⟩

end Go.Proofs.YtmcelgokchhpfaaGreatDoor
