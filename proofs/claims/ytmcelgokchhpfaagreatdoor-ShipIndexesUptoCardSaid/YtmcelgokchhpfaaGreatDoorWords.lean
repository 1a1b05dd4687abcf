/-
  The words of a string: ship.Words and mastref1.WordsIn.
-/
import Derived.Test.YtmcelgokchhpfaaGreatDoorWordsPlain
import Derived.Test.YtmcelgokchhpfaaGreatDoorEqualStrs
import Derived.Deep.DeepMust
import Derived.WalkSpells
namespace Go.Proofs.YtmcelgokchhpfaaGreatDoor
open Go.RowKit Go.Deep

theorem info_string : (Tryz.prog.info? 9).map (fun i => (i.zero, i.size, i.bytes)) = some (some (.string ⟨#[]⟩), 1, 16) := by kernel_rfl

theorem append_data (a b : ByteArray) : (a ++ b).data.toList = a.data.toList ++ b.data.toList := by
  simp [ByteArray.data_append]

theorem one_byte (s : ByteArray) (i : Nat) (c : UInt8) (h : s.data.toList[i]? = some c) : lowerL (s.extract i (i + 1)).data.toList = [lowerB c] := by
  rw [Lib.extract_data]
  obtain ⟨hi, rfl⟩ := List.getElem?_eq_some_iff.1 h
  rw [List.drop_eq_getElem_cons hi, show i + 1 - i = 1 from by omega, List.take_succ_cons, List.take_zero]
  rfl

theorem lower_one (s : ByteArray) (i : Nat) (c : UInt8) (w : World) (h : s.data.toList[i]? = some c) (hs : (s.extract i (i + 1)).size ≤ 1073741824) :
    Calls Tryz.prog 40 #[.string (s.extract i (i + 1))] w fun e w' => e = .returned (.string ⟨#[lowerB c]⟩) ∧ Below w.heap.size w w' :=
  (refLower_any _ w hs).mono fun e w' ⟨he, hb⟩ => ⟨by rw [he, one_byte s i c h], hb⟩

/-- what holds at the head of a round of WordsIn -/
def WordsRel (s : ByteArray) (B : Nat) (w0 : World) (t3 t4 t5 : Value) (wr : World) : Prop :=
  ∃ (i : Nat) (A : Option Addr) (c : Nat) (outL : List (List UInt8)) (u : ByteArray), i ≤ s.size + 1 ∧ t5 = .int .i64 i ∧ t4 = .string u ∧ t3 = .slice A outL.length c ∧
    wr.ownsRow B 9 1 (.slice A outL.length c) outL.length (strCells outL) ∧ wordsAux s.data.toList [] = outL ++ wordsRest s.data.toList i u.data.toList ∧ outL.length ≤ i ∧ u.size ≤ i ∧ Below B w0 wr

theorem byte_at {s : ByteArray} {i : Nat} {c : UInt8} (h : s.data.toList[i]? = some c) (hi : i < s.size) : s[i] = c := by
  obtain ⟨h1, h2⟩ := List.getElem?_eq_some_iff.1 h
  rw [← h2]; rfl
theorem isEmpty_of {u : ByteArray} (h : u.size = 0) : u.toList.isEmpty = true := by
  rw [Lib.toList_data, List.isEmpty_iff]
  exact List.eq_nil_of_length_eq_zero (by rw [size_toList]; exact h)
theorem not_isEmpty {u : ByteArray} (h : ¬ u.size = 0) : u.toList.isEmpty = false := by
  rw [Lib.toList_data]
  cases hl : u.data.toList with
  | nil => exact absurd (by rw [← size_toList, hl]; rfl) h
  | cons a r => rfl
theorem toList_nil {u : ByteArray} (h : u.size = 0) : u.data.toList = [] := List.eq_nil_of_length_eq_zero (by rw [size_toList]; exact h)
theorem toList_ne {u : ByteArray} (h : ¬ u.size = 0) : u.data.toList ≠ [] := fun e => h (by rw [← size_toList, e]; rfl)
theorem own_below {w w' : World} {B B' : Nat} {e : TypeId} {K : Nat} {v : Value} {n : Nat} {xs : List Value} {w0 : World} (h : w.ownsRow B e K v n xs) (hb : Below B' w w') (_h0 : Below B w0 w) (hB : w.heap.size ≤ B' := by simp) : w'.ownsRow B e K v n xs :=
  h.kept (row := none) ⟨hb.os, hb.tape, hb.output, hb.size, fun k hk _ => hb.block k (Nat.lt_of_lt_of_le hk hB)⟩ (by cases hv : v.ownBlock <;> simp)

set_option maxRecDepth 100000 in
set_option maxHeartbeats 4000000 in
theorem wordsIn_own (s : ByteArray) (w : World) (hs : s.size ≤ 1048576) :
    Calls Tryz.prog 15 #[.string s] w fun e w' => ∃ v, e = .returned v ∧ w'.ownsRow w.heap.size 9 1 v (wordsAux s.data.toList []).length (strCells (wordsAux s.data.toList [])) ∧ Below w.heap.size w w' := by
  go_enter Tryz.func15, Tryz.ntmps15
  go_wp2_with fail
  go_loopw [3, 4, 5] (fun t3 t4 t5 wr => WordsRel s w.heap.size w t3 t4 t5 wr) (fun _ _ i _ => s.size + 1 - (intOf i).toNat)
  case atStart => exact ⟨0, none, 0, [], ⟨#[]⟩, Nat.zero_le _, rfl, rfl, rfl, World.ownsRow_nil _ _ _ _, by rw [rest_zero]; rfl, Nat.le_refl _, Nat.le_refl 0, Below.refl _ _⟩
  case round =>
    obtain ⟨i, A, c, outL, u, hi, rfl, rfl, rfl, hown0, htot0, hol, hul, hB0⟩ := hrel
    have hown := Lib.hid hown0; clear hown0
    have htot := Lib.hid htot0; clear htot0
    have hB := Lib.hid hB0; clear hB0
    by_cases hle : i ≤ s.size
    · by_cases hlt : i < s.size
      · obtain ⟨ch, hch0⟩ : ∃ b, s.data.toList[i]? = some b := ⟨_, List.getElem?_eq_getElem (by rw [size_toList]; exact hlt)⟩
        have hch := Lib.hid hch0; clear hch0
        have hsb : s[i] = ch := byte_at hch.out hlt
        have hsz1 : (s.extract i (i + 1)).size ≤ 1073741824 := by rw [ByteArray.size_extract]; omega
        have hlt1 : (i : Int) + 1 ≤ (s.size : Int) := by omega
        have hcb : (ch.toNat : Int) < 256 := by have := ch.toNat_lt; omega
        subst hsb
        by_cases hL : isLetterP (s[i].toNat : Int) = true
        · have hwb0 : wordB s[i] = true := by simp [wordB, hL]
          have hwb := Lib.hid hwb0; clear hwb0
          have HL := Lib.hid hL; clear hL
          go_wp2_with (first
            | (go_at_call 38; refine (refIsLetter_any _ true _ HL.out).mono ?_; rintro e w' ⟨rfl, rfl⟩)
            | (go_at_call 39; refine (refIsDigit_any _ false _ HD.out).mono ?_; rintro e w' ⟨rfl, rfl⟩)
            | (go_at_call 40; refine (lower_one s i _ _ hch.out hsz1).mono ?_; rintro e w' ⟨rfl, hb1⟩; have HB1 := Lib.hid hb1; clear hb1))
          go_roundw
          case rel =>
            refine ⟨i + 1, A, c, outL, _, by omega, by go_num, rfl, rfl, own_below hown.out HB1.out hB.out, ?_, by omega, ?_, hB.out.trans (HB1.out.mono hB.out.size)⟩
            · rw [htot.out, rest_in hch.out hwb.out, append_data]
            · have : (u ++ (⟨#[lowerB s[i]]⟩ : ByteArray)).size = u.size + 1 := by
                rw [← size_toList, append_data, List.length_append, size_toList]
                rfl
              omega
          case measure => simp [intOf]; omega
        · have hL' : isLetterP (s[i].toNat : Int) = false := by simpa using hL
          clear hL
          by_cases hD : isDigitP (s[i].toNat : Int) = true
          · have hwb0 : wordB s[i] = true := by simp [wordB, hD]
            have hwb := Lib.hid hwb0; clear hwb0
            have HL := Lib.hid hL'; clear hL'
            have HD := Lib.hid hD; clear hD
            go_wp2_with (first
              | (go_at_call 38; refine (refIsLetter_any _ false _ HL.out).mono ?_; rintro e w' ⟨rfl, rfl⟩)
              | (go_at_call 39; refine (refIsDigit_any _ true _ HD.out).mono ?_; rintro e w' ⟨rfl, rfl⟩)
              | (go_at_call 40; refine (lower_one s i _ _ hch.out hsz1).mono ?_; rintro e w' ⟨rfl, hb1⟩; have HB1 := Lib.hid hb1; clear hb1))
            go_roundw
            case rel =>
              refine ⟨i + 1, A, c, outL, _, by omega, by go_num, rfl, rfl, own_below hown.out HB1.out hB.out, ?_, by omega, ?_, hB.out.trans (HB1.out.mono hB.out.size)⟩
              · rw [htot.out, rest_in hch.out hwb.out, append_data]
              · have : (u ++ (⟨#[lowerB s[i]]⟩ : ByteArray)).size = u.size + 1 := by
                  rw [← size_toList, append_data, List.length_append, size_toList]
                  rfl
                omega
            case measure => simp [intOf]; omega
          · have hD' : isDigitP (s[i].toNat : Int) = false := by simpa using hD
            clear hD
            by_cases hG : 128 ≤ (s[i].toNat : Int)
            · have hwb0 : wordB s[i] = true := by simp [wordB, hG]
              have hwb := Lib.hid hwb0; clear hwb0
              have HL := Lib.hid hL'; clear hL'
              have HD := Lib.hid hD'; clear hD'
              go_wp2_with (first
                | (go_at_call 38; refine (refIsLetter_any _ false _ HL.out).mono ?_; rintro e w' ⟨rfl, rfl⟩)
                | (go_at_call 39; refine (refIsDigit_any _ false _ HD.out).mono ?_; rintro e w' ⟨rfl, rfl⟩)
                | (go_at_call 40; refine (lower_one s i _ _ hch.out hsz1).mono ?_; rintro e w' ⟨rfl, hb1⟩; have HB1 := Lib.hid hb1; clear hb1))
              go_roundw
              case rel =>
                refine ⟨i + 1, A, c, outL, _, by omega, by go_num, rfl, rfl, own_below hown.out HB1.out hB.out, ?_, by omega, ?_, hB.out.trans (HB1.out.mono hB.out.size)⟩
                · rw [htot.out, rest_in hch.out hwb.out, append_data]
                · have : (u ++ (⟨#[lowerB s[i]]⟩ : ByteArray)).size = u.size + 1 := by
                    rw [← size_toList, append_data, List.length_append, size_toList]
                    rfl
                  omega
              case measure => simp [intOf]; omega
            · have hwb0 : wordB s[i] = false := by simp [wordB, hL', hD', hG]
              have hwb := Lib.hid hwb0; clear hwb0
              have HL := Lib.hid hL'; clear hL'
              have HD := Lib.hid hD'; clear hD'
              by_cases hu : u.size = 0
              · have hu2 := isEmpty_of hu
                have hu3 := Lib.hid hu; clear hu
                go_wp2_with (first
                  | (go_at_call 38; refine (refIsLetter_any _ false _ HL.out).mono ?_; rintro e w' ⟨rfl, rfl⟩)
                  | (go_at_call 39; refine (refIsDigit_any _ false _ HD.out).mono ?_; rintro e w' ⟨rfl, rfl⟩)
                  | fail)
                go_roundw
                case rel =>
                  have hfl : flush u.data.toList = [] := by rw [toList_nil hu3.out, flush_nil]
                  refine ⟨i + 1, A, c, outL, ⟨#[]⟩, by omega, by go_num, rfl, rfl, hown.out, ?_, by omega, Nat.zero_le _, hB.out⟩
                  rw [htot.out, rest_out hch.out hwb.out, hfl, List.nil_append]
                case measure => simp [intOf]; omega
              · by_cases h30 : u.size ≤ 30
                · have hu2 := not_isEmpty hu
                  have hu3 := Lib.hid hu; clear hu
                  go_wp2_with (first
                    | (go_at_call 38; refine (refIsLetter_any _ false _ HL.out).mono ?_; rintro e w' ⟨rfl, rfl⟩)
                    | (go_at_call 39; refine (refIsDigit_any _ false _ HD.out).mono ?_; rintro e w' ⟨rfl, rfl⟩)
                    | (at_builtin; have hh := hown.out.alloc (.cells #[.string u] 9); have k1 : (outL.length + 1) * 16 ≤ 140737488355328 := (by omega); have k2 : outL.length + 1 ≤ maxLen := (by unfold maxLen; omega); have k3 := Nat.le_trans hB.out.size (show wr.heap.size ≤ (wr.alloc (.cells #[.string u] 9)).heap.size from (by simp)); have k4 := cell_new wr [.string u] 9 wr.heap.size rfl; go_must (refine wpList_push _ rfl (.tmp 49) (.tmp 51) 38 rfl w.heap.size 9 (.string ⟨#[]⟩) 1 16 Tryz.underlying38 info_string rfl (by omega) (.slice A outL.length c) outL.length _ rfl hh [.string u] rfl _ rfl k4 (one_str _) k1 k2 k3 ?_); clear hh k1 k2 k3 k4; intro g1 c1 w2 h1 hw1 hg1 hb1))
                  go_roundw
                  case rel =>
                    have hfl : flush u.data.toList = [u.data.toList] := by unfold flush; rw [if_pos ⟨toList_ne hu3.out, by rw [size_toList]; omega⟩]
                    refine ⟨i + 1, some ⟨g1, 0, none⟩, c1, outL ++ [u.data.toList], ⟨#[]⟩, by omega, by go_num, rfl, by simp, ?_, ?_, by simp; omega, Nat.zero_le _, hB.out.trans (((Below.refl _ _).alloc hB.out.size _).trans hb1)⟩
                    · rw [strCells, List.map_append, List.length_append]
                      simpa [mk_toList, strCells] using h1
                    · rw [htot.out, rest_out hch.out hwb.out, hfl, List.append_assoc]
                  case measure => simp [intOf]; omega
                · have hu2 := not_isEmpty hu
                  have hu3 := Lib.hid hu; clear hu
                  go_wp2_with (first
                    | (go_at_call 38; refine (refIsLetter_any _ false _ HL.out).mono ?_; rintro e w' ⟨rfl, rfl⟩)
                    | (go_at_call 39; refine (refIsDigit_any _ false _ HD.out).mono ?_; rintro e w' ⟨rfl, rfl⟩)
                    | fail)
                  go_roundw
                  case rel =>
                    have hfl : flush u.data.toList = [] := by unfold flush; rw [if_neg (by rw [size_toList]; omega)]
                    refine ⟨i + 1, A, c, outL, ⟨#[]⟩, by omega, by go_num, rfl, rfl, hown.out, ?_, by omega, Nat.zero_le _, hB.out⟩
                    rw [htot.out, rest_out hch.out hwb.out, hfl, List.nil_append]
                  case measure => simp [intOf]; omega
      · have hie : i = s.data.toList.length := by rw [size_toList]; omega
        have hre0 : wordsRest s.data.toList i u.data.toList = flush u.data.toList ++ wordsRest s.data.toList (i + 1) [] := by rw [hie]; exact rest_end _
        have hre := Lib.hid hre0; clear hre0 hie
        by_cases hu : u.size = 0
        · have hu2 := isEmpty_of hu
          have hu3 := Lib.hid hu; clear hu
          go_wp2_with (first
            | fail
            | fail)
          go_roundw
          case rel =>
            have hfl : flush u.data.toList = [] := by rw [toList_nil hu3.out, flush_nil]
            refine ⟨i + 1, A, c, outL, ⟨#[]⟩, by omega, by go_num, rfl, rfl, hown.out, ?_, by omega, Nat.zero_le _, hB.out⟩
            rw [htot.out, hre.out, hfl, List.nil_append]
          case measure => simp [intOf]; omega
        · by_cases h30 : u.size ≤ 30
          · have hu2 := not_isEmpty hu
            have hu3 := Lib.hid hu; clear hu
            go_wp2_with (first
              | fail
              | (at_builtin; have hh := hown.out.alloc (.cells #[.string u] 9); have k1 : (outL.length + 1) * 16 ≤ 140737488355328 := (by omega); have k2 : outL.length + 1 ≤ maxLen := (by unfold maxLen; omega); have k3 := Nat.le_trans hB.out.size (show wr.heap.size ≤ (wr.alloc (.cells #[.string u] 9)).heap.size from (by simp)); have k4 := cell_new wr [.string u] 9 wr.heap.size rfl; go_must (refine wpList_push _ rfl (.tmp 49) (.tmp 51) 38 rfl w.heap.size 9 (.string ⟨#[]⟩) 1 16 Tryz.underlying38 info_string rfl (by omega) (.slice A outL.length c) outL.length _ rfl hh [.string u] rfl _ rfl k4 (one_str _) k1 k2 k3 ?_); clear hh k1 k2 k3 k4; intro g1 c1 w2 h1 hw1 hg1 hb1))
            go_roundw
            case rel =>
              have hfl : flush u.data.toList = [u.data.toList] := by unfold flush; rw [if_pos ⟨toList_ne hu3.out, by rw [size_toList]; omega⟩]
              refine ⟨i + 1, some ⟨g1, 0, none⟩, c1, outL ++ [u.data.toList], ⟨#[]⟩, by omega, by go_num, rfl, by simp, ?_, ?_, by simp; omega, Nat.zero_le _, hB.out.trans (((Below.refl _ _).alloc hB.out.size _).trans hb1)⟩
              · rw [strCells, List.map_append, List.length_append]
                simpa [mk_toList, strCells] using h1
              · rw [htot.out, hre.out, hfl, List.append_assoc]
            case measure => simp [intOf]; omega
          · have hu2 := not_isEmpty hu
            have hu3 := Lib.hid hu; clear hu
            go_wp2_with (first
              | fail
              | fail)
            go_roundw
            case rel =>
              have hfl : flush u.data.toList = [] := by unfold flush; rw [if_neg (by rw [size_toList]; omega)]
              refine ⟨i + 1, A, c, outL, ⟨#[]⟩, by omega, by go_num, rfl, rfl, hown.out, ?_, by omega, Nat.zero_le _, hB.out⟩
              rw [htot.out, hre.out, hfl, List.nil_append]
            case measure => simp [intOf]; omega
    · have hie : i = s.size + 1 := by omega
      have hfin : wordsAux s.data.toList [] = outL := by
        rw [htot.out, wordsRest, if_neg (by rw [size_toList]; omega), List.append_nil]
      have hone := hown.out
      have HO := Lib.hid hone; clear hone
      have HFin := Lib.hid hfin; clear hfin hie
      go_wp2_with fail
      go_ret
      exact ⟨_, rfl, by rw [HFin.out]; exact HO.out, hB.out⟩

theorem wordsIn_any (s : ByteArray) (w : World) (hs : s.size ≤ 1048576) :
    Calls Tryz.prog 15 #[.string s] w fun e w' => ∃ v, e = .returned v ∧ OnesAt w' v (strCells (wordsAux s.data.toList [])) ∧ Below w.heap.size w w' :=
  (wordsIn_own s w hs).mono fun _ _ ⟨v, h1, h2, h3⟩ => ⟨v, h1, OnesAt.of_own h2, h3⟩

end Go.Proofs.YtmcelgokchhpfaaGreatDoor
