/-
  The words of a shortcode's line, as the reference cuts them.
-/
import Derived.Test.YtgbmlpidaeefoaaCodeValue
import Derived.Test.YtgbmlpidaeefoaaOwn
namespace Go.Proofs.Ytgbmlpidaeefoaa
open Go.RowKit Go.Deep

theorem info_strW : (Try.prog.info? 9).map (fun i => (i.zero, i.size, i.bytes)) = some (some (.string ⟨#[]⟩), 1, 16) := by kernel_rfl

/-- words as cells -/
def wstrs (l : List (List UInt8)) : List Value := l.map fun x => .string ⟨x.toArray⟩
theorem wstrs_push (l : List (List UInt8)) (x : List UInt8) (z : ByteArray) (h : z.data.toList = x) : wstrs (l ++ [x]) = wstrs l ++ [.string z] := by
  subst h
  simp [wstrs]

/-- how far a line has been cut -/
def WRel (l : List UInt8) (ws : List (List UInt8)) (q : Bool) (fr i : Nat) : Prop := wordsF false [] l = ws ++ wordsF q ((l.take i).drop fr) (l.drop i)

theorem cur_more {l : List UInt8} {fr i : Nat} {c : UInt8} (h : fr ≤ i) (hc : l[i]? = some c) : (l.take (i + 1)).drop fr = (l.take i).drop fr ++ [c] := by
  obtain ⟨hk, rfl⟩ := List.getElem?_eq_some_iff.1 hc
  rw [List.take_succ_eq_append_getElem hk, List.drop_append_of_le_length (by simp; omega)]
theorem drop_cons {l : List UInt8} {i : Nat} {c : UInt8} (hc : l[i]? = some c) : l.drop i = c :: l.drop (i + 1) := by
  obtain ⟨hk, rfl⟩ := List.getElem?_eq_some_iff.1 hc
  exact List.drop_eq_getElem_cons hk

theorem WRel.esc {l : List UInt8} {ws : List (List UInt8)} {fr i : Nat} {c : UInt8} (h : WRel l ws true fr i) (hf : fr ≤ i) (hc : l[i]? = some c) (h92 : (c.toNat : Int) = 92) : WRel l ws true fr (i + 2) := by
  have h9 : c = 92 := toNat_inj h92
  unfold WRel
  rw [show wordsF false [] l = _ from h, drop_cons hc, wordsF_cons, if_pos ⟨rfl, h9⟩]
  cases hd : l[i + 1]? with
  | none =>
    have hl : l.length ≤ i + 1 := List.getElem?_eq_none_iff.1 hd
    rw [show l.drop (i + 1) = [] from List.drop_of_length_le hl, show l.drop (i + 2) = [] from List.drop_of_length_le (by omega), wordsF_nil, show l.take (i + 2) = l from List.take_of_length_le (by omega)]
    simp only
    rw [← cur_more hf hc, List.take_of_length_le hl]
  | some d =>
    rw [drop_cons hd]
    simp only
    have h1 := cur_more (fr := fr) (by omega : fr ≤ i + 1) hd
    rw [cur_more hf hc] at h1
    rw [show i + 2 = i + 1 + 1 by omega, h1]
    simp
theorem WRel.quote {l : List UInt8} {ws : List (List UInt8)} {q : Bool} {fr i : Nat} {c : UInt8} (h : WRel l ws q fr i) (hf : fr ≤ i) (hc : l[i]? = some c) (h34 : (c.toNat : Int) = 34) : WRel l ws (!q) fr (i + 1) := by
  have h9 : c = 34 := toNat_inj h34
  unfold WRel
  rw [show wordsF false [] l = _ from h, drop_cons hc, wordsF_cons, if_neg (by rw [h9]; rintro ⟨_, h⟩; exact absurd h (by decide)), if_pos h9, cur_more hf hc]
theorem WRel.cut {l : List UInt8} {ws : List (List UInt8)} {fr i : Nat} {c : UInt8} (h : WRel l ws false fr i) (hc : l[i]? = some c) (h32 : (c.toNat : Int) = 32) : WRel l (ws ++ [(l.take i).drop fr]) false (i + 1) (i + 1) := by
  have h9 : c = 32 := toNat_inj h32
  unfold WRel
  rw [show wordsF false [] l = _ from h, drop_cons hc, wordsF_cons, if_neg (fun h => by cases h.1), if_neg (by rw [h9]; decide), if_pos ⟨h9, rfl⟩, List.drop_of_length_le (show (l.take (i + 1)).length ≤ i + 1 by simp; omega)]
  simp
theorem WRel.more {l : List UInt8} {ws : List (List UInt8)} {q : Bool} {fr i : Nat} {c : UInt8} (h : WRel l ws q fr i) (hf : fr ≤ i) (hc : l[i]? = some c) (h92 : q = true → ¬ (c.toNat : Int) = 92) (h34 : ¬ (c.toNat : Int) = 34) (h32 : q = false → ¬ (c.toNat : Int) = 32) : WRel l ws q fr (i + 1) := by
  unfold WRel
  rw [show wordsF false [] l = _ from h, drop_cons hc, wordsF_cons, if_neg (fun h => h92 h.1 (by rw [h.2]; rfl)), if_neg (fun h => h34 (by rw [h]; rfl)), if_neg (fun h => h32 h.2 (by rw [h.1]; rfl)), cur_more hf hc]
theorem WRel.fin {l : List UInt8} {ws : List (List UInt8)} {q : Bool} {fr i : Nat} (h : WRel l ws q fr i) (hi : l.length ≤ i) : wordsF false [] l = ws ++ [l.drop fr] := by
  rw [show wordsF false [] l = _ from h, List.drop_of_length_le hi, wordsF_nil, List.take_of_length_le hi]

/-- words in memory -/
def WordsPost (s : ByteArray) (w : World) (e : Ending) (w' : World) : Prop :=
  ∃ (A : Option Addr) (n c : Nat), e = .returned (.slice A n c) ∧ (wordsF false [] s.data.toList).length = n ∧ w'.ownsRow w.heap.size 9 1 (.slice A n c) n (wstrs (wordsF false [] s.data.toList)) ∧ Below w.heap.size w w'

set_option maxRecDepth 100000 in
set_option maxHeartbeats 4000000 in
theorem words_c (s : ByteArray) (w : World) (hs : s.size ≤ 1048576) : Calls Try.prog 26 #[.string s] w (WordsPost s w) := by
  go_enter Try.func26, Try.ntmps26
  go_wp2_with fail
  go_loopw [3, 4, 5, 6] (fun t3 t4 t5 t6 wr => ∃ (i fr m : Nat) (q : Bool) (Ao : Option Addr) (co : Nat) (ws : List (List UInt8)), i ≤ s.size + 1 ∧ fr ≤ s.size ∧ fr ≤ i ∧ m ≤ i ∧ t3 = .slice Ao m co ∧ t4 = .int .i64 fr ∧ t5 = .bool q ∧ t6 = .int .i64 i ∧
    Hid (ws.length = m) ∧ Hid (wr.ownsRow w.heap.size 9 1 (.slice Ao m co) m (wstrs ws)) ∧ Hid (Below w.heap.size w wr) ∧ Hid (WRel s.data.toList ws q fr i)) (fun _ _ _ t _ => s.size + 1 - (intOf t).toNat)
  case atStart => exact ⟨0, 0, 0, false, none, 0, [], by omega, Nat.zero_le _, Nat.le_refl _, Nat.le_refl _, rfl, rfl, rfl, rfl, rfl, World.ownsRow_nil _ _ _ _, Below.refl _ _, (show _ = _ by simp)⟩
  case round =>
    obtain ⟨i, fr, m, q, Ao, co, ws, hi, hfr, hfi, hmi, rfl, rfl, rfl, rfl, HLn, HO, HB, HW⟩ := hrel
    by_cases hlt : i < s.size
    · have HC := Lib.hid (byteR hlt)
      cases q
      · by_cases h34 : (s[i].toNat : Int) = 34
        · have HS := Lib.hid (show WRel s.data.toList ws true fr (i + 1) from HW.out.quote hfi HC.out h34)
          go_wp2_with fail
          go_roundw
          case rel => exact ⟨i + 1, fr, m, true, Ao, co, ws, by omega, by omega, by omega, by omega, rfl, rfl, rfl, by go_num, HLn, HO, HB, HS⟩
          case measure => simp [intOf]; omega
        have hb34 : ((s[i].toNat : Int) == 34) = false := by simpa using h34
        by_cases h32 : (s[i].toNat : Int) = 32
        · have HS := Lib.hid (HW.out.cut HC.out h32)
          have hI1 : (fr : Int) ≤ (i : Int) := by omega
          have hI2 : (i : Int) ≤ (s.size : Int) := by omega
          have hE := Lib.hid (show (s.extract fr i).data.toList = (s.data.toList.take i).drop fr from ext_list _ _ _)
          have hbs := HB.out.size
          clear h34
          go_wp2_with (at_builtin; have hh := own_alloc HO.out (.cells #[.string (s.extract fr i)] 9); have k1 : (m + 1) * 16 ≤ 140737488355328 := (by omega); have k2 : m + 1 ≤ maxLen := (by unfold maxLen; omega); have k3 : w.heap.size ≤ (wr.alloc (.cells #[.string (s.extract fr i)] 9)).heap.size := (by simp; omega); have k4 := cell_new wr [.string (s.extract fr i)] 9 wr.heap.size rfl; go_must (refine wpList_push _ rfl (.tmp 39) (.tmp 44) 37 rfl w.heap.size 9 _ 1 16 Try.underlying37 info_strW rfl (by omega) (.slice Ao m co) m _ rfl hh [.string (s.extract fr i)] rfl _ rfl k4 (one_str _) k1 k2 k3 ?_); clear hh k1 k2 k3 k4; intro g1 c1 w2 own2 hg2 hgg hb2)
          go_roundw
          case rel => exact ⟨i + 1, i + 1, m + 1, false, some ⟨g1, 0, none⟩, c1, _, by omega, by omega, by omega, by omega, rfl, by go_num, rfl, by go_num, Lib.hid (by rw [List.length_append, HLn.out]; rfl), Lib.hid (by rw [wstrs_push _ _ _ hE.out]; exact own2), Lib.hid ((HB.out.alloc hbs _).trans hb2), HS⟩
          case measure => simp [intOf]; omega
        · have HS := Lib.hid (HW.out.more hfi HC.out (fun h => by cases h) h34 (fun _ => h32))
          have hb32 : ((s[i].toNat : Int) == 32) = false := by simpa using h32
          clear h34 h32
          go_wp2_with fail
          go_roundw
          case rel => exact ⟨i + 1, fr, m, false, Ao, co, ws, by omega, by omega, by omega, by omega, rfl, rfl, rfl, by go_num, HLn, HO, HB, HS⟩
          case measure => simp [intOf]; omega
      · by_cases h92 : (s[i].toNat : Int) = 92
        · have HS := Lib.hid (HW.out.esc hfi HC.out h92)
          go_wp2_with fail
          go_roundw
          case rel => exact ⟨i + 2, fr, m, true, Ao, co, ws, by omega, by omega, by omega, by omega, rfl, rfl, rfl, by go_num, HLn, HO, HB, HS⟩
          case measure => simp [intOf]; omega
        have hb92 : ((s[i].toNat : Int) == 92) = false := by simpa using h92
        by_cases h34 : (s[i].toNat : Int) = 34
        · have HS := Lib.hid (show WRel s.data.toList ws false fr (i + 1) from HW.out.quote hfi HC.out h34)
          clear h92 hb92
          go_wp2_with fail
          go_roundw
          case rel => exact ⟨i + 1, fr, m, false, Ao, co, ws, by omega, by omega, by omega, by omega, rfl, rfl, rfl, by go_num, HLn, HO, HB, HS⟩
          case measure => simp [intOf]; omega
        · have HS := Lib.hid (HW.out.more hfi HC.out (fun _ => h92) h34 (fun h => by cases h))
          have hb34 : ((s[i].toNat : Int) == 34) = false := by simpa using h34
          clear h34 h92
          cases hb32 : ((s[i].toNat : Int) == 32)
          all_goals
            go_wp2_with fail
            go_roundw
            case rel => exact ⟨i + 1, fr, m, true, Ao, co, ws, by omega, by omega, by omega, by omega, rfl, rfl, rfl, by go_num, HLn, HO, HB, HS⟩
            case measure => simp [intOf]; omega
    · have HF := Lib.hid (HW.out.fin (by rw [size_toList]; omega))
      have hI1 : (fr : Int) ≤ (s.size : Int) := by omega
      have hE := Lib.hid (show (s.extract fr s.size).data.toList = s.data.toList.drop fr by rw [ext_list, List.take_of_length_le (by rw [size_toList]; omega)])
      have hbs := HB.out.size
      go_wp2_with (at_builtin; have hh := own_alloc HO.out (.cells #[.string (s.extract fr s.size)] 9); have k1 : (m + 1) * 16 ≤ 140737488355328 := (by omega); have k2 : m + 1 ≤ maxLen := (by unfold maxLen; omega); have k3 : w.heap.size ≤ (wr.alloc (.cells #[.string (s.extract fr s.size)] 9)).heap.size := (by simp; omega); have k4 := cell_new wr [.string (s.extract fr s.size)] 9 wr.heap.size rfl; go_must (refine wpList_push _ rfl (.tmp 48) (.tmp 52) 37 rfl w.heap.size 9 _ 1 16 Try.underlying37 info_strW rfl (by omega) (.slice Ao m co) m _ rfl hh [.string (s.extract fr s.size)] rfl _ rfl k4 (one_str _) k1 k2 k3 ?_); clear hh k1 k2 k3 k4; intro g1 c1 w2 own2 hg2 hgg hb2)
      go_ret
      refine ⟨_, m + 1, c1, rfl, ?_, ?_, (HB.out.alloc hbs _).trans hb2⟩
      · rw [HF.out, List.length_append, HLn.out]; rfl
      · rw [HF.out, wstrs_push _ _ _ hE.out]; exact own2

end Go.Proofs.Ytgbmlpidaeefoaa
