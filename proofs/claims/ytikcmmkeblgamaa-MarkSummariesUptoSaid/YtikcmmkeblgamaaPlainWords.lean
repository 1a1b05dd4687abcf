/-
  Words of plain texts: mark.words, mastref1.WordsOf.
-/
import Derived.Test.YtikcmmkeblgamaaPlainOf
namespace Go.Proofs.Ytikcmmkeblgamaa
open Go.RowKit Go.Deep

def gapB (c : UInt8) : Bool := c == 32 || c == 9 || c == 10
def wordStep (st : Nat × Bool) (c : UInt8) : Nat × Bool := (if (!gapB c && !st.2) = true then st.1 + 1 else st.1, !gapB c)
/-- how many words bytes have, and whether they end inside one -/
def wordsF (l : List UInt8) : Nat × Bool := l.foldl wordStep (0, false)
theorem wordsF_take {l : List UInt8} {k : Nat} {c : UInt8} (h : l[k]? = some c) : wordsF (l.take (k + 1)) = wordStep (wordsF (l.take k)) c := by
  obtain ⟨hk, rfl⟩ := List.getElem?_eq_some_iff.1 h
  rw [List.take_succ_eq_append_getElem hk, wordsF, List.foldl_append]
  rfl
theorem wordsF_le (l : List UInt8) : ∀ k, k ≤ l.length → (wordsF (l.take k)).1 ≤ k
  | 0, _ => by simp [wordsF]
  | k + 1, h => by
    rw [wordsF_take (List.getElem?_eq_getElem (by omega))]
    have := wordsF_le l k (by omega)
    unfold wordStep
    simp only
    split <;> omega

theorem gap_cases (c : UInt8) : ((c.toNat : Int) = 32 ∧ gapB c = true) ∨ ((c.toNat : Int) = 9 ∧ gapB c = true) ∨ ((c.toNat : Int) = 10 ∧ gapB c = true) ∨ (((c.toNat : Int) ≠ 32 ∧ (c.toNat : Int) ≠ 9 ∧ (c.toNat : Int) ≠ 10) ∧ gapB c = false) := by
  by_cases h1 : (c.toNat : Int) = 32
  · have := byte_eq (n := 32) (by omega) h1; subst this; exact Or.inl ⟨h1, by decide⟩
  · by_cases h2 : (c.toNat : Int) = 9
    · have := byte_eq (n := 9) (by omega) h2; subst this; exact Or.inr (Or.inl ⟨h2, by decide⟩)
    · by_cases h3 : (c.toNat : Int) = 10
      · have := byte_eq (n := 10) (by omega) h3; subst this; exact Or.inr (Or.inr (Or.inl ⟨h3, by decide⟩))
      · refine Or.inr (Or.inr (Or.inr ⟨⟨h1, h2, h3⟩, ?_⟩))
        have a := byte_ne (n := 32) (by omega) h1
        have b := byte_ne (n := 9) (by omega) h2
        have d := byte_ne (n := 10) (by omega) h3
        unfold gapB
        rw [show (32 : UInt8) = UInt8.ofNat 32 from rfl, show (9 : UInt8) = UInt8.ofNat 9 from rfl, show (10 : UInt8) = UInt8.ofNat 10 from rfl, a, b, d]
        rfl

def WordsRes (w0 : World) (n : Nat) (e : Ending) (w' : World) : Prop := e = .returned (.int .i64 n) ∧ Below w0.heap.size w0 w'


set_option maxHeartbeats 2000000 in
theorem wordsOf_any (s : ByteArray) (w : World) (hs : s.size ≤ 1073741824) : Calls Try.prog 18 #[.string s] w fun e w' => e = .returned (.int .i64 (wordsF s.data.toList).1) ∧ w = w' := by
  go_enter Try.func18, Try.ntmps18
  go_wp2_with fail
  go_loopw [3, 4, 5] (fun t3 t4 t wr => ∃ (k ct : Nat) (ins : Bool), k ≤ s.size ∧ t = .int .i64 k ∧ t3 = .int .i64 ct ∧ t4 = .bool ins ∧ Hid (wordsF (s.data.toList.take k) = (ct, ins)) ∧ ct ≤ k ∧ EqW wr w) (fun _ _ t _ => s.size - (intOf t).toNat)
  case atStart => exact ⟨0, 0, false, Nat.zero_le _, rfl, rfl, rfl, rfl, Nat.le_refl _, EqW.refl _⟩
  case round =>
    obtain ⟨k, ct, ins, hk, rfl, rfl, rfl, hst, hck, hww⟩ := hrel
    unfold EqW at hww
    subst hww
    by_cases hlt : k < s.size
    · have HTk := Lib.hid (wordsF_take (byteAt' hlt))
      rcases gap_cases s[k] with ⟨hg, hgb⟩ | ⟨hg, hgb⟩ | ⟨hg, hgb⟩ | ⟨hg, hgb⟩
      · have HGb := Lib.hid hgb; clear hgb
        have t32 : ((s[k].toNat : Int) == 32) = true := by simp; omega
        have t9 : ((s[k].toNat : Int) == 9) = false := by simp; omega
        have t10 : ((s[k].toNat : Int) == 10) = false := by simp; omega
        clear hg
        cases ins
        · go_wp2_with fail
          go_roundw
          case rel =>
            refine ⟨k + 1, ct, false, by omega, by go_num, by go_num, rfl, ?_, by omega, EqW.refl _⟩
            show wordsF _ = _
            rw [HTk.out, hst.out, wordStep, HGb.out]
            rfl
          case measure => simp [intOf]; omega
        · go_wp2_with fail
          go_roundw
          case rel =>
            refine ⟨k + 1, ct, false, by omega, by go_num, by go_num, rfl, ?_, by omega, EqW.refl _⟩
            show wordsF _ = _
            rw [HTk.out, hst.out, wordStep, HGb.out]
            rfl
          case measure => simp [intOf]; omega
      · have HGb := Lib.hid hgb; clear hgb
        have t32 : ((s[k].toNat : Int) == 32) = false := by simp; omega
        have t9 : ((s[k].toNat : Int) == 9) = true := by simp; omega
        have t10 : ((s[k].toNat : Int) == 10) = false := by simp; omega
        clear hg
        cases ins
        · go_wp2_with fail
          go_roundw
          case rel =>
            refine ⟨k + 1, ct, false, by omega, by go_num, by go_num, rfl, ?_, by omega, EqW.refl _⟩
            show wordsF _ = _
            rw [HTk.out, hst.out, wordStep, HGb.out]
            rfl
          case measure => simp [intOf]; omega
        · go_wp2_with fail
          go_roundw
          case rel =>
            refine ⟨k + 1, ct, false, by omega, by go_num, by go_num, rfl, ?_, by omega, EqW.refl _⟩
            show wordsF _ = _
            rw [HTk.out, hst.out, wordStep, HGb.out]
            rfl
          case measure => simp [intOf]; omega
      · have HGb := Lib.hid hgb; clear hgb
        have t32 : ((s[k].toNat : Int) == 32) = false := by simp; omega
        have t9 : ((s[k].toNat : Int) == 9) = false := by simp; omega
        have t10 : ((s[k].toNat : Int) == 10) = true := by simp; omega
        clear hg
        cases ins
        · go_wp2_with fail
          go_roundw
          case rel =>
            refine ⟨k + 1, ct, false, by omega, by go_num, by go_num, rfl, ?_, by omega, EqW.refl _⟩
            show wordsF _ = _
            rw [HTk.out, hst.out, wordStep, HGb.out]
            rfl
          case measure => simp [intOf]; omega
        · go_wp2_with fail
          go_roundw
          case rel =>
            refine ⟨k + 1, ct, false, by omega, by go_num, by go_num, rfl, ?_, by omega, EqW.refl _⟩
            show wordsF _ = _
            rw [HTk.out, hst.out, wordStep, HGb.out]
            rfl
          case measure => simp [intOf]; omega
      · have HGb := Lib.hid hgb; clear hgb
        have t32 : ((s[k].toNat : Int) == 32) = false := by simp; omega
        have t9 : ((s[k].toNat : Int) == 9) = false := by simp; omega
        have t10 : ((s[k].toNat : Int) == 10) = false := by simp; omega
        clear hg
        cases ins
        · go_wp2_with fail
          go_roundw
          case rel =>
            refine ⟨k + 1, ct + 1, true, by omega, by go_num, by go_num, rfl, ?_, by omega, EqW.refl _⟩
            show wordsF _ = _
            rw [HTk.out, hst.out, wordStep, HGb.out]
            rfl
          case measure => simp [intOf]; omega
        · go_wp2_with fail
          go_roundw
          case rel =>
            refine ⟨k + 1, ct, true, by omega, by go_num, by go_num, rfl, ?_, by omega, EqW.refl _⟩
            show wordsF _ = _
            rw [HTk.out, hst.out, wordStep, HGb.out]
            rfl
          case measure => simp [intOf]; omega
    · have HF := Lib.hid (show (ct : Int) = ((wordsF s.data.toList).1 : Int) by have := hst.out; rw [List.take_of_length_le (by rw [size_toList]; omega)] at this; rw [this])
      go_wp2_with fail
      go_ret
      exact ⟨ret_int HF.out, rfl⟩

set_option maxRecDepth 100000 in
set_option maxHeartbeats 2000000 in
theorem words_any (l : List Node) (v : Value) (w : World) (h : NodesAt w v l) (ht : weight l ≤ 1073741824) : Calls Try.prog 44 #[v] w (WordsRes w (wordsF (plainL 0 l)).1) := by
  have H := Lib.hid h; clear h
  have HO := Lib.hid (World.ownsRow_nil w w.heap.size 5 1)
  go_enter Try.func44, Try.ntmps44
  go_wp2_with fail
  go_must (refine (plainInto_any w _ l v [] none 0 0 _ (Nat.le_refl _) H.out (Below.refl _ _) HO.out (by omega)).mono ?_)
  rintro e w1 ⟨A, m, c, rfl, own, bel, kt⟩
  rw [List.nil_append] at own
  obtain ⟨cs, hcs⟩ : ∃ cs, plainL 0 l = cs := ⟨_, rfl⟩
  have hm : m = cs.length := by rw [← hcs]; exact (ownM_len own).symm
  have hml : cs.length ≤ 1073741824 := by rw [← hcs]; have := plain_len l 0; omega
  subst hm
  rw [hcs] at own
  have HCs := Lib.hid hcs; clear hcs
  obtain ⟨A', c', hv, hc1, hc2, hA⟩ := own_form own
  cases hv
  have HA := Lib.hid hA; clear hA
  unfold maxLen at hc1
  have HOwn := Lib.hid own; clear own
  have HB := Lib.hid bel; clear bel kt
  go_wp2_with fail
  go_loopw [3, 4, 11] (fun t3 t4 t wr => ∃ (k ct : Nat) (ins : Bool), k ≤ cs.length ∧ t = .int .i64 k ∧ t3 = .int .i64 ct ∧ t4 = .bool ins ∧ Hid (wordsF (cs.take k) = (ct, ins)) ∧ ct ≤ k ∧ EqW wr w1) (fun _ _ t _ => cs.length - (intOf t).toNat)
  case atStart => exact ⟨0, 0, false, Nat.zero_le _, rfl, rfl, rfl, rfl, Nat.le_refl _, EqW.refl _⟩
  case round =>
    obtain ⟨k, ct, ins, hk, rfl, rfl, rfl, hst, hck, hww⟩ := hrel
    unfold EqW at hww
    subst hww
    by_cases hlt : k < cs.length
    · obtain ⟨g, hg0, hBg, hgl⟩ := HA.out (by omega)
      subst hg0
      obtain ⟨ch, hch⟩ : ∃ b, cs[k]? = some b := ⟨_, List.getElem?_eq_getElem hlt⟩
      have q0 : wr.cell? ⟨g, k, none⟩ = some (.int .u8 (ch.toNat : Int)) := own_cell HOwn.out (byteCells_get hch)
      have bb := World.block_lt_of_cell? _ _ q0
      simp only at bb
      have HTk := Lib.hid (wordsF_take hch)
      clear hch
      rcases gap_cases ch with ⟨hg, hgb⟩ | ⟨hg, hgb⟩ | ⟨hg, hgb⟩ | ⟨hg, hgb⟩
      · have HGb := Lib.hid hgb; clear hgb
        have t32 : ((ch.toNat : Int) == 32) = true := by simp; omega
        have t9 : ((ch.toNat : Int) == 9) = false := by simp; omega
        have t10 : ((ch.toNat : Int) == 10) = false := by simp; omega
        clear hg
        cases ins
        · go_wp2_with fail
          go_roundw
          case rel =>
            refine ⟨k + 1, ct, false, by omega, by go_num, by go_num, rfl, ?_, by omega, EqW.refl _⟩
            show wordsF _ = _
            rw [HTk.out, hst.out, wordStep, HGb.out]
            rfl
          case measure => simp [intOf]; omega
        · go_wp2_with fail
          go_roundw
          case rel =>
            refine ⟨k + 1, ct, false, by omega, by go_num, by go_num, rfl, ?_, by omega, EqW.refl _⟩
            show wordsF _ = _
            rw [HTk.out, hst.out, wordStep, HGb.out]
            rfl
          case measure => simp [intOf]; omega
      · have HGb := Lib.hid hgb; clear hgb
        have t32 : ((ch.toNat : Int) == 32) = false := by simp; omega
        have t9 : ((ch.toNat : Int) == 9) = true := by simp; omega
        have t10 : ((ch.toNat : Int) == 10) = false := by simp; omega
        clear hg
        cases ins
        · go_wp2_with fail
          go_roundw
          case rel =>
            refine ⟨k + 1, ct, false, by omega, by go_num, by go_num, rfl, ?_, by omega, EqW.refl _⟩
            show wordsF _ = _
            rw [HTk.out, hst.out, wordStep, HGb.out]
            rfl
          case measure => simp [intOf]; omega
        · go_wp2_with fail
          go_roundw
          case rel =>
            refine ⟨k + 1, ct, false, by omega, by go_num, by go_num, rfl, ?_, by omega, EqW.refl _⟩
            show wordsF _ = _
            rw [HTk.out, hst.out, wordStep, HGb.out]
            rfl
          case measure => simp [intOf]; omega
      · have HGb := Lib.hid hgb; clear hgb
        have t32 : ((ch.toNat : Int) == 32) = false := by simp; omega
        have t9 : ((ch.toNat : Int) == 9) = false := by simp; omega
        have t10 : ((ch.toNat : Int) == 10) = true := by simp; omega
        clear hg
        cases ins
        · go_wp2_with fail
          go_roundw
          case rel =>
            refine ⟨k + 1, ct, false, by omega, by go_num, by go_num, rfl, ?_, by omega, EqW.refl _⟩
            show wordsF _ = _
            rw [HTk.out, hst.out, wordStep, HGb.out]
            rfl
          case measure => simp [intOf]; omega
        · go_wp2_with fail
          go_roundw
          case rel =>
            refine ⟨k + 1, ct, false, by omega, by go_num, by go_num, rfl, ?_, by omega, EqW.refl _⟩
            show wordsF _ = _
            rw [HTk.out, hst.out, wordStep, HGb.out]
            rfl
          case measure => simp [intOf]; omega
      · have HGb := Lib.hid hgb; clear hgb
        have t32 : ((ch.toNat : Int) == 32) = false := by simp; omega
        have t9 : ((ch.toNat : Int) == 9) = false := by simp; omega
        have t10 : ((ch.toNat : Int) == 10) = false := by simp; omega
        clear hg
        cases ins
        · go_wp2_with fail
          go_roundw
          case rel =>
            refine ⟨k + 1, ct + 1, true, by omega, by go_num, by go_num, rfl, ?_, by omega, EqW.refl _⟩
            show wordsF _ = _
            rw [HTk.out, hst.out, wordStep, HGb.out]
            rfl
          case measure => simp [intOf]; omega
        · go_wp2_with fail
          go_roundw
          case rel =>
            refine ⟨k + 1, ct, true, by omega, by go_num, by go_num, rfl, ?_, by omega, EqW.refl _⟩
            show wordsF _ = _
            rw [HTk.out, hst.out, wordStep, HGb.out]
            rfl
          case measure => simp [intOf]; omega
    · have HF := Lib.hid (show (ct : Int) = ((wordsF (plainL 0 l)).1 : Int) by have := hst.out; rw [List.take_of_length_le (by omega)] at this; rw [HCs.out, this])
      go_wp2_with fail
      go_ret
      exact ⟨ret_int HF.out, HB.out⟩

end Go.Proofs.Ytikcmmkeblgamaa
