/-
  mastref1.CodeOf: a line that opens a shortcode, by its words.
-/
import Derived.Test.YtgbmlpidaeefoaaCodeList
namespace Go.Proofs.Ytgbmlpidaeefoaa
open Go.RowKit Go.Deep

theorem hasSuffix_r (s p : ByteArray) (v : Bool) (w : World) (hs : s.size ≤ 9223372036854775807) (h : Lib.hasSuffix s.data.toList p.data.toList = v) :
    Calls Try.prog 25 #[.string s, .string p] w fun e w' => e = .returned (.bool v) ∧ w = w' := by
  subst h
  exact (Try.strings_HasSuffix s p w hs).mono fun e w' ⟨h1, h2⟩ => ⟨h1, h2.symm⟩
theorem index_r (s : ByteArray) (v : Int) (w : World) (h : Lib.indexByte s.data.toList 61 = v) :
    Calls Try.prog 28 #[.string s, .int .u8 61] w fun e w' => e = .returned (.int .i64 v) ∧ w = w' := by
  subst h
  exact (Try.strings_IndexByte s 61 w).mono fun e w' ⟨h1, h2⟩ => ⟨h1, h2.symm⟩

theorem suffix_iff {l p : List UInt8} : Lib.hasSuffix l p = true ↔ p <:+ l := by
  unfold Lib.hasSuffix
  exact List.isSuffixOf_iff_suffix

/-- where the sign '=' is -/
theorem idx_cases (l : List UInt8) : (Lib.indexByte l 61 = -1 ∧ (l.takeWhile fun c => decide (c ≠ 61)) = l) ∨ ∃ j : Nat, Lib.indexByte l 61 = (j : Int) ∧ j < l.length ∧ (l.takeWhile fun c => decide (c ≠ 61)) = l.take j := by
  induction l with
  | nil => exact Or.inl ⟨rfl, rfl⟩
  | cons a r ih =>
    unfold Lib.indexByte
    by_cases ha : a = 61
    · right
      exact ⟨0, by rw [if_pos (by rw [ha]; rfl)]; rfl, by simp, by simp [ha]⟩
    · have hab : (a == 61) = false := by simpa using ha
      rw [hab, List.takeWhile_cons, if_pos (show decide (a ≠ 61) = true by simpa using ha)]
      simp only [Bool.false_eq_true, if_false]
      rcases ih with ⟨h1, h2⟩ | ⟨j, h1, h2, h3⟩
      · left
        exact ⟨by rw [h1]; rfl, by rw [h2]⟩
      · right
        refine ⟨j + 1, ?_, by simp; omega, by rw [h3]; rfl⟩
        rw [h1, if_neg (by simp)]
        rfl
theorem word_no {l : List UInt8} (h : (l.takeWhile fun c => decide (c ≠ 61)) = l) : wordF l = (valF l).map fun v => ([], v) := by
  unfold wordF
  rw [h, if_neg (fun h => absurd h.1 (Nat.lt_irrefl _))]
theorem word_at {l : List UInt8} {j : Nat} (hj : j < l.length) (h : (l.takeWhile fun c => decide (c ≠ 61)) = l.take j) : wordF l = if argNameL (l.take j) then (valF (l.drop (j + 1))).map fun v => (l.take j, v) else (valF l).map fun v => ([], v) := by
  have hl : (l.take j).length = j := by simp; omega
  unfold wordF
  rw [h, hl]
  by_cases hn : argNameL (l.take j) = true
  · rw [if_pos ⟨hj, hn⟩, if_pos hn]
  · rw [if_neg (fun h => hn h.2), if_neg hn]

theorem words_len : ∀ (n : Nat) (y : List UInt8), y.length ≤ n → ∀ q cur, ∀ w ∈ wordsF q cur y, w.length ≤ cur.length + y.length := by
  intro n
  induction n with
  | zero =>
    intro y hy q cur w hw
    have : y = [] := List.eq_nil_of_length_eq_zero (by omega)
    subst this
    rw [wordsF_nil] at hw
    simp at hw
    subst hw
    simp
  | succ n ih =>
    intro y hy q cur w hw
    cases y with
    | nil => rw [wordsF_nil] at hw; simp at hw; subst hw; simp
    | cons c r =>
      rw [wordsF_cons] at hw
      split at hw
      · cases r with
        | nil => simp at hw; subst hw; simp
        | cons d r' =>
          have := ih r' (by simp at hy; omega) _ _ w hw
          simp at this ⊢
          omega
      · split at hw
        · have := ih r (by simp at hy; omega) _ _ w hw
          simp at this ⊢
          omega
        · split at hw
          · cases List.mem_cons.1 hw with
            | inl e => subst e; simp
            | inr e => have := ih r (by simp at hy; omega) _ _ w e; simp at this ⊢; omega
          · have := ih r (by simp at hy; omega) _ _ w hw
            simp at this ⊢
            omega
theorem words_num : ∀ (n : Nat) (y : List UInt8), y.length ≤ n → ∀ q cur, (wordsF q cur y).length ≤ y.length + 1 := by
  intro n
  induction n with
  | zero =>
    intro y hy q cur
    have : y = [] := List.eq_nil_of_length_eq_zero (by omega)
    subst this
    rw [wordsF_nil]; simp
  | succ n ih =>
    intro y hy q cur
    cases y with
    | nil => rw [wordsF_nil]; simp
    | cons c r =>
      rw [wordsF_cons]
      split
      · cases r with
        | nil => simp
        | cons d r' => have := ih r' (by simp at hy; omega) q (cur ++ [c, d]); simp at this ⊢; omega
      · split
        · have := ih r (by simp at hy; omega) (!q) (cur ++ [c]); simp at this ⊢; omega
        · split
          · have := ih r (by simp at hy; omega) false []; simp at this ⊢; omega
          · have := ih r (by simp at hy; omega) q (cur ++ [c]); simp at this ⊢; omega

/-- how far the words have been read -/
def MRel (ws : List (List UInt8)) (k : Nat) (args : List ArgL) : Prop := mapWords ws = (mapWords (ws.drop k)).map fun x => args ++ x
theorem MRel.step {ws : List (List UInt8)} {k : Nat} {args : List ArgL} {t : List UInt8} {a : ArgL} (h : MRel ws k args) (ht : ws[k]? = some t) (ha : wordF t = some a) : MRel ws (k + 1) (args ++ [a]) := by
  obtain ⟨hk, rfl⟩ := List.getElem?_eq_some_iff.1 ht
  unfold MRel
  rw [show mapWords ws = _ from h, List.drop_eq_getElem_cons hk, mapWords, ha]
  cases mapWords (ws.drop (k + 1)) <;> simp
theorem MRel.bad {ws : List (List UInt8)} {k : Nat} {args : List ArgL} {t : List UInt8} (h : MRel ws k args) (ht : ws[k]? = some t) (ha : wordF t = none) : mapWords ws = none := by
  obtain ⟨hk, rfl⟩ := List.getElem?_eq_some_iff.1 ht
  rw [show mapWords ws = _ from h, List.drop_eq_getElem_cons hk, mapWords, ha]
  rfl
theorem MRel.fin {ws : List (List UInt8)} {k : Nat} {args : List ArgL} (h : MRel ws k args) (hk : ws.length ≤ k) : mapWords ws = some args := by
  rw [show mapWords ws = _ from h, List.drop_of_length_le hk, mapWords]
  simp

theorem code_name {x w0 : List UInt8} {ws : List (List UInt8)} (h : wordsF false [] x = w0 :: ws) (hn : codeNameL w0 = false) : codeF x = none := by unfold codeF; rw [h]; simp only [hn]; rfl
theorem code_some {x w0 : List UInt8} {ws : List (List UInt8)} (h : wordsF false [] x = w0 :: ws) (hn : codeNameL w0 = true) : codeF x = (mapWords ws).map fun l => (w0, l) := by unfold codeF; rw [h]; simp only [hn, if_true]

/-- a row of the call's own of a known block, beside one that is made later -/
theorem own_two {w : World} {B g k n n2 c2 : Nat} {e : TypeId} {v : Value} {xs : List Value} (h : w.ownsRow B e k v n xs) (hg : g < B) : (Value.slice (some ⟨g, 0, none⟩) n2 c2).ownBlock = none ∨ (Value.slice (some ⟨g, 0, none⟩) n2 c2).ownBlock ≠ v.ownBlock :=
  Or.inr (fun e => own_ne4 h hg e)
theorem codeName_v (s : ByteArray) (v : Bool) (w : World) (hs : s.size ≤ 1073741824) (h : codeNameL s.data.toList = v) : Calls Try.prog 27 #[.string s] w fun e w' => e = .returned (.bool v) ∧ w = w' := h ▸ codeName_c s w hs
theorem argName_v (s : ByteArray) (v : Bool) (w : World) (hs : s.size ≤ 1073741824) (h : argNameL s.data.toList = v) : Calls Try.prog 29 #[.string s] w fun e w' => e = .returned (.bool v) ∧ w = w' := h ▸ argName_c s w hs

set_option maxHeartbeats 1000000 in
theorem code_no (s : ByteArray) (w : World) (h : Lib.hasPrefix s.data.toList [123, 60, 32] = false ∨ Lib.hasPrefix s.data.toList [123, 60, 32, 47] = true) : Calls Try.prog 8 #[.string s] w (PartPost (7, [], [], false) w) := by
  have key : ∀ (b1 b2 : Bool), Lib.hasPrefix s.data.toList (⟨#[123, 60, 32]⟩ : ByteArray).data.toList = b1 → Lib.hasPrefix s.data.toList (⟨#[123, 60, 32, 47]⟩ : ByteArray).data.toList = b2 → (b1 = false ∨ b2 = true) → Calls Try.prog 8 #[.string s] w (PartPost (7, [], [], false) w) := by
    intro b1 b2 h1 h2 h3
    have H1 := Lib.hid h1; clear h1
    have H2 := Lib.hid h2; clear h2
    cases b1
    · go_enter Try.func8, Try.ntmps8
      go_wp2_with (first
        | (go_at_call 20; refine (hasPrefix_r _ _ false _ H1.out).mono ?_; rintro e w1 ⟨rfl, rfl⟩))
      exact part_done rfl (CX.new w _ _) rfl rfl rfl rfl (PartPost.empty ((Below.refl _ _).alloc (Nat.le_refl _) _))
    · obtain rfl : b2 = true := h3.elim (fun h => by cases h) id
      go_enter Try.func8, Try.ntmps8
      go_wp2_with (first
        | (go_at_call 20; refine (hasPrefix_r _ _ true _ H1.out).mono ?_; rintro e w1 ⟨rfl, rfl⟩)
        | (go_at_call 20; refine (hasPrefix_r _ _ true _ H2.out).mono ?_; rintro e w1 ⟨rfl, rfl⟩))
      exact part_done rfl (CX.new w _ _) rfl rfl rfl rfl (PartPost.empty ((Below.refl _ _).alloc (Nat.le_refl _) _))
  exact key _ _ rfl rfl h

set_option maxHeartbeats 1000000 in
theorem code_end (s : ByteArray) (o : Int × List UInt8 × List ArgL × Bool) (w : World) (h1 : Lib.hasPrefix s.data.toList [123, 60, 32] = true) (h2 : Lib.hasPrefix s.data.toList [123, 60, 32, 47] = false) (hs : s.size ≤ 20000)
    (s1 : Lib.hasSuffix s.data.toList [32, 47, 62, 125] = false) (s2 : Lib.hasSuffix s.data.toList [32, 62, 125] = false) (ho : o = (8, [], [], false)) : Calls Try.prog 8 #[.string s] w (PartPost o w) := by
  have H1 := Lib.hid (show Lib.hasPrefix s.data.toList (⟨#[123, 60, 32]⟩ : ByteArray).data.toList = true from h1); clear h1
  have H2 := Lib.hid (show Lib.hasPrefix s.data.toList (⟨#[123, 60, 32, 47]⟩ : ByteArray).data.toList = false from h2); clear h2
  have S1 := Lib.hid (show Lib.hasSuffix s.data.toList (⟨#[32, 47, 62, 125]⟩ : ByteArray).data.toList = false from s1); clear s1
  have S2 := Lib.hid (show Lib.hasSuffix s.data.toList (⟨#[32, 62, 125]⟩ : ByteArray).data.toList = false from s2); clear s2
  have HO := Lib.hid ho; clear ho
  go_enter Try.func8, Try.ntmps8
  go_wp2_with (first
    | (go_at_call 20; refine (hasPrefix_r _ _ true _ H1.out).mono ?_; rintro e w1 ⟨rfl, rfl⟩)
    | (go_at_call 20; refine (hasPrefix_r _ _ false _ H2.out).mono ?_; rintro e w1 ⟨rfl, rfl⟩)
    | (go_at_call 25; refine (hasSuffix_r _ _ false _ (by omega) S1.out).mono ?_; rintro e w1 ⟨rfl, rfl⟩)
    | (go_at_call 25; refine (hasSuffix_r _ _ false _ (by omega) S2.out).mono ?_; rintro e w1 ⟨rfl, rfl⟩))
  rw [HO.out]
  exact part_done rfl ((CX.new w _ _).alloc _) rfl rfl rfl rfl (PartPost.empty (((Below.refl _ _).alloc (Nat.le_refl _) _).alloc (by simp) _))

set_option maxRecDepth 100000 in
set_option maxHeartbeats 8000000 in
theorem code_yes1 (s x : ByteArray) (o : Int × List UInt8 × List ArgL × Bool) (w : World) (h1 : Lib.hasPrefix s.data.toList [123, 60, 32] = true) (h2 : Lib.hasPrefix s.data.toList [123, 60, 32, 47] = false) (hs : s.size ≤ 20000)
    (s1 : Lib.hasSuffix s.data.toList [32, 47, 62, 125] = false) (s2 : Lib.hasSuffix s.data.toList [32, 62, 125] = true) (hk : 3 ≤ s.size) (hk2 : s.size < 3 + 3 → o = (8, [], [], false)) (hx : (s.extract 0 (s.size - 3)).extract 3 (s.size - 3) = x)
    (hn : 3 + 3 ≤ s.size → codeF x.data.toList = none → o = (8, [], [], false)) (hy : ∀ n l, 3 + 3 ≤ s.size → codeF x.data.toList = some (n, l) → o = if argsE2 l = 0 then (0, n, l, true) else (argsE2 l, [], [], false)) : Calls Try.prog 8 #[.string s] w (PartPost o w) := by
  have H1 := Lib.hid (show Lib.hasPrefix s.data.toList (⟨#[123, 60, 32]⟩ : ByteArray).data.toList = true from h1); clear h1
  have H2 := Lib.hid (show Lib.hasPrefix s.data.toList (⟨#[123, 60, 32, 47]⟩ : ByteArray).data.toList = false from h2); clear h2
  have S1 := Lib.hid (show Lib.hasSuffix s.data.toList (⟨#[32, 47, 62, 125]⟩ : ByteArray).data.toList = false from s1); clear s1
  have S2 := Lib.hid (show Lib.hasSuffix s.data.toList (⟨#[32, 62, 125]⟩ : ByteArray).data.toList = true from s2); clear s2
  have HN := Lib.hid hn; clear hn
  have HY := Lib.hid hy; clear hy
  obtain ⟨q, hq⟩ : ∃ q, s.size = q + 3 := ⟨s.size - 3, by omega⟩
  have hI1 : (q : Int) ≤ (s.size : Int) := by omega
  have hI2 : ((s.size : Int) - 3) = (q : Int) := by omega
  have hqq : s.size - 3 = q := by omega
  rw [hqq] at hx
  have hsz1 : (s.extract 0 q).size = q := by rw [ByteArray.size_extract]; omega
  have HQ := Lib.hid hq
  by_cases hsh : q < 3
  · have HO := Lib.hid (hk2 (by omega))
    clear hq hqq
    go_enter Try.func8, Try.ntmps8
    go_wp2_with (first
      | (go_at_call 20; refine (hasPrefix_r _ _ true _ H1.out).mono ?_; rintro e w1 ⟨rfl, rfl⟩)
      | (go_at_call 20; refine (hasPrefix_r _ _ false _ H2.out).mono ?_; rintro e w1 ⟨rfl, rfl⟩)
      | (go_at_call 25; refine (hasSuffix_r _ _ false _ (by omega) S1.out).mono ?_; rintro e w1 ⟨rfl, rfl⟩)
      | (go_at_call 25; refine (hasSuffix_r _ _ true _ (by omega) S2.out).mono ?_; rintro e w1 ⟨rfl, rfl⟩))
    rw [HO.out]
    exact part_done rfl ((CX.new w _ _).alloc _) rfl rfl rfl rfl (PartPost.empty (((Below.refl _ _).alloc (Nat.le_refl _) _).alloc (by simp) _))
  have hq3 : 3 ≤ q := by omega
  have hxs : x.size ≤ 20000 := by rw [← hx, ByteArray.size_extract]; omega
  have HSh := Lib.hid (show 3 + 3 ≤ s.size by omega)
  clear hq hqq hk2 hsh
  go_enter Try.func8, Try.ntmps8
  go_wp2_with (first
    | (go_at_call 20; refine (hasPrefix_r _ _ true _ H1.out).mono ?_; rintro e w1 ⟨rfl, rfl⟩)
    | (go_at_call 20; refine (hasPrefix_r _ _ false _ H2.out).mono ?_; rintro e w1 ⟨rfl, rfl⟩)
    | (go_at_call 25; refine (hasSuffix_r _ _ false _ (by omega) S1.out).mono ?_; rintro e w1 ⟨rfl, rfl⟩)
    | (go_at_call 25; refine (hasSuffix_r _ _ true _ (by omega) S2.out).mono ?_; rintro e w1 ⟨rfl, rfl⟩))
  obtain ⟨w2, hw2⟩ : ∃ w2, (w.alloc (.cells #[.string ⟨#[]⟩, .string ⟨#[]⟩, .slice none 0 0, .bool false, .slice none 0 0] 25)).alloc (.cells #[.string ⟨#[]⟩, .string ⟨#[]⟩, .slice none 0 0, .bool true, .slice none 0 0] 25) = w2 := ⟨_, rfl⟩
  have HZ2 := Lib.hid (show CX w2 w.heap.size 25 partZ by rw [← hw2]; exact (CX.new w _ _).alloc _)
  have HP2 := Lib.hid (show CX w2 (w.heap.size + 1) 25 (partC ⟨#[]⟩ (.slice none 0 0) true) by rw [← hw2]; have := CX.new (w.alloc (.cells #[.string ⟨#[]⟩, .string ⟨#[]⟩, .slice none 0 0, .bool false, .slice none 0 0] 25)) (partC ⟨#[]⟩ (.slice none 0 0) true) 25; simp only [World.size_alloc] at this; exact this)
  have HB2 := Lib.hid (show Below w.heap.size w w2 by rw [← hw2]; exact ((Below.refl _ _).alloc (Nat.le_refl _) _).alloc (by simp) _)
  have hs2 : w2.heap.size = w.heap.size + 2 := by rw [← hw2]; simp
  rw [hw2]
  clear hw2
  obtain ⟨n, hn⟩ : ∃ n, w.heap.size = n := ⟨_, rfl⟩
  rw [hn] at HZ2 HP2 hs2
  rw [hn]
  have hnw : w.heap.size ≤ n := by omega
  clear hn
  refine (words_c x w2 (by omega)).mono ?_
  rintro e w3 ⟨Aw, nw, cw, rfl, hnl, hown, hb3⟩
  rw [hs2] at hown hb3
  obtain ⟨w0, ws, hW⟩ := words_ne false [] x.data.toList
  have hwn := words_num _ x.data.toList (Nat.le_refl _) false []
  have hwl := words_len _ x.data.toList (Nat.le_refl _) false []
  rw [hW] at hnl hown hwn hwl
  rw [size_toList] at hwn hwl
  simp only [List.length_nil, Nat.zero_add] at hwl
  simp only [List.length_cons] at hnl hwn
  subst hnl
  obtain ⟨A', c', hv, hcm, hnc, hA⟩ := own_form hown
  cases hv
  obtain ⟨g, rfl, hg1, hg2⟩ := hA (by omega)
  have hc0 : w3.cell? ⟨g, 0, none⟩ = some (.string ⟨w0.toArray⟩) := own_cell hown (x := .string ⟨w0.toArray⟩) rfl
  obtain ⟨nm, hnm⟩ : ∃ nm, (⟨w0.toArray⟩ : ByteArray) = nm := ⟨_, rfl⟩
  have hnm2 : nm.data.toList = w0 := by rw [← hnm]
  rw [hnm] at hc0
  have hnms : nm.size ≤ 20000 := by rw [← size_toList, hnm2]; have := hwl w0 (by simp); omega
  have HNm := Lib.hid hnm2
  have HWl := Lib.hid (fun t ht => hwl t (List.mem_cons_of_mem _ ht))
  have HW := Lib.hid hW
  have HWd := Lib.hid hown
  have HZ3 := Lib.hid (show CX w3 n 25 partZ from (hb3.block n (by omega)).trans HZ2.out)
  have HP3 := Lib.hid (show CX w3 (n + 1) 25 (partC ⟨#[]⟩ (.slice none 0 0) true) from (hb3.block (n + 1) (by omega)).trans HP2.out)
  have HB3 := Lib.hid (HB2.out.trans (hb3.mono (by omega)))
  have hs3 : n + 2 ≤ w3.heap.size := by have := hb3.size; omega
  clear hown hb3 hA hnm hnm2 hW hwl HZ2 HP2 HB2 hs2
  have pc1 := HP3.out.c 1
  have pf1 := HP3.out.f 1
  have psh := HP3.out.sh
  simp only [partC] at pc1 psh
  cases hcn : codeNameL w0
  · have HX := Lib.hid (HN.out HSh.out (code_name HW.out hcn))
    have hcn2 := HNm.out
    have HCn := Lib.hid (show codeNameL nm.data.toList = false by rw [HNm.out]; exact hcn)
    have HZ4 := Lib.hid (HZ3.out.set (by omega : n ≠ n + 1) (o := 1) (.string nm))
    clear hcn hcn2
    have yc0 := HZ4.out.c 0
    have yf0 := HZ4.out.f 0
    have yc1 := HZ4.out.c 1
    have yf1 := HZ4.out.f 1
    have yc2 := HZ4.out.c 2
    have yf2 := HZ4.out.f 2
    have yc3 := HZ4.out.c 3
    have yf3 := HZ4.out.f 3
    have yc4 := HZ4.out.c 4
    have yf4 := HZ4.out.f 4
    have ysh := HZ4.out.sh
    simp only [partZ] at yc0 yc1 yc2 yc3 yc4 ysh
    go_wp2_with (go_at_call 27; go_must (refine (codeName_v _ _ _ (by omega) HCn.out).mono ?_); rintro e w5 ⟨rfl, rfl⟩)
    rw [HX.out]
    exact part_done rfl (((((HZ4.out.put 0 _).put 1 _).put 2 _).put 3 _).put 4 _) rfl rfl rfl rfl (PartPost.empty ((((((HB3.out.setCell (p := ⟨n + 1, 1, none⟩) (show w.heap.size ≤ n + 1 by omega) _).setCell (p := ⟨n, _, none⟩) hnw _).setCell (p := ⟨n, _, none⟩) hnw _).setCell (p := ⟨n, _, none⟩) hnw _).setCell (p := ⟨n, _, none⟩) hnw _).setCell (p := ⟨n, _, none⟩) hnw _))
  have HCn := Lib.hid (show codeNameL nm.data.toList = true by rw [HNm.out]; exact hcn)
  have HCd := Lib.hid (code_some HW.out hcn)
  clear hcn
  by_cases hc1 : cw = 1
  · subst hc1
    obtain rfl : ws = [] := List.eq_nil_of_length_eq_zero (by omega)
    simp only [List.length_nil, Nat.zero_add] at HWd
    clear hnc hwn hcm
    go_wp2_with (go_at_call 27; go_must (refine (codeName_v _ _ _ (by omega) HCn.out).mono ?_); rintro e w5 ⟨rfl, rfl⟩)
    clear pc1 pf1 psh hc0
    obtain ⟨w4, hw4⟩ : ∃ w4, w3.setCell ⟨n + 1, 1, none⟩ (.string nm) = w4 := ⟨_, rfl⟩
    have hgr : w3.grownBy w4 (some (n + 1)) := by rw [← hw4]; exact grown_set _ _ _ _
    have HZ4 := Lib.hid (HZ3.out.other hgr (by intro e; have := Option.some.inj e; omega))
    have HP4 := Lib.hid (show CX w4 (n + 1) 25 (partC nm (.slice none 0 0) true) by rw [← hw4]; exact HP3.out.put 1 _)
    have HW4 := Lib.hid (HWd.out.kept hgr (own_ne3 HWd.out (by omega)))
    have HB4 := Lib.hid (show Below w.heap.size w w4 by rw [← hw4]; exact HB3.out.setCell (p := ⟨n + 1, 1, none⟩) (show w.heap.size ≤ n + 1 by omega) _)
    have hs4 : w4.heap.size = w3.heap.size := by rw [← hw4]; simp [World.setCell]
    rw [hw4]
    clear hw4 hgr HZ3 HP3 HWd HB3
    obtain ⟨B2, hB2⟩ : ∃ B2, w3.heap.size = B2 := ⟨_, rfl⟩
    rw [hB2] at hs4 hs3 hg2
    clear hB2
    have hB4 : B2 ≤ w4.heap.size := by omega
    clear hs4
    go_loopw [58] (fun t wr => ∃ (k : Nat) (Ao : Option Addr) (co : Nat) (args : List ArgL), k ≤ ([] : List (List UInt8)).length ∧ t = .int .i64 k ∧ Hid (args.length = k) ∧ Hid (MRel ([] : List (List UInt8)) k args) ∧ Hid (CX wr n 25 partZ) ∧ Hid (CX wr (n + 1) 25 (partC nm (.slice Ao k co) true)) ∧
        Hid (wr.ownsRow B2 49 2 (.slice Ao k co) k (argCells args)) ∧ Hid (wr.ownsRow (n + 2) 9 1 (.slice (some ⟨g, 0, none⟩) 1 1) 1 (wstrs (w0 :: ([] : List (List UInt8))))) ∧ Hid (Below w.heap.size w wr) ∧ B2 ≤ wr.heap.size) (fun t _ => ([] : List (List UInt8)).length - (intOf t).toNat)
    case atStart => exact ⟨0, none, 0, [], Nat.zero_le _, rfl, rfl, (show _ = _ by simp), HZ4, HP4, World.ownsRow_nil _ _ _ _, HW4, HB4, hB4⟩
    case round =>
      obtain ⟨k, Ao, co, args, hk, rfl, HLn, HM, HZ, HP, HA, HWd, HB, hBr⟩ := hrel
      have hn1 : n + 1 < wr.heap.size := by omega
      have hk0 : k ≤ 0 := by simpa using hk
      have hn0 : n < wr.heap.size := by omega
      clear hk
      have HMp := Lib.hid (HM.out.fin (by simp))
      have HCf := Lib.hid (show codeF x.data.toList = some (w0, args) by rw [HCd.out, HMp.out]; rfl)
      have HO := Lib.hid (HY.out _ _ HSh.out HCf.out)
      clear HM
      have pc2 := HP.out.c 2
      have pf2 := HP.out.f 2
      have psh := HP.out.sh
      simp only [partC] at pc2 psh
      go_wp2_with fail
      clear pc2 pf2 psh
      refine (argsError_any args _ _ (ArgsAt.of_own HA.out)).mono ?_
      rintro e w5 ⟨rfl, hb5⟩
      have HZ5 := Lib.hid (HZ.out.below hb5)
      have HP5 := Lib.hid (HP.out.below hb5)
      have HA5 := Lib.hid (own_keepB HA.out hb5)
      have HB5 := Lib.hid (HB.out.trans (hb5.mono HB.out.size))
      clear hb5 HZ HP HA HB HWd
      obtain ⟨ev, hev⟩ : ∃ ev, argsE2 args = ev := ⟨_, rfl⟩
      rw [hev]
      have HEv := Lib.hid hev
      clear hev
      have pc0 := HP5.out.c 0
      have pf0 := HP5.out.f 0
      have pc1 := HP5.out.c 1
      have pf1 := HP5.out.f 1
      have pc2 := HP5.out.c 2
      have pf2 := HP5.out.f 2
      have pc3 := HP5.out.c 3
      have pf3 := HP5.out.f 3
      have pc4 := HP5.out.c 4
      have pf4 := HP5.out.f 4
      have psh := HP5.out.sh
      simp only [partC] at pc0 pc1 pc2 pc3 pc4 psh
      have yc0 := HZ5.out.c 0
      have yf0 := HZ5.out.f 0
      have yc1 := HZ5.out.c 1
      have yf1 := HZ5.out.f 1
      have yc2 := HZ5.out.c 2
      have yf2 := HZ5.out.f 2
      have yc3 := HZ5.out.c 3
      have yf3 := HZ5.out.f 3
      have yc4 := HZ5.out.c 4
      have yf4 := HZ5.out.f 4
      have ysh := HZ5.out.sh
      simp only [partZ] at yc0 yc1 yc2 yc3 yc4 ysh
      by_cases hev0 : ev = 0
      · subst hev0
        have HX := Lib.hid (show o = (0, w0, args, true) by rw [HO.out, if_pos HEv.out])
        go_wp2_with fail
        (try simp only [Exit.inBlock, Exit.then])
        rw [HX.out]
        refine part_done (cs := partC nm (.slice Ao k co) true) rfl (((((HZ5.out.put 0 _).put 1 _).put 2 _).put 3 _).put 4 _) rfl rfl rfl rfl ?_
        exact ⟨nm, _, rfl, HNm.out, ArgsAt.of_own (((((HA5.out.kept (grown_set _ n 0 _) (own_ne3 HA5.out (by omega))).kept (grown_set _ n 1 _) (own_ne3 HA5.out (by omega))).kept (grown_set _ n 2 _) (own_ne3 HA5.out (by omega))).kept (grown_set _ n 3 _) (own_ne3 HA5.out (by omega))).kept (grown_set _ n 4 _) (own_ne3 HA5.out (by omega))), (((((HB5.out).setCell (p := ⟨n, _, none⟩) hnw _).setCell (p := ⟨n, _, none⟩) hnw _).setCell (p := ⟨n, _, none⟩) hnw _).setCell (p := ⟨n, _, none⟩) hnw _).setCell (p := ⟨n, _, none⟩) hnw _⟩
      · have hne : (ev == 0) = false := by simpa using hev0
        have hne2 : (ev != 0) = true := by simpa using hev0
        have HX := Lib.hid (show o = (ev, [], [], false) by rw [HO.out, if_neg (by rw [HEv.out]; exact hev0), HEv.out])
        clear hev0
        go_wp2_with fail
        (try simp only [Exit.inBlock, Exit.then])
        rw [HX.out]
        exact part_done rfl (((((HZ5.out.put 0 _).put 1 _).put 2 _).put 3 _).put 4 _) rfl rfl rfl rfl (PartPost.empty ((((((HB5.out).setCell (p := ⟨n, _, none⟩) hnw _).setCell (p := ⟨n, _, none⟩) hnw _).setCell (p := ⟨n, _, none⟩) hnw _).setCell (p := ⟨n, _, none⟩) hnw _).setCell (p := ⟨n, _, none⟩) hnw _))
  go_wp2_with (go_at_call 27; go_must (refine (codeName_v _ _ _ (by omega) HCn.out).mono ?_); rintro e w5 ⟨rfl, rfl⟩)
  clear pc1 pf1 psh hc0
  obtain ⟨w4, hw4⟩ : ∃ w4, w3.setCell ⟨n + 1, 1, none⟩ (.string nm) = w4 := ⟨_, rfl⟩
  have hgr : w3.grownBy w4 (some (n + 1)) := by rw [← hw4]; exact grown_set _ _ _ _
  have HZ4 := Lib.hid (HZ3.out.other hgr (by intro e; have := Option.some.inj e; omega))
  have HP4 := Lib.hid (show CX w4 (n + 1) 25 (partC nm (.slice none 0 0) true) by rw [← hw4]; exact HP3.out.put 1 _)
  have HW4 := Lib.hid (HWd.out.kept hgr (own_ne3 HWd.out (by omega)))
  have HB4 := Lib.hid (show Below w.heap.size w w4 by rw [← hw4]; exact HB3.out.setCell (p := ⟨n + 1, 1, none⟩) (show w.heap.size ≤ n + 1 by omega) _)
  have hs4 : w4.heap.size = w3.heap.size := by rw [← hw4]; simp [World.setCell]
  rw [hw4]
  clear hw4 hgr HZ3 HP3 HWd HB3
  obtain ⟨B2, hB2⟩ : ∃ B2, w3.heap.size = B2 := ⟨_, rfl⟩
  rw [hB2] at hs4 hs3 hg2
  clear hB2
  have hB4 : B2 ≤ w4.heap.size := by omega
  clear hs4
  go_loopw [58] (fun t wr => ∃ (k : Nat) (Ao : Option Addr) (co : Nat) (args : List ArgL), k ≤ ws.length ∧ t = .int .i64 k ∧ Hid (args.length = k) ∧ Hid (MRel ws k args) ∧ Hid (CX wr n 25 partZ) ∧ Hid (CX wr (n + 1) 25 (partC nm (.slice Ao k co) true)) ∧
      Hid (wr.ownsRow B2 49 2 (.slice Ao k co) k (argCells args)) ∧ Hid (wr.ownsRow (n + 2) 9 1 (.slice (some ⟨g, 0, none⟩) (ws.length + 1) cw) (ws.length + 1) (wstrs (w0 :: ws))) ∧ Hid (Below w.heap.size w wr) ∧ B2 ≤ wr.heap.size) (fun t _ => ws.length - (intOf t).toNat)
  case atStart => exact ⟨0, none, 0, [], Nat.zero_le _, rfl, rfl, (show _ = _ by simp), HZ4, HP4, World.ownsRow_nil _ _ _ _, HW4, HB4, hB4⟩
  case round =>
    obtain ⟨k, Ao, co, args, hk, rfl, HLn, HM, HZ, HP, HA, HWd, HB, hBr⟩ := hrel
    have hn1 : n + 1 < wr.heap.size := by omega
    by_cases hlt : k < ws.length
    · obtain ⟨tl, htl⟩ : ∃ tl, ws[k]? = some tl := ⟨_, List.getElem?_eq_getElem hlt⟩
      have hct : wr.cell? ⟨g, k + 1, none⟩ = some (.string ⟨tl.toArray⟩) := own_cell HWd.out (by simp [wstrs, htl])
      obtain ⟨tz, htz⟩ : ∃ tz, (⟨tl.toArray⟩ : ByteArray) = tz := ⟨_, rfl⟩
      have htz2 : tz.data.toList = tl := by rw [← htz]
      rw [htz] at hct
      have htzs : tz.size ≤ 20000 := by rw [← size_toList, htz2]; have := HWl.out tl (List.mem_of_getElem? htl); omega
      have hct2 : wr.cell? ⟨g, 1 + k, none⟩ = some (.string tz) := by rw [Nat.add_comm]; exact hct
      have hgl := World.block_lt_of_cell? _ _ hct
      simp only at hgl
      have HTl := Lib.hid htl
      have HTz := Lib.hid htz2
      clear htl htz htz2
      rcases idx_cases tl with ⟨hidx, htw⟩ | ⟨j, hidx, hjl, htw⟩
      · have HI := Lib.hid (show Lib.indexByte tz.data.toList 61 = -1 by rw [HTz.out]; exact hidx)
        have HWF := Lib.hid (show wordF tl = (valF tz.data.toList).map fun v => ([], v) by rw [HTz.out]; exact word_no htw)
        clear hidx htw
        have pc2 := HP.out.c 2
        have pf2 := HP.out.f 2
        have psh := HP.out.sh
        simp only [partC] at pc2 psh
        go_wp2_with (go_at_call 28; go_must (refine (index_r _ _ _ HI.out).mono ?_); rintro e w5 ⟨rfl, rfl⟩)
        refine (valueOf_c tz _ (by omega)).mono ?_
        rintro e w6 ⟨v, b, rfl, rfl, hv⟩
        cases b
        · have hv2 : valF tz.data.toList = none := hv.elim (fun h => by cases h.1) (fun h => h.2)
          have HX := Lib.hid (HN.out HSh.out (by rw [HCd.out, HM.out.bad HTl.out (by rw [HWF.out, hv2]; rfl)]; rfl))
          clear hv hv2 pc2 pf2 psh
          have yc0 := HZ.out.c 0
          have yf0 := HZ.out.f 0
          have yc1 := HZ.out.c 1
          have yf1 := HZ.out.f 1
          have yc2 := HZ.out.c 2
          have yf2 := HZ.out.f 2
          have yc3 := HZ.out.c 3
          have yf3 := HZ.out.f 3
          have yc4 := HZ.out.c 4
          have yf4 := HZ.out.f 4
          have ysh := HZ.out.sh
          simp only [partZ] at yc0 yc1 yc2 yc3 yc4 ysh
          have hn0 : n < wr.heap.size := by omega
          have hwb : w.heap.size ≤ wr.heap.size := HB.out.size
          go_wp2_with fail
          (try simp only [Exit.inBlock, Exit.then])
          rw [HX.out]
          exact part_done rfl ((((((HZ.out.put 0 _).put 1 _).put 2 _).put 3 _).put 4 _).alloc _) rfl rfl rfl rfl (PartPost.empty (((((((HB.out).setCell (p := ⟨n, _, none⟩) hnw _).setCell (p := ⟨n, _, none⟩) hnw _).setCell (p := ⟨n, _, none⟩) hnw _).setCell (p := ⟨n, _, none⟩) hnw _).setCell (p := ⟨n, _, none⟩) hnw _).alloc (by simp [World.setCell]; omega) _))
        · have hv2 : valF tz.data.toList = some v.data.toList := hv.elim (fun h => h.2) (fun h => by cases h.1)
          have HS := Lib.hid (HM.out.step (a := ([], v.data.toList)) HTl.out (by rw [HWF.out, hv2]; rfl))
          clear hv hv2
          have hwb : w.heap.size ≤ wr.heap.size := HB.out.size
          go_wp2_with (at_builtin; have hh := own_alloc (own_alloc HA.out (.cells #[.string ⟨#[]⟩, .string v] 49)) (.cells #[.string ⟨#[]⟩, .string v] 49); have k1 : (k + 1) * 32 ≤ 140737488355328 := (by omega); have k2 : k + 1 ≤ maxLen := (by unfold maxLen; omega); have k3 : B2 ≤ ((wr.alloc (.cells #[.string ⟨#[]⟩, .string v] 49)).alloc (.cells #[.string ⟨#[]⟩, .string v] 49)).heap.size := (by simp; omega); have k4 := cell_new (wr.alloc (.cells #[.string ⟨#[]⟩, .string v] 49)) [.string ⟨#[]⟩, .string v] 49 (wr.heap.size + 1) (by simp); go_must (refine wpList_push _ rfl (.tmp 96) (.tmp 98) 22 rfl B2 49 _ 2 32 Try.underlying22 info_arg rfl (by omega) (.slice Ao k co) k _ rfl hh [.string ⟨#[]⟩, .string v] rfl _ rfl k4 (two_strs _ _) k1 k2 k3 ?_); clear hh k1 k2 k3 k4; intro g1 c1 w7 own7 hg7 hgg7 hb7; have HP7 := Lib.hid (((HP.out.alloc (.cells #[.string ⟨#[]⟩, .string v] 49)).alloc (.cells #[.string ⟨#[]⟩, .string v] 49)).other hg7 (own_ne4 HA.out (by omega))); have t2 := HP7.out.c 2; have t3 := HP7.out.f 2; have t4 := HP7.out.sh; simp only [partC] at t2 t4)
          go_roundw
          case rel =>
            exact ⟨k + 1, some ⟨g1, 0, none⟩, c1, args ++ [([], v.data.toList)], by omega, by go_num, Lib.hid (by rw [List.length_append, HLn.out]; rfl), HS,
              Lib.hid ((((HZ.out.alloc _).alloc _).other hg7 (own_ne4 HA.out (by omega))).set (by omega) _), Lib.hid (HP7.out.put 2 _),
              Lib.hid (by rw [argCells_append, show argCells [(([] : List UInt8), v.data.toList)] = [.string ⟨#[]⟩, .string v] from rfl]; exact own7.kept (grown_set w7 (n + 1) 2 _) (own_ne3 own7 (by omega))),
              Lib.hid (((own_alloc (own_alloc HWd.out _) _).kept hg7 (own_two HA.out (by omega))).kept (grown_set w7 (n + 1) 2 _) (own_ne3 HWd.out (by omega))),
              Lib.hid ((((HB.out.alloc hwb _).alloc (by simp; omega) _).trans (hb7.mono (by omega))).setCell (p := ⟨n + 1, 2, none⟩) (show w.heap.size ≤ n + 1 by omega) _),
              by have := hb7.size; simp [World.setCell] at this ⊢; omega⟩
          case measure => simp [intOf]; omega
      · have hjz : j < tz.size := by rw [← size_toList, HTz.out]; exact hjl
        have HI := Lib.hid (show Lib.indexByte tz.data.toList 61 = (j : Int) by rw [HTz.out]; exact hidx)
        have HWa := Lib.hid (word_at hjl htw)
        clear hidx htw hjl
        by_cases hj0 : j = 0
        · subst hj0
          have HWF := Lib.hid (show wordF tl = (valF tz.data.toList).map fun v => ([], v) by rw [HTz.out, HWa.out, if_neg (by simp [argNameL])])
          clear HWa
          have pc2 := HP.out.c 2
          have pf2 := HP.out.f 2
          have psh := HP.out.sh
          simp only [partC] at pc2 psh
          go_wp2_with (go_at_call 28; go_must (refine (index_r _ _ _ HI.out).mono ?_); rintro e w5 ⟨rfl, rfl⟩)
          refine (valueOf_c tz _ (by omega)).mono ?_
          rintro e w6 ⟨v, b, rfl, rfl, hv⟩
          cases b
          · have hv2 : valF tz.data.toList = none := hv.elim (fun h => by cases h.1) (fun h => h.2)
            have HX := Lib.hid (HN.out HSh.out (by rw [HCd.out, HM.out.bad HTl.out (by rw [HWF.out, hv2]; rfl)]; rfl))
            clear hv hv2 pc2 pf2 psh
            have yc0 := HZ.out.c 0
            have yf0 := HZ.out.f 0
            have yc1 := HZ.out.c 1
            have yf1 := HZ.out.f 1
            have yc2 := HZ.out.c 2
            have yf2 := HZ.out.f 2
            have yc3 := HZ.out.c 3
            have yf3 := HZ.out.f 3
            have yc4 := HZ.out.c 4
            have yf4 := HZ.out.f 4
            have ysh := HZ.out.sh
            simp only [partZ] at yc0 yc1 yc2 yc3 yc4 ysh
            have hn0 : n < wr.heap.size := by omega
            have hwb : w.heap.size ≤ wr.heap.size := HB.out.size
            go_wp2_with fail
            (try simp only [Exit.inBlock, Exit.then])
            rw [HX.out]
            exact part_done rfl ((((((HZ.out.put 0 _).put 1 _).put 2 _).put 3 _).put 4 _).alloc _) rfl rfl rfl rfl (PartPost.empty (((((((HB.out).setCell (p := ⟨n, _, none⟩) hnw _).setCell (p := ⟨n, _, none⟩) hnw _).setCell (p := ⟨n, _, none⟩) hnw _).setCell (p := ⟨n, _, none⟩) hnw _).setCell (p := ⟨n, _, none⟩) hnw _).alloc (by simp [World.setCell]; omega) _))
          · have hv2 : valF tz.data.toList = some v.data.toList := hv.elim (fun h => h.2) (fun h => by cases h.1)
            have HS := Lib.hid (HM.out.step (a := ([], v.data.toList)) HTl.out (by rw [HWF.out, hv2]; rfl))
            clear hv hv2
            have hwb : w.heap.size ≤ wr.heap.size := HB.out.size
            go_wp2_with (at_builtin; have hh := own_alloc (own_alloc HA.out (.cells #[.string ⟨#[]⟩, .string v] 49)) (.cells #[.string ⟨#[]⟩, .string v] 49); have k1 : (k + 1) * 32 ≤ 140737488355328 := (by omega); have k2 : k + 1 ≤ maxLen := (by unfold maxLen; omega); have k3 : B2 ≤ ((wr.alloc (.cells #[.string ⟨#[]⟩, .string v] 49)).alloc (.cells #[.string ⟨#[]⟩, .string v] 49)).heap.size := (by simp; omega); have k4 := cell_new (wr.alloc (.cells #[.string ⟨#[]⟩, .string v] 49)) [.string ⟨#[]⟩, .string v] 49 (wr.heap.size + 1) (by simp); go_must (refine wpList_push _ rfl (.tmp 96) (.tmp 98) 22 rfl B2 49 _ 2 32 Try.underlying22 info_arg rfl (by omega) (.slice Ao k co) k _ rfl hh [.string ⟨#[]⟩, .string v] rfl _ rfl k4 (two_strs _ _) k1 k2 k3 ?_); clear hh k1 k2 k3 k4; intro g1 c1 w7 own7 hg7 hgg7 hb7; have HP7 := Lib.hid (((HP.out.alloc (.cells #[.string ⟨#[]⟩, .string v] 49)).alloc (.cells #[.string ⟨#[]⟩, .string v] 49)).other hg7 (own_ne4 HA.out (by omega))); have t2 := HP7.out.c 2; have t3 := HP7.out.f 2; have t4 := HP7.out.sh; simp only [partC] at t2 t4)
            go_roundw
            case rel =>
              exact ⟨k + 1, some ⟨g1, 0, none⟩, c1, args ++ [([], v.data.toList)], by omega, by go_num, Lib.hid (by rw [List.length_append, HLn.out]; rfl), HS,
                Lib.hid ((((HZ.out.alloc _).alloc _).other hg7 (own_ne4 HA.out (by omega))).set (by omega) _), Lib.hid (HP7.out.put 2 _),
                Lib.hid (by rw [argCells_append, show argCells [(([] : List UInt8), v.data.toList)] = [.string ⟨#[]⟩, .string v] from rfl]; exact own7.kept (grown_set w7 (n + 1) 2 _) (own_ne3 own7 (by omega))),
                Lib.hid (((own_alloc (own_alloc HWd.out _) _).kept hg7 (own_two HA.out (by omega))).kept (grown_set w7 (n + 1) 2 _) (own_ne3 HWd.out (by omega))),
                Lib.hid ((((HB.out.alloc hwb _).alloc (by simp; omega) _).trans (hb7.mono (by omega))).setCell (p := ⟨n + 1, 2, none⟩) (show w.heap.size ≤ n + 1 by omega) _),
                by have := hb7.size; simp [World.setCell] at this ⊢; omega⟩
            case measure => simp [intOf]; omega
        have hj1 : 0 < j := by omega
        have hI1 : (j : Int) ≤ (tz.size : Int) := by omega
        have hI2 : (j : Int) + 1 ≤ (tz.size : Int) := by omega
        have hE := Lib.hid (show (tz.extract 0 j).data.toList = tl.take j by rw [ext_list, HTz.out]; rfl)
        have hes : (tz.extract 0 j).size ≤ 20000 := by rw [ByteArray.size_extract]; omega
        clear hj0
        cases hna : argNameL (tl.take j)
        · have HNa := Lib.hid (show argNameL (tz.extract 0 j).data.toList = false by rw [hE.out]; exact hna)
          have HWF := Lib.hid (show wordF tl = (valF tz.data.toList).map fun v => ([], v) by rw [HTz.out, HWa.out, hna]; rfl)
          clear HWa hna
          have pc2 := HP.out.c 2
          have pf2 := HP.out.f 2
          have psh := HP.out.sh
          simp only [partC] at pc2 psh
          go_wp2_with (first
            | (go_at_call 28; go_must (refine (index_r _ _ _ HI.out).mono ?_); rintro e w5 ⟨rfl, rfl⟩)
            | (go_at_call 29; go_must (refine (argName_v _ _ _ (by omega) HNa.out).mono ?_); rintro e w5 ⟨rfl, rfl⟩))
          refine (valueOf_c tz _ (by omega)).mono ?_
          rintro e w6 ⟨v, b, rfl, rfl, hv⟩
          cases b
          · have hv2 : valF tz.data.toList = none := hv.elim (fun h => by cases h.1) (fun h => h.2)
            have HX := Lib.hid (HN.out HSh.out (by rw [HCd.out, HM.out.bad HTl.out (by rw [HWF.out, hv2]; rfl)]; rfl))
            clear hv hv2 pc2 pf2 psh
            have yc0 := HZ.out.c 0
            have yf0 := HZ.out.f 0
            have yc1 := HZ.out.c 1
            have yf1 := HZ.out.f 1
            have yc2 := HZ.out.c 2
            have yf2 := HZ.out.f 2
            have yc3 := HZ.out.c 3
            have yf3 := HZ.out.f 3
            have yc4 := HZ.out.c 4
            have yf4 := HZ.out.f 4
            have ysh := HZ.out.sh
            simp only [partZ] at yc0 yc1 yc2 yc3 yc4 ysh
            have hn0 : n < wr.heap.size := by omega
            have hwb : w.heap.size ≤ wr.heap.size := HB.out.size
            go_wp2_with fail
            (try simp only [Exit.inBlock, Exit.then])
            rw [HX.out]
            exact part_done rfl ((((((HZ.out.put 0 _).put 1 _).put 2 _).put 3 _).put 4 _).alloc _) rfl rfl rfl rfl (PartPost.empty (((((((HB.out).setCell (p := ⟨n, _, none⟩) hnw _).setCell (p := ⟨n, _, none⟩) hnw _).setCell (p := ⟨n, _, none⟩) hnw _).setCell (p := ⟨n, _, none⟩) hnw _).setCell (p := ⟨n, _, none⟩) hnw _).alloc (by simp [World.setCell]; omega) _))
          · have hv2 : valF tz.data.toList = some v.data.toList := hv.elim (fun h => h.2) (fun h => by cases h.1)
            have HS := Lib.hid (HM.out.step (a := ([], v.data.toList)) HTl.out (by rw [HWF.out, hv2]; rfl))
            clear hv hv2
            have hwb : w.heap.size ≤ wr.heap.size := HB.out.size
            go_wp2_with (at_builtin; have hh := own_alloc (own_alloc HA.out (.cells #[.string ⟨#[]⟩, .string v] 49)) (.cells #[.string ⟨#[]⟩, .string v] 49); have k1 : (k + 1) * 32 ≤ 140737488355328 := (by omega); have k2 : k + 1 ≤ maxLen := (by unfold maxLen; omega); have k3 : B2 ≤ ((wr.alloc (.cells #[.string ⟨#[]⟩, .string v] 49)).alloc (.cells #[.string ⟨#[]⟩, .string v] 49)).heap.size := (by simp; omega); have k4 := cell_new (wr.alloc (.cells #[.string ⟨#[]⟩, .string v] 49)) [.string ⟨#[]⟩, .string v] 49 (wr.heap.size + 1) (by simp); go_must (refine wpList_push _ rfl (.tmp 96) (.tmp 98) 22 rfl B2 49 _ 2 32 Try.underlying22 info_arg rfl (by omega) (.slice Ao k co) k _ rfl hh [.string ⟨#[]⟩, .string v] rfl _ rfl k4 (two_strs _ _) k1 k2 k3 ?_); clear hh k1 k2 k3 k4; intro g1 c1 w7 own7 hg7 hgg7 hb7; have HP7 := Lib.hid (((HP.out.alloc (.cells #[.string ⟨#[]⟩, .string v] 49)).alloc (.cells #[.string ⟨#[]⟩, .string v] 49)).other hg7 (own_ne4 HA.out (by omega))); have t2 := HP7.out.c 2; have t3 := HP7.out.f 2; have t4 := HP7.out.sh; simp only [partC] at t2 t4)
            go_roundw
            case rel =>
              exact ⟨k + 1, some ⟨g1, 0, none⟩, c1, args ++ [([], v.data.toList)], by omega, by go_num, Lib.hid (by rw [List.length_append, HLn.out]; rfl), HS,
                Lib.hid ((((HZ.out.alloc _).alloc _).other hg7 (own_ne4 HA.out (by omega))).set (by omega) _), Lib.hid (HP7.out.put 2 _),
                Lib.hid (by rw [argCells_append, show argCells [(([] : List UInt8), v.data.toList)] = [.string ⟨#[]⟩, .string v] from rfl]; exact own7.kept (grown_set w7 (n + 1) 2 _) (own_ne3 own7 (by omega))),
                Lib.hid (((own_alloc (own_alloc HWd.out _) _).kept hg7 (own_two HA.out (by omega))).kept (grown_set w7 (n + 1) 2 _) (own_ne3 HWd.out (by omega))),
                Lib.hid ((((HB.out.alloc hwb _).alloc (by simp; omega) _).trans (hb7.mono (by omega))).setCell (p := ⟨n + 1, 2, none⟩) (show w.heap.size ≤ n + 1 by omega) _),
                by have := hb7.size; simp [World.setCell] at this ⊢; omega⟩
            case measure => simp [intOf]; omega
        · have HNa := Lib.hid (show argNameL (tz.extract 0 j).data.toList = true by rw [hE.out]; exact hna)
          obtain ⟨vz, hvz⟩ : ∃ vz, tz.extract (j + 1) tz.size = vz := ⟨_, rfl⟩
          have hvs : vz.size ≤ 20000 := by rw [← hvz, ByteArray.size_extract]; omega
          have hve : vz.data.toList = tl.drop (j + 1) := by rw [← hvz, ext_list, HTz.out, List.take_of_length_le (show tl.length ≤ tz.size by rw [← size_toList, HTz.out]; exact Nat.le_refl _)]
          have HWF := Lib.hid (show wordF tl = (valF vz.data.toList).map fun v => (tl.take j, v) by rw [HWa.out, hna, hve]; rfl)
          clear hve
          clear HWa hna
          have pc2 := HP.out.c 2
          have pf2 := HP.out.f 2
          have psh := HP.out.sh
          simp only [partC] at pc2 psh
          go_wp2_with (first
            | (go_at_call 28; go_must (refine (index_r _ _ _ HI.out).mono ?_); rintro e w5 ⟨rfl, rfl⟩)
            | (go_at_call 29; go_must (refine (argName_v _ _ _ (by omega) HNa.out).mono ?_); rintro e w5 ⟨rfl, rfl⟩))
          refine (valueOf_c vz _ (by omega)).mono ?_
          rintro e w6 ⟨v, b, rfl, rfl, hv⟩
          cases b
          · have hv2 : valF vz.data.toList = none := hv.elim (fun h => by cases h.1) (fun h => h.2)
            have HX := Lib.hid (HN.out HSh.out (by rw [HCd.out, HM.out.bad HTl.out (by rw [HWF.out, hv2]; rfl)]; rfl))
            clear hv hv2 pc2 pf2 psh
            have yc0 := HZ.out.c 0
            have yf0 := HZ.out.f 0
            have yc1 := HZ.out.c 1
            have yf1 := HZ.out.f 1
            have yc2 := HZ.out.c 2
            have yf2 := HZ.out.f 2
            have yc3 := HZ.out.c 3
            have yf3 := HZ.out.f 3
            have yc4 := HZ.out.c 4
            have yf4 := HZ.out.f 4
            have ysh := HZ.out.sh
            simp only [partZ] at yc0 yc1 yc2 yc3 yc4 ysh
            have hn0 : n < wr.heap.size := by omega
            have hwb : w.heap.size ≤ wr.heap.size := HB.out.size
            go_wp2_with fail
            (try simp only [Exit.inBlock, Exit.then])
            rw [HX.out]
            exact part_done rfl ((((((HZ.out.put 0 _).put 1 _).put 2 _).put 3 _).put 4 _).alloc _) rfl rfl rfl rfl (PartPost.empty (((((((HB.out).setCell (p := ⟨n, _, none⟩) hnw _).setCell (p := ⟨n, _, none⟩) hnw _).setCell (p := ⟨n, _, none⟩) hnw _).setCell (p := ⟨n, _, none⟩) hnw _).setCell (p := ⟨n, _, none⟩) hnw _).alloc (by simp [World.setCell]; omega) _))
          · have hv2 : valF vz.data.toList = some v.data.toList := hv.elim (fun h => h.2) (fun h => by cases h.1)
            have HS := Lib.hid (HM.out.step (a := (tl.take j, v.data.toList)) HTl.out (by rw [HWF.out, hv2]; rfl))
            clear hv hv2
            have hwb : w.heap.size ≤ wr.heap.size := HB.out.size
            go_wp2_with (at_builtin; have hh := own_alloc (own_alloc HA.out (.cells #[.string (tz.extract 0 j), .string v] 49)) (.cells #[.string (tz.extract 0 j), .string v] 49); have k1 : (k + 1) * 32 ≤ 140737488355328 := (by omega); have k2 : k + 1 ≤ maxLen := (by unfold maxLen; omega); have k3 : B2 ≤ ((wr.alloc (.cells #[.string (tz.extract 0 j), .string v] 49)).alloc (.cells #[.string (tz.extract 0 j), .string v] 49)).heap.size := (by simp; omega); have k4 := cell_new (wr.alloc (.cells #[.string (tz.extract 0 j), .string v] 49)) [.string (tz.extract 0 j), .string v] 49 (wr.heap.size + 1) (by simp); go_must (refine wpList_push _ rfl (.tmp 96) (.tmp 98) 22 rfl B2 49 _ 2 32 Try.underlying22 info_arg rfl (by omega) (.slice Ao k co) k _ rfl hh [.string (tz.extract 0 j), .string v] rfl _ rfl k4 (two_strs _ _) k1 k2 k3 ?_); clear hh k1 k2 k3 k4; intro g1 c1 w7 own7 hg7 hgg7 hb7; have HP7 := Lib.hid (((HP.out.alloc (.cells #[.string (tz.extract 0 j), .string v] 49)).alloc (.cells #[.string (tz.extract 0 j), .string v] 49)).other hg7 (own_ne4 HA.out (by omega))); have t2 := HP7.out.c 2; have t3 := HP7.out.f 2; have t4 := HP7.out.sh; simp only [partC] at t2 t4)
            go_roundw
            case rel =>
              exact ⟨k + 1, some ⟨g1, 0, none⟩, c1, args ++ [(tl.take j, v.data.toList)], by omega, by go_num, Lib.hid (by rw [List.length_append, HLn.out]; rfl), HS,
                Lib.hid ((((HZ.out.alloc _).alloc _).other hg7 (own_ne4 HA.out (by omega))).set (by omega) _), Lib.hid (HP7.out.put 2 _),
                Lib.hid (by rw [argCells_append, show argCells [(tl.take j, v.data.toList)] = [.string (tz.extract 0 j), .string v] from by rw [← hE.out]; exact argCells_single _ _]; exact own7.kept (grown_set w7 (n + 1) 2 _) (own_ne3 own7 (by omega))),
                Lib.hid (((own_alloc (own_alloc HWd.out _) _).kept hg7 (own_two HA.out (by omega))).kept (grown_set w7 (n + 1) 2 _) (own_ne3 HWd.out (by omega))),
                Lib.hid ((((HB.out.alloc hwb _).alloc (by simp; omega) _).trans (hb7.mono (by omega))).setCell (p := ⟨n + 1, 2, none⟩) (show w.heap.size ≤ n + 1 by omega) _),
                by have := hb7.size; simp [World.setCell] at this ⊢; omega⟩
            case measure => simp [intOf]; omega
    · skip
      have HMp := Lib.hid (HM.out.fin (by omega))
      have HCf := Lib.hid (show codeF x.data.toList = some (w0, args) by rw [HCd.out, HMp.out]; rfl)
      have HO := Lib.hid (HY.out _ _ HSh.out HCf.out)
      clear HM
      have pc2 := HP.out.c 2
      have pf2 := HP.out.f 2
      have psh := HP.out.sh
      simp only [partC] at pc2 psh
      go_wp2_with fail
      clear pc2 pf2 psh
      refine (argsError_any args _ _ (ArgsAt.of_own HA.out)).mono ?_
      rintro e w5 ⟨rfl, hb5⟩
      have HZ5 := Lib.hid (HZ.out.below hb5)
      have HP5 := Lib.hid (HP.out.below hb5)
      have HA5 := Lib.hid (own_keepB HA.out hb5)
      have HB5 := Lib.hid (HB.out.trans (hb5.mono HB.out.size))
      clear hb5 HZ HP HA HB HWd
      obtain ⟨ev, hev⟩ : ∃ ev, argsE2 args = ev := ⟨_, rfl⟩
      rw [hev]
      have HEv := Lib.hid hev
      clear hev
      have pc0 := HP5.out.c 0
      have pf0 := HP5.out.f 0
      have pc1 := HP5.out.c 1
      have pf1 := HP5.out.f 1
      have pc2 := HP5.out.c 2
      have pf2 := HP5.out.f 2
      have pc3 := HP5.out.c 3
      have pf3 := HP5.out.f 3
      have pc4 := HP5.out.c 4
      have pf4 := HP5.out.f 4
      have psh := HP5.out.sh
      simp only [partC] at pc0 pc1 pc2 pc3 pc4 psh
      have yc0 := HZ5.out.c 0
      have yf0 := HZ5.out.f 0
      have yc1 := HZ5.out.c 1
      have yf1 := HZ5.out.f 1
      have yc2 := HZ5.out.c 2
      have yf2 := HZ5.out.f 2
      have yc3 := HZ5.out.c 3
      have yf3 := HZ5.out.f 3
      have yc4 := HZ5.out.c 4
      have yf4 := HZ5.out.f 4
      have ysh := HZ5.out.sh
      simp only [partZ] at yc0 yc1 yc2 yc3 yc4 ysh
      by_cases hev0 : ev = 0
      · subst hev0
        have HX := Lib.hid (show o = (0, w0, args, true) by rw [HO.out, if_pos HEv.out])
        go_wp2_with fail
        (try simp only [Exit.inBlock, Exit.then])
        rw [HX.out]
        refine part_done (cs := partC nm (.slice Ao k co) true) rfl (((((HZ5.out.put 0 _).put 1 _).put 2 _).put 3 _).put 4 _) rfl rfl rfl rfl ?_
        exact ⟨nm, _, rfl, HNm.out, ArgsAt.of_own (((((HA5.out.kept (grown_set _ n 0 _) (own_ne3 HA5.out (by omega))).kept (grown_set _ n 1 _) (own_ne3 HA5.out (by omega))).kept (grown_set _ n 2 _) (own_ne3 HA5.out (by omega))).kept (grown_set _ n 3 _) (own_ne3 HA5.out (by omega))).kept (grown_set _ n 4 _) (own_ne3 HA5.out (by omega))), (((((HB5.out).setCell (p := ⟨n, _, none⟩) hnw _).setCell (p := ⟨n, _, none⟩) hnw _).setCell (p := ⟨n, _, none⟩) hnw _).setCell (p := ⟨n, _, none⟩) hnw _).setCell (p := ⟨n, _, none⟩) hnw _⟩
      · have hne : (ev == 0) = false := by simpa using hev0
        have hne2 : (ev != 0) = true := by simpa using hev0
        have HX := Lib.hid (show o = (ev, [], [], false) by rw [HO.out, if_neg (by rw [HEv.out]; exact hev0), HEv.out])
        clear hev0
        go_wp2_with fail
        (try simp only [Exit.inBlock, Exit.then])
        rw [HX.out]
        exact part_done rfl (((((HZ5.out.put 0 _).put 1 _).put 2 _).put 3 _).put 4 _) rfl rfl rfl rfl (PartPost.empty ((((((HB5.out).setCell (p := ⟨n, _, none⟩) hnw _).setCell (p := ⟨n, _, none⟩) hnw _).setCell (p := ⟨n, _, none⟩) hnw _).setCell (p := ⟨n, _, none⟩) hnw _).setCell (p := ⟨n, _, none⟩) hnw _))

set_option maxRecDepth 100000 in
set_option maxHeartbeats 8000000 in
theorem code_yes2 (s x : ByteArray) (o : Int × List UInt8 × List ArgL × Bool) (w : World) (h1 : Lib.hasPrefix s.data.toList [123, 60, 32] = true) (h2 : Lib.hasPrefix s.data.toList [123, 60, 32, 47] = false) (hs : s.size ≤ 20000)
    (s1 : Lib.hasSuffix s.data.toList [32, 47, 62, 125] = true) (hk : 4 ≤ s.size) (hk2 : s.size < 4 + 3 → o = (8, [], [], false)) (hx : (s.extract 0 (s.size - 4)).extract 3 (s.size - 4) = x)
    (hn : 4 + 3 ≤ s.size → codeF x.data.toList = none → o = (8, [], [], false)) (hy : ∀ n l, 4 + 3 ≤ s.size → codeF x.data.toList = some (n, l) → o = if argsE2 l = 0 then (0, n, l, false) else (argsE2 l, [], [], false)) : Calls Try.prog 8 #[.string s] w (PartPost o w) := by
  have H1 := Lib.hid (show Lib.hasPrefix s.data.toList (⟨#[123, 60, 32]⟩ : ByteArray).data.toList = true from h1); clear h1
  have H2 := Lib.hid (show Lib.hasPrefix s.data.toList (⟨#[123, 60, 32, 47]⟩ : ByteArray).data.toList = false from h2); clear h2
  have S1 := Lib.hid (show Lib.hasSuffix s.data.toList (⟨#[32, 47, 62, 125]⟩ : ByteArray).data.toList = true from s1); clear s1
  have S2 := S1
  have HN := Lib.hid hn; clear hn
  have HY := Lib.hid hy; clear hy
  obtain ⟨q, hq⟩ : ∃ q, s.size = q + 4 := ⟨s.size - 4, by omega⟩
  have hI1 : (q : Int) ≤ (s.size : Int) := by omega
  have hI2 : ((s.size : Int) - 4) = (q : Int) := by omega
  have hqq : s.size - 4 = q := by omega
  rw [hqq] at hx
  have hsz1 : (s.extract 0 q).size = q := by rw [ByteArray.size_extract]; omega
  have HQ := Lib.hid hq
  by_cases hsh : q < 3
  · have HO := Lib.hid (hk2 (by omega))
    clear hq hqq
    go_enter Try.func8, Try.ntmps8
    go_wp2_with (first
      | (go_at_call 20; refine (hasPrefix_r _ _ true _ H1.out).mono ?_; rintro e w1 ⟨rfl, rfl⟩)
      | (go_at_call 20; refine (hasPrefix_r _ _ false _ H2.out).mono ?_; rintro e w1 ⟨rfl, rfl⟩)
      | (go_at_call 25; refine (hasSuffix_r _ _ true _ (by omega) S1.out).mono ?_; rintro e w1 ⟨rfl, rfl⟩)
      | (go_at_call 25; refine (hasSuffix_r _ _ true _ (by omega) S2.out).mono ?_; rintro e w1 ⟨rfl, rfl⟩))
    rw [HO.out]
    exact part_done rfl ((CX.new w _ _).alloc _) rfl rfl rfl rfl (PartPost.empty (((Below.refl _ _).alloc (Nat.le_refl _) _).alloc (by simp) _))
  have hq3 : 3 ≤ q := by omega
  have hxs : x.size ≤ 20000 := by rw [← hx, ByteArray.size_extract]; omega
  have HSh := Lib.hid (show 4 + 3 ≤ s.size by omega)
  clear hq hqq hk2 hsh
  go_enter Try.func8, Try.ntmps8
  go_wp2_with (first
    | (go_at_call 20; refine (hasPrefix_r _ _ true _ H1.out).mono ?_; rintro e w1 ⟨rfl, rfl⟩)
    | (go_at_call 20; refine (hasPrefix_r _ _ false _ H2.out).mono ?_; rintro e w1 ⟨rfl, rfl⟩)
    | (go_at_call 25; refine (hasSuffix_r _ _ true _ (by omega) S1.out).mono ?_; rintro e w1 ⟨rfl, rfl⟩)
    | (go_at_call 25; refine (hasSuffix_r _ _ true _ (by omega) S2.out).mono ?_; rintro e w1 ⟨rfl, rfl⟩))
  obtain ⟨w2, hw2⟩ : ∃ w2, (w.alloc (.cells #[.string ⟨#[]⟩, .string ⟨#[]⟩, .slice none 0 0, .bool false, .slice none 0 0] 25)).alloc (.cells #[.string ⟨#[]⟩, .string ⟨#[]⟩, .slice none 0 0, .bool false, .slice none 0 0] 25) = w2 := ⟨_, rfl⟩
  have HZ2 := Lib.hid (show CX w2 w.heap.size 25 partZ by rw [← hw2]; exact (CX.new w _ _).alloc _)
  have HP2 := Lib.hid (show CX w2 (w.heap.size + 1) 25 (partC ⟨#[]⟩ (.slice none 0 0) false) by rw [← hw2]; have := CX.new (w.alloc (.cells #[.string ⟨#[]⟩, .string ⟨#[]⟩, .slice none 0 0, .bool false, .slice none 0 0] 25)) (partC ⟨#[]⟩ (.slice none 0 0) false) 25; simp only [World.size_alloc] at this; exact this)
  have HB2 := Lib.hid (show Below w.heap.size w w2 by rw [← hw2]; exact ((Below.refl _ _).alloc (Nat.le_refl _) _).alloc (by simp) _)
  have hs2 : w2.heap.size = w.heap.size + 2 := by rw [← hw2]; simp
  rw [hw2]
  clear hw2
  obtain ⟨n, hn⟩ : ∃ n, w.heap.size = n := ⟨_, rfl⟩
  rw [hn] at HZ2 HP2 hs2
  rw [hn]
  have hnw : w.heap.size ≤ n := by omega
  clear hn
  refine (words_c x w2 (by omega)).mono ?_
  rintro e w3 ⟨Aw, nw, cw, rfl, hnl, hown, hb3⟩
  rw [hs2] at hown hb3
  obtain ⟨w0, ws, hW⟩ := words_ne false [] x.data.toList
  have hwn := words_num _ x.data.toList (Nat.le_refl _) false []
  have hwl := words_len _ x.data.toList (Nat.le_refl _) false []
  rw [hW] at hnl hown hwn hwl
  rw [size_toList] at hwn hwl
  simp only [List.length_nil, Nat.zero_add] at hwl
  simp only [List.length_cons] at hnl hwn
  subst hnl
  obtain ⟨A', c', hv, hcm, hnc, hA⟩ := own_form hown
  cases hv
  obtain ⟨g, rfl, hg1, hg2⟩ := hA (by omega)
  have hc0 : w3.cell? ⟨g, 0, none⟩ = some (.string ⟨w0.toArray⟩) := own_cell hown (x := .string ⟨w0.toArray⟩) rfl
  obtain ⟨nm, hnm⟩ : ∃ nm, (⟨w0.toArray⟩ : ByteArray) = nm := ⟨_, rfl⟩
  have hnm2 : nm.data.toList = w0 := by rw [← hnm]
  rw [hnm] at hc0
  have hnms : nm.size ≤ 20000 := by rw [← size_toList, hnm2]; have := hwl w0 (by simp); omega
  have HNm := Lib.hid hnm2
  have HWl := Lib.hid (fun t ht => hwl t (List.mem_cons_of_mem _ ht))
  have HW := Lib.hid hW
  have HWd := Lib.hid hown
  have HZ3 := Lib.hid (show CX w3 n 25 partZ from (hb3.block n (by omega)).trans HZ2.out)
  have HP3 := Lib.hid (show CX w3 (n + 1) 25 (partC ⟨#[]⟩ (.slice none 0 0) false) from (hb3.block (n + 1) (by omega)).trans HP2.out)
  have HB3 := Lib.hid (HB2.out.trans (hb3.mono (by omega)))
  have hs3 : n + 2 ≤ w3.heap.size := by have := hb3.size; omega
  clear hown hb3 hA hnm hnm2 hW hwl HZ2 HP2 HB2 hs2
  have pc1 := HP3.out.c 1
  have pf1 := HP3.out.f 1
  have psh := HP3.out.sh
  simp only [partC] at pc1 psh
  cases hcn : codeNameL w0
  · have HX := Lib.hid (HN.out HSh.out (code_name HW.out hcn))
    have hcn2 := HNm.out
    have HCn := Lib.hid (show codeNameL nm.data.toList = false by rw [HNm.out]; exact hcn)
    have HZ4 := Lib.hid (HZ3.out.set (by omega : n ≠ n + 1) (o := 1) (.string nm))
    clear hcn hcn2
    have yc0 := HZ4.out.c 0
    have yf0 := HZ4.out.f 0
    have yc1 := HZ4.out.c 1
    have yf1 := HZ4.out.f 1
    have yc2 := HZ4.out.c 2
    have yf2 := HZ4.out.f 2
    have yc3 := HZ4.out.c 3
    have yf3 := HZ4.out.f 3
    have yc4 := HZ4.out.c 4
    have yf4 := HZ4.out.f 4
    have ysh := HZ4.out.sh
    simp only [partZ] at yc0 yc1 yc2 yc3 yc4 ysh
    go_wp2_with (go_at_call 27; go_must (refine (codeName_v _ _ _ (by omega) HCn.out).mono ?_); rintro e w5 ⟨rfl, rfl⟩)
    rw [HX.out]
    exact part_done rfl (((((HZ4.out.put 0 _).put 1 _).put 2 _).put 3 _).put 4 _) rfl rfl rfl rfl (PartPost.empty ((((((HB3.out.setCell (p := ⟨n + 1, 1, none⟩) (show w.heap.size ≤ n + 1 by omega) _).setCell (p := ⟨n, _, none⟩) hnw _).setCell (p := ⟨n, _, none⟩) hnw _).setCell (p := ⟨n, _, none⟩) hnw _).setCell (p := ⟨n, _, none⟩) hnw _).setCell (p := ⟨n, _, none⟩) hnw _))
  have HCn := Lib.hid (show codeNameL nm.data.toList = true by rw [HNm.out]; exact hcn)
  have HCd := Lib.hid (code_some HW.out hcn)
  clear hcn
  by_cases hc1 : cw = 1
  · subst hc1
    obtain rfl : ws = [] := List.eq_nil_of_length_eq_zero (by omega)
    simp only [List.length_nil, Nat.zero_add] at HWd
    clear hnc hwn hcm
    go_wp2_with (go_at_call 27; go_must (refine (codeName_v _ _ _ (by omega) HCn.out).mono ?_); rintro e w5 ⟨rfl, rfl⟩)
    clear pc1 pf1 psh hc0
    obtain ⟨w4, hw4⟩ : ∃ w4, w3.setCell ⟨n + 1, 1, none⟩ (.string nm) = w4 := ⟨_, rfl⟩
    have hgr : w3.grownBy w4 (some (n + 1)) := by rw [← hw4]; exact grown_set _ _ _ _
    have HZ4 := Lib.hid (HZ3.out.other hgr (by intro e; have := Option.some.inj e; omega))
    have HP4 := Lib.hid (show CX w4 (n + 1) 25 (partC nm (.slice none 0 0) false) by rw [← hw4]; exact HP3.out.put 1 _)
    have HW4 := Lib.hid (HWd.out.kept hgr (own_ne3 HWd.out (by omega)))
    have HB4 := Lib.hid (show Below w.heap.size w w4 by rw [← hw4]; exact HB3.out.setCell (p := ⟨n + 1, 1, none⟩) (show w.heap.size ≤ n + 1 by omega) _)
    have hs4 : w4.heap.size = w3.heap.size := by rw [← hw4]; simp [World.setCell]
    rw [hw4]
    clear hw4 hgr HZ3 HP3 HWd HB3
    obtain ⟨B2, hB2⟩ : ∃ B2, w3.heap.size = B2 := ⟨_, rfl⟩
    rw [hB2] at hs4 hs3 hg2
    clear hB2
    have hB4 : B2 ≤ w4.heap.size := by omega
    clear hs4
    go_loopw [58] (fun t wr => ∃ (k : Nat) (Ao : Option Addr) (co : Nat) (args : List ArgL), k ≤ ([] : List (List UInt8)).length ∧ t = .int .i64 k ∧ Hid (args.length = k) ∧ Hid (MRel ([] : List (List UInt8)) k args) ∧ Hid (CX wr n 25 partZ) ∧ Hid (CX wr (n + 1) 25 (partC nm (.slice Ao k co) false)) ∧
        Hid (wr.ownsRow B2 49 2 (.slice Ao k co) k (argCells args)) ∧ Hid (wr.ownsRow (n + 2) 9 1 (.slice (some ⟨g, 0, none⟩) 1 1) 1 (wstrs (w0 :: ([] : List (List UInt8))))) ∧ Hid (Below w.heap.size w wr) ∧ B2 ≤ wr.heap.size) (fun t _ => ([] : List (List UInt8)).length - (intOf t).toNat)
    case atStart => exact ⟨0, none, 0, [], Nat.zero_le _, rfl, rfl, (show _ = _ by simp), HZ4, HP4, World.ownsRow_nil _ _ _ _, HW4, HB4, hB4⟩
    case round =>
      obtain ⟨k, Ao, co, args, hk, rfl, HLn, HM, HZ, HP, HA, HWd, HB, hBr⟩ := hrel
      have hn1 : n + 1 < wr.heap.size := by omega
      have hk0 : k ≤ 0 := by simpa using hk
      have hn0 : n < wr.heap.size := by omega
      clear hk
      have HMp := Lib.hid (HM.out.fin (by simp))
      have HCf := Lib.hid (show codeF x.data.toList = some (w0, args) by rw [HCd.out, HMp.out]; rfl)
      have HO := Lib.hid (HY.out _ _ HSh.out HCf.out)
      clear HM
      have pc2 := HP.out.c 2
      have pf2 := HP.out.f 2
      have psh := HP.out.sh
      simp only [partC] at pc2 psh
      go_wp2_with fail
      clear pc2 pf2 psh
      refine (argsError_any args _ _ (ArgsAt.of_own HA.out)).mono ?_
      rintro e w5 ⟨rfl, hb5⟩
      have HZ5 := Lib.hid (HZ.out.below hb5)
      have HP5 := Lib.hid (HP.out.below hb5)
      have HA5 := Lib.hid (own_keepB HA.out hb5)
      have HB5 := Lib.hid (HB.out.trans (hb5.mono HB.out.size))
      clear hb5 HZ HP HA HB HWd
      obtain ⟨ev, hev⟩ : ∃ ev, argsE2 args = ev := ⟨_, rfl⟩
      rw [hev]
      have HEv := Lib.hid hev
      clear hev
      have pc0 := HP5.out.c 0
      have pf0 := HP5.out.f 0
      have pc1 := HP5.out.c 1
      have pf1 := HP5.out.f 1
      have pc2 := HP5.out.c 2
      have pf2 := HP5.out.f 2
      have pc3 := HP5.out.c 3
      have pf3 := HP5.out.f 3
      have pc4 := HP5.out.c 4
      have pf4 := HP5.out.f 4
      have psh := HP5.out.sh
      simp only [partC] at pc0 pc1 pc2 pc3 pc4 psh
      have yc0 := HZ5.out.c 0
      have yf0 := HZ5.out.f 0
      have yc1 := HZ5.out.c 1
      have yf1 := HZ5.out.f 1
      have yc2 := HZ5.out.c 2
      have yf2 := HZ5.out.f 2
      have yc3 := HZ5.out.c 3
      have yf3 := HZ5.out.f 3
      have yc4 := HZ5.out.c 4
      have yf4 := HZ5.out.f 4
      have ysh := HZ5.out.sh
      simp only [partZ] at yc0 yc1 yc2 yc3 yc4 ysh
      by_cases hev0 : ev = 0
      · subst hev0
        have HX := Lib.hid (show o = (0, w0, args, false) by rw [HO.out, if_pos HEv.out])
        go_wp2_with fail
        (try simp only [Exit.inBlock, Exit.then])
        rw [HX.out]
        refine part_done (cs := partC nm (.slice Ao k co) false) rfl (((((HZ5.out.put 0 _).put 1 _).put 2 _).put 3 _).put 4 _) rfl rfl rfl rfl ?_
        exact ⟨nm, _, rfl, HNm.out, ArgsAt.of_own (((((HA5.out.kept (grown_set _ n 0 _) (own_ne3 HA5.out (by omega))).kept (grown_set _ n 1 _) (own_ne3 HA5.out (by omega))).kept (grown_set _ n 2 _) (own_ne3 HA5.out (by omega))).kept (grown_set _ n 3 _) (own_ne3 HA5.out (by omega))).kept (grown_set _ n 4 _) (own_ne3 HA5.out (by omega))), (((((HB5.out).setCell (p := ⟨n, _, none⟩) hnw _).setCell (p := ⟨n, _, none⟩) hnw _).setCell (p := ⟨n, _, none⟩) hnw _).setCell (p := ⟨n, _, none⟩) hnw _).setCell (p := ⟨n, _, none⟩) hnw _⟩
      · have hne : (ev == 0) = false := by simpa using hev0
        have hne2 : (ev != 0) = true := by simpa using hev0
        have HX := Lib.hid (show o = (ev, [], [], false) by rw [HO.out, if_neg (by rw [HEv.out]; exact hev0), HEv.out])
        clear hev0
        go_wp2_with fail
        (try simp only [Exit.inBlock, Exit.then])
        rw [HX.out]
        exact part_done rfl (((((HZ5.out.put 0 _).put 1 _).put 2 _).put 3 _).put 4 _) rfl rfl rfl rfl (PartPost.empty ((((((HB5.out).setCell (p := ⟨n, _, none⟩) hnw _).setCell (p := ⟨n, _, none⟩) hnw _).setCell (p := ⟨n, _, none⟩) hnw _).setCell (p := ⟨n, _, none⟩) hnw _).setCell (p := ⟨n, _, none⟩) hnw _))
  go_wp2_with (go_at_call 27; go_must (refine (codeName_v _ _ _ (by omega) HCn.out).mono ?_); rintro e w5 ⟨rfl, rfl⟩)
  clear pc1 pf1 psh hc0
  obtain ⟨w4, hw4⟩ : ∃ w4, w3.setCell ⟨n + 1, 1, none⟩ (.string nm) = w4 := ⟨_, rfl⟩
  have hgr : w3.grownBy w4 (some (n + 1)) := by rw [← hw4]; exact grown_set _ _ _ _
  have HZ4 := Lib.hid (HZ3.out.other hgr (by intro e; have := Option.some.inj e; omega))
  have HP4 := Lib.hid (show CX w4 (n + 1) 25 (partC nm (.slice none 0 0) false) by rw [← hw4]; exact HP3.out.put 1 _)
  have HW4 := Lib.hid (HWd.out.kept hgr (own_ne3 HWd.out (by omega)))
  have HB4 := Lib.hid (show Below w.heap.size w w4 by rw [← hw4]; exact HB3.out.setCell (p := ⟨n + 1, 1, none⟩) (show w.heap.size ≤ n + 1 by omega) _)
  have hs4 : w4.heap.size = w3.heap.size := by rw [← hw4]; simp [World.setCell]
  rw [hw4]
  clear hw4 hgr HZ3 HP3 HWd HB3
  obtain ⟨B2, hB2⟩ : ∃ B2, w3.heap.size = B2 := ⟨_, rfl⟩
  rw [hB2] at hs4 hs3 hg2
  clear hB2
  have hB4 : B2 ≤ w4.heap.size := by omega
  clear hs4
  go_loopw [58] (fun t wr => ∃ (k : Nat) (Ao : Option Addr) (co : Nat) (args : List ArgL), k ≤ ws.length ∧ t = .int .i64 k ∧ Hid (args.length = k) ∧ Hid (MRel ws k args) ∧ Hid (CX wr n 25 partZ) ∧ Hid (CX wr (n + 1) 25 (partC nm (.slice Ao k co) false)) ∧
      Hid (wr.ownsRow B2 49 2 (.slice Ao k co) k (argCells args)) ∧ Hid (wr.ownsRow (n + 2) 9 1 (.slice (some ⟨g, 0, none⟩) (ws.length + 1) cw) (ws.length + 1) (wstrs (w0 :: ws))) ∧ Hid (Below w.heap.size w wr) ∧ B2 ≤ wr.heap.size) (fun t _ => ws.length - (intOf t).toNat)
  case atStart => exact ⟨0, none, 0, [], Nat.zero_le _, rfl, rfl, (show _ = _ by simp), HZ4, HP4, World.ownsRow_nil _ _ _ _, HW4, HB4, hB4⟩
  case round =>
    obtain ⟨k, Ao, co, args, hk, rfl, HLn, HM, HZ, HP, HA, HWd, HB, hBr⟩ := hrel
    have hn1 : n + 1 < wr.heap.size := by omega
    by_cases hlt : k < ws.length
    · obtain ⟨tl, htl⟩ : ∃ tl, ws[k]? = some tl := ⟨_, List.getElem?_eq_getElem hlt⟩
      have hct : wr.cell? ⟨g, k + 1, none⟩ = some (.string ⟨tl.toArray⟩) := own_cell HWd.out (by simp [wstrs, htl])
      obtain ⟨tz, htz⟩ : ∃ tz, (⟨tl.toArray⟩ : ByteArray) = tz := ⟨_, rfl⟩
      have htz2 : tz.data.toList = tl := by rw [← htz]
      rw [htz] at hct
      have htzs : tz.size ≤ 20000 := by rw [← size_toList, htz2]; have := HWl.out tl (List.mem_of_getElem? htl); omega
      have hct2 : wr.cell? ⟨g, 1 + k, none⟩ = some (.string tz) := by rw [Nat.add_comm]; exact hct
      have hgl := World.block_lt_of_cell? _ _ hct
      simp only at hgl
      have HTl := Lib.hid htl
      have HTz := Lib.hid htz2
      clear htl htz htz2
      rcases idx_cases tl with ⟨hidx, htw⟩ | ⟨j, hidx, hjl, htw⟩
      · have HI := Lib.hid (show Lib.indexByte tz.data.toList 61 = -1 by rw [HTz.out]; exact hidx)
        have HWF := Lib.hid (show wordF tl = (valF tz.data.toList).map fun v => ([], v) by rw [HTz.out]; exact word_no htw)
        clear hidx htw
        have pc2 := HP.out.c 2
        have pf2 := HP.out.f 2
        have psh := HP.out.sh
        simp only [partC] at pc2 psh
        go_wp2_with (go_at_call 28; go_must (refine (index_r _ _ _ HI.out).mono ?_); rintro e w5 ⟨rfl, rfl⟩)
        refine (valueOf_c tz _ (by omega)).mono ?_
        rintro e w6 ⟨v, b, rfl, rfl, hv⟩
        cases b
        · have hv2 : valF tz.data.toList = none := hv.elim (fun h => by cases h.1) (fun h => h.2)
          have HX := Lib.hid (HN.out HSh.out (by rw [HCd.out, HM.out.bad HTl.out (by rw [HWF.out, hv2]; rfl)]; rfl))
          clear hv hv2 pc2 pf2 psh
          have yc0 := HZ.out.c 0
          have yf0 := HZ.out.f 0
          have yc1 := HZ.out.c 1
          have yf1 := HZ.out.f 1
          have yc2 := HZ.out.c 2
          have yf2 := HZ.out.f 2
          have yc3 := HZ.out.c 3
          have yf3 := HZ.out.f 3
          have yc4 := HZ.out.c 4
          have yf4 := HZ.out.f 4
          have ysh := HZ.out.sh
          simp only [partZ] at yc0 yc1 yc2 yc3 yc4 ysh
          have hn0 : n < wr.heap.size := by omega
          have hwb : w.heap.size ≤ wr.heap.size := HB.out.size
          go_wp2_with fail
          (try simp only [Exit.inBlock, Exit.then])
          rw [HX.out]
          exact part_done rfl ((((((HZ.out.put 0 _).put 1 _).put 2 _).put 3 _).put 4 _).alloc _) rfl rfl rfl rfl (PartPost.empty (((((((HB.out).setCell (p := ⟨n, _, none⟩) hnw _).setCell (p := ⟨n, _, none⟩) hnw _).setCell (p := ⟨n, _, none⟩) hnw _).setCell (p := ⟨n, _, none⟩) hnw _).setCell (p := ⟨n, _, none⟩) hnw _).alloc (by simp [World.setCell]; omega) _))
        · have hv2 : valF tz.data.toList = some v.data.toList := hv.elim (fun h => h.2) (fun h => by cases h.1)
          have HS := Lib.hid (HM.out.step (a := ([], v.data.toList)) HTl.out (by rw [HWF.out, hv2]; rfl))
          clear hv hv2
          have hwb : w.heap.size ≤ wr.heap.size := HB.out.size
          go_wp2_with (at_builtin; have hh := own_alloc (own_alloc HA.out (.cells #[.string ⟨#[]⟩, .string v] 49)) (.cells #[.string ⟨#[]⟩, .string v] 49); have k1 : (k + 1) * 32 ≤ 140737488355328 := (by omega); have k2 : k + 1 ≤ maxLen := (by unfold maxLen; omega); have k3 : B2 ≤ ((wr.alloc (.cells #[.string ⟨#[]⟩, .string v] 49)).alloc (.cells #[.string ⟨#[]⟩, .string v] 49)).heap.size := (by simp; omega); have k4 := cell_new (wr.alloc (.cells #[.string ⟨#[]⟩, .string v] 49)) [.string ⟨#[]⟩, .string v] 49 (wr.heap.size + 1) (by simp); go_must (refine wpList_push _ rfl (.tmp 96) (.tmp 98) 22 rfl B2 49 _ 2 32 Try.underlying22 info_arg rfl (by omega) (.slice Ao k co) k _ rfl hh [.string ⟨#[]⟩, .string v] rfl _ rfl k4 (two_strs _ _) k1 k2 k3 ?_); clear hh k1 k2 k3 k4; intro g1 c1 w7 own7 hg7 hgg7 hb7; have HP7 := Lib.hid (((HP.out.alloc (.cells #[.string ⟨#[]⟩, .string v] 49)).alloc (.cells #[.string ⟨#[]⟩, .string v] 49)).other hg7 (own_ne4 HA.out (by omega))); have t2 := HP7.out.c 2; have t3 := HP7.out.f 2; have t4 := HP7.out.sh; simp only [partC] at t2 t4)
          go_roundw
          case rel =>
            exact ⟨k + 1, some ⟨g1, 0, none⟩, c1, args ++ [([], v.data.toList)], by omega, by go_num, Lib.hid (by rw [List.length_append, HLn.out]; rfl), HS,
              Lib.hid ((((HZ.out.alloc _).alloc _).other hg7 (own_ne4 HA.out (by omega))).set (by omega) _), Lib.hid (HP7.out.put 2 _),
              Lib.hid (by rw [argCells_append, show argCells [(([] : List UInt8), v.data.toList)] = [.string ⟨#[]⟩, .string v] from rfl]; exact own7.kept (grown_set w7 (n + 1) 2 _) (own_ne3 own7 (by omega))),
              Lib.hid (((own_alloc (own_alloc HWd.out _) _).kept hg7 (own_two HA.out (by omega))).kept (grown_set w7 (n + 1) 2 _) (own_ne3 HWd.out (by omega))),
              Lib.hid ((((HB.out.alloc hwb _).alloc (by simp; omega) _).trans (hb7.mono (by omega))).setCell (p := ⟨n + 1, 2, none⟩) (show w.heap.size ≤ n + 1 by omega) _),
              by have := hb7.size; simp [World.setCell] at this ⊢; omega⟩
          case measure => simp [intOf]; omega
      · have hjz : j < tz.size := by rw [← size_toList, HTz.out]; exact hjl
        have HI := Lib.hid (show Lib.indexByte tz.data.toList 61 = (j : Int) by rw [HTz.out]; exact hidx)
        have HWa := Lib.hid (word_at hjl htw)
        clear hidx htw hjl
        by_cases hj0 : j = 0
        · subst hj0
          have HWF := Lib.hid (show wordF tl = (valF tz.data.toList).map fun v => ([], v) by rw [HTz.out, HWa.out, if_neg (by simp [argNameL])])
          clear HWa
          have pc2 := HP.out.c 2
          have pf2 := HP.out.f 2
          have psh := HP.out.sh
          simp only [partC] at pc2 psh
          go_wp2_with (go_at_call 28; go_must (refine (index_r _ _ _ HI.out).mono ?_); rintro e w5 ⟨rfl, rfl⟩)
          refine (valueOf_c tz _ (by omega)).mono ?_
          rintro e w6 ⟨v, b, rfl, rfl, hv⟩
          cases b
          · have hv2 : valF tz.data.toList = none := hv.elim (fun h => by cases h.1) (fun h => h.2)
            have HX := Lib.hid (HN.out HSh.out (by rw [HCd.out, HM.out.bad HTl.out (by rw [HWF.out, hv2]; rfl)]; rfl))
            clear hv hv2 pc2 pf2 psh
            have yc0 := HZ.out.c 0
            have yf0 := HZ.out.f 0
            have yc1 := HZ.out.c 1
            have yf1 := HZ.out.f 1
            have yc2 := HZ.out.c 2
            have yf2 := HZ.out.f 2
            have yc3 := HZ.out.c 3
            have yf3 := HZ.out.f 3
            have yc4 := HZ.out.c 4
            have yf4 := HZ.out.f 4
            have ysh := HZ.out.sh
            simp only [partZ] at yc0 yc1 yc2 yc3 yc4 ysh
            have hn0 : n < wr.heap.size := by omega
            have hwb : w.heap.size ≤ wr.heap.size := HB.out.size
            go_wp2_with fail
            (try simp only [Exit.inBlock, Exit.then])
            rw [HX.out]
            exact part_done rfl ((((((HZ.out.put 0 _).put 1 _).put 2 _).put 3 _).put 4 _).alloc _) rfl rfl rfl rfl (PartPost.empty (((((((HB.out).setCell (p := ⟨n, _, none⟩) hnw _).setCell (p := ⟨n, _, none⟩) hnw _).setCell (p := ⟨n, _, none⟩) hnw _).setCell (p := ⟨n, _, none⟩) hnw _).setCell (p := ⟨n, _, none⟩) hnw _).alloc (by simp [World.setCell]; omega) _))
          · have hv2 : valF tz.data.toList = some v.data.toList := hv.elim (fun h => h.2) (fun h => by cases h.1)
            have HS := Lib.hid (HM.out.step (a := ([], v.data.toList)) HTl.out (by rw [HWF.out, hv2]; rfl))
            clear hv hv2
            have hwb : w.heap.size ≤ wr.heap.size := HB.out.size
            go_wp2_with (at_builtin; have hh := own_alloc (own_alloc HA.out (.cells #[.string ⟨#[]⟩, .string v] 49)) (.cells #[.string ⟨#[]⟩, .string v] 49); have k1 : (k + 1) * 32 ≤ 140737488355328 := (by omega); have k2 : k + 1 ≤ maxLen := (by unfold maxLen; omega); have k3 : B2 ≤ ((wr.alloc (.cells #[.string ⟨#[]⟩, .string v] 49)).alloc (.cells #[.string ⟨#[]⟩, .string v] 49)).heap.size := (by simp; omega); have k4 := cell_new (wr.alloc (.cells #[.string ⟨#[]⟩, .string v] 49)) [.string ⟨#[]⟩, .string v] 49 (wr.heap.size + 1) (by simp); go_must (refine wpList_push _ rfl (.tmp 96) (.tmp 98) 22 rfl B2 49 _ 2 32 Try.underlying22 info_arg rfl (by omega) (.slice Ao k co) k _ rfl hh [.string ⟨#[]⟩, .string v] rfl _ rfl k4 (two_strs _ _) k1 k2 k3 ?_); clear hh k1 k2 k3 k4; intro g1 c1 w7 own7 hg7 hgg7 hb7; have HP7 := Lib.hid (((HP.out.alloc (.cells #[.string ⟨#[]⟩, .string v] 49)).alloc (.cells #[.string ⟨#[]⟩, .string v] 49)).other hg7 (own_ne4 HA.out (by omega))); have t2 := HP7.out.c 2; have t3 := HP7.out.f 2; have t4 := HP7.out.sh; simp only [partC] at t2 t4)
            go_roundw
            case rel =>
              exact ⟨k + 1, some ⟨g1, 0, none⟩, c1, args ++ [([], v.data.toList)], by omega, by go_num, Lib.hid (by rw [List.length_append, HLn.out]; rfl), HS,
                Lib.hid ((((HZ.out.alloc _).alloc _).other hg7 (own_ne4 HA.out (by omega))).set (by omega) _), Lib.hid (HP7.out.put 2 _),
                Lib.hid (by rw [argCells_append, show argCells [(([] : List UInt8), v.data.toList)] = [.string ⟨#[]⟩, .string v] from rfl]; exact own7.kept (grown_set w7 (n + 1) 2 _) (own_ne3 own7 (by omega))),
                Lib.hid (((own_alloc (own_alloc HWd.out _) _).kept hg7 (own_two HA.out (by omega))).kept (grown_set w7 (n + 1) 2 _) (own_ne3 HWd.out (by omega))),
                Lib.hid ((((HB.out.alloc hwb _).alloc (by simp; omega) _).trans (hb7.mono (by omega))).setCell (p := ⟨n + 1, 2, none⟩) (show w.heap.size ≤ n + 1 by omega) _),
                by have := hb7.size; simp [World.setCell] at this ⊢; omega⟩
            case measure => simp [intOf]; omega
        have hj1 : 0 < j := by omega
        have hI1 : (j : Int) ≤ (tz.size : Int) := by omega
        have hI2 : (j : Int) + 1 ≤ (tz.size : Int) := by omega
        have hE := Lib.hid (show (tz.extract 0 j).data.toList = tl.take j by rw [ext_list, HTz.out]; rfl)
        have hes : (tz.extract 0 j).size ≤ 20000 := by rw [ByteArray.size_extract]; omega
        clear hj0
        cases hna : argNameL (tl.take j)
        · have HNa := Lib.hid (show argNameL (tz.extract 0 j).data.toList = false by rw [hE.out]; exact hna)
          have HWF := Lib.hid (show wordF tl = (valF tz.data.toList).map fun v => ([], v) by rw [HTz.out, HWa.out, hna]; rfl)
          clear HWa hna
          have pc2 := HP.out.c 2
          have pf2 := HP.out.f 2
          have psh := HP.out.sh
          simp only [partC] at pc2 psh
          go_wp2_with (first
            | (go_at_call 28; go_must (refine (index_r _ _ _ HI.out).mono ?_); rintro e w5 ⟨rfl, rfl⟩)
            | (go_at_call 29; go_must (refine (argName_v _ _ _ (by omega) HNa.out).mono ?_); rintro e w5 ⟨rfl, rfl⟩))
          refine (valueOf_c tz _ (by omega)).mono ?_
          rintro e w6 ⟨v, b, rfl, rfl, hv⟩
          cases b
          · have hv2 : valF tz.data.toList = none := hv.elim (fun h => by cases h.1) (fun h => h.2)
            have HX := Lib.hid (HN.out HSh.out (by rw [HCd.out, HM.out.bad HTl.out (by rw [HWF.out, hv2]; rfl)]; rfl))
            clear hv hv2 pc2 pf2 psh
            have yc0 := HZ.out.c 0
            have yf0 := HZ.out.f 0
            have yc1 := HZ.out.c 1
            have yf1 := HZ.out.f 1
            have yc2 := HZ.out.c 2
            have yf2 := HZ.out.f 2
            have yc3 := HZ.out.c 3
            have yf3 := HZ.out.f 3
            have yc4 := HZ.out.c 4
            have yf4 := HZ.out.f 4
            have ysh := HZ.out.sh
            simp only [partZ] at yc0 yc1 yc2 yc3 yc4 ysh
            have hn0 : n < wr.heap.size := by omega
            have hwb : w.heap.size ≤ wr.heap.size := HB.out.size
            go_wp2_with fail
            (try simp only [Exit.inBlock, Exit.then])
            rw [HX.out]
            exact part_done rfl ((((((HZ.out.put 0 _).put 1 _).put 2 _).put 3 _).put 4 _).alloc _) rfl rfl rfl rfl (PartPost.empty (((((((HB.out).setCell (p := ⟨n, _, none⟩) hnw _).setCell (p := ⟨n, _, none⟩) hnw _).setCell (p := ⟨n, _, none⟩) hnw _).setCell (p := ⟨n, _, none⟩) hnw _).setCell (p := ⟨n, _, none⟩) hnw _).alloc (by simp [World.setCell]; omega) _))
          · have hv2 : valF tz.data.toList = some v.data.toList := hv.elim (fun h => h.2) (fun h => by cases h.1)
            have HS := Lib.hid (HM.out.step (a := ([], v.data.toList)) HTl.out (by rw [HWF.out, hv2]; rfl))
            clear hv hv2
            have hwb : w.heap.size ≤ wr.heap.size := HB.out.size
            go_wp2_with (at_builtin; have hh := own_alloc (own_alloc HA.out (.cells #[.string ⟨#[]⟩, .string v] 49)) (.cells #[.string ⟨#[]⟩, .string v] 49); have k1 : (k + 1) * 32 ≤ 140737488355328 := (by omega); have k2 : k + 1 ≤ maxLen := (by unfold maxLen; omega); have k3 : B2 ≤ ((wr.alloc (.cells #[.string ⟨#[]⟩, .string v] 49)).alloc (.cells #[.string ⟨#[]⟩, .string v] 49)).heap.size := (by simp; omega); have k4 := cell_new (wr.alloc (.cells #[.string ⟨#[]⟩, .string v] 49)) [.string ⟨#[]⟩, .string v] 49 (wr.heap.size + 1) (by simp); go_must (refine wpList_push _ rfl (.tmp 96) (.tmp 98) 22 rfl B2 49 _ 2 32 Try.underlying22 info_arg rfl (by omega) (.slice Ao k co) k _ rfl hh [.string ⟨#[]⟩, .string v] rfl _ rfl k4 (two_strs _ _) k1 k2 k3 ?_); clear hh k1 k2 k3 k4; intro g1 c1 w7 own7 hg7 hgg7 hb7; have HP7 := Lib.hid (((HP.out.alloc (.cells #[.string ⟨#[]⟩, .string v] 49)).alloc (.cells #[.string ⟨#[]⟩, .string v] 49)).other hg7 (own_ne4 HA.out (by omega))); have t2 := HP7.out.c 2; have t3 := HP7.out.f 2; have t4 := HP7.out.sh; simp only [partC] at t2 t4)
            go_roundw
            case rel =>
              exact ⟨k + 1, some ⟨g1, 0, none⟩, c1, args ++ [([], v.data.toList)], by omega, by go_num, Lib.hid (by rw [List.length_append, HLn.out]; rfl), HS,
                Lib.hid ((((HZ.out.alloc _).alloc _).other hg7 (own_ne4 HA.out (by omega))).set (by omega) _), Lib.hid (HP7.out.put 2 _),
                Lib.hid (by rw [argCells_append, show argCells [(([] : List UInt8), v.data.toList)] = [.string ⟨#[]⟩, .string v] from rfl]; exact own7.kept (grown_set w7 (n + 1) 2 _) (own_ne3 own7 (by omega))),
                Lib.hid (((own_alloc (own_alloc HWd.out _) _).kept hg7 (own_two HA.out (by omega))).kept (grown_set w7 (n + 1) 2 _) (own_ne3 HWd.out (by omega))),
                Lib.hid ((((HB.out.alloc hwb _).alloc (by simp; omega) _).trans (hb7.mono (by omega))).setCell (p := ⟨n + 1, 2, none⟩) (show w.heap.size ≤ n + 1 by omega) _),
                by have := hb7.size; simp [World.setCell] at this ⊢; omega⟩
            case measure => simp [intOf]; omega
        · have HNa := Lib.hid (show argNameL (tz.extract 0 j).data.toList = true by rw [hE.out]; exact hna)
          obtain ⟨vz, hvz⟩ : ∃ vz, tz.extract (j + 1) tz.size = vz := ⟨_, rfl⟩
          have hvs : vz.size ≤ 20000 := by rw [← hvz, ByteArray.size_extract]; omega
          have hve : vz.data.toList = tl.drop (j + 1) := by rw [← hvz, ext_list, HTz.out, List.take_of_length_le (show tl.length ≤ tz.size by rw [← size_toList, HTz.out]; exact Nat.le_refl _)]
          have HWF := Lib.hid (show wordF tl = (valF vz.data.toList).map fun v => (tl.take j, v) by rw [HWa.out, hna, hve]; rfl)
          clear hve
          clear HWa hna
          have pc2 := HP.out.c 2
          have pf2 := HP.out.f 2
          have psh := HP.out.sh
          simp only [partC] at pc2 psh
          go_wp2_with (first
            | (go_at_call 28; go_must (refine (index_r _ _ _ HI.out).mono ?_); rintro e w5 ⟨rfl, rfl⟩)
            | (go_at_call 29; go_must (refine (argName_v _ _ _ (by omega) HNa.out).mono ?_); rintro e w5 ⟨rfl, rfl⟩))
          refine (valueOf_c vz _ (by omega)).mono ?_
          rintro e w6 ⟨v, b, rfl, rfl, hv⟩
          cases b
          · have hv2 : valF vz.data.toList = none := hv.elim (fun h => by cases h.1) (fun h => h.2)
            have HX := Lib.hid (HN.out HSh.out (by rw [HCd.out, HM.out.bad HTl.out (by rw [HWF.out, hv2]; rfl)]; rfl))
            clear hv hv2 pc2 pf2 psh
            have yc0 := HZ.out.c 0
            have yf0 := HZ.out.f 0
            have yc1 := HZ.out.c 1
            have yf1 := HZ.out.f 1
            have yc2 := HZ.out.c 2
            have yf2 := HZ.out.f 2
            have yc3 := HZ.out.c 3
            have yf3 := HZ.out.f 3
            have yc4 := HZ.out.c 4
            have yf4 := HZ.out.f 4
            have ysh := HZ.out.sh
            simp only [partZ] at yc0 yc1 yc2 yc3 yc4 ysh
            have hn0 : n < wr.heap.size := by omega
            have hwb : w.heap.size ≤ wr.heap.size := HB.out.size
            go_wp2_with fail
            (try simp only [Exit.inBlock, Exit.then])
            rw [HX.out]
            exact part_done rfl ((((((HZ.out.put 0 _).put 1 _).put 2 _).put 3 _).put 4 _).alloc _) rfl rfl rfl rfl (PartPost.empty (((((((HB.out).setCell (p := ⟨n, _, none⟩) hnw _).setCell (p := ⟨n, _, none⟩) hnw _).setCell (p := ⟨n, _, none⟩) hnw _).setCell (p := ⟨n, _, none⟩) hnw _).setCell (p := ⟨n, _, none⟩) hnw _).alloc (by simp [World.setCell]; omega) _))
          · have hv2 : valF vz.data.toList = some v.data.toList := hv.elim (fun h => h.2) (fun h => by cases h.1)
            have HS := Lib.hid (HM.out.step (a := (tl.take j, v.data.toList)) HTl.out (by rw [HWF.out, hv2]; rfl))
            clear hv hv2
            have hwb : w.heap.size ≤ wr.heap.size := HB.out.size
            go_wp2_with (at_builtin; have hh := own_alloc (own_alloc HA.out (.cells #[.string (tz.extract 0 j), .string v] 49)) (.cells #[.string (tz.extract 0 j), .string v] 49); have k1 : (k + 1) * 32 ≤ 140737488355328 := (by omega); have k2 : k + 1 ≤ maxLen := (by unfold maxLen; omega); have k3 : B2 ≤ ((wr.alloc (.cells #[.string (tz.extract 0 j), .string v] 49)).alloc (.cells #[.string (tz.extract 0 j), .string v] 49)).heap.size := (by simp; omega); have k4 := cell_new (wr.alloc (.cells #[.string (tz.extract 0 j), .string v] 49)) [.string (tz.extract 0 j), .string v] 49 (wr.heap.size + 1) (by simp); go_must (refine wpList_push _ rfl (.tmp 96) (.tmp 98) 22 rfl B2 49 _ 2 32 Try.underlying22 info_arg rfl (by omega) (.slice Ao k co) k _ rfl hh [.string (tz.extract 0 j), .string v] rfl _ rfl k4 (two_strs _ _) k1 k2 k3 ?_); clear hh k1 k2 k3 k4; intro g1 c1 w7 own7 hg7 hgg7 hb7; have HP7 := Lib.hid (((HP.out.alloc (.cells #[.string (tz.extract 0 j), .string v] 49)).alloc (.cells #[.string (tz.extract 0 j), .string v] 49)).other hg7 (own_ne4 HA.out (by omega))); have t2 := HP7.out.c 2; have t3 := HP7.out.f 2; have t4 := HP7.out.sh; simp only [partC] at t2 t4)
            go_roundw
            case rel =>
              exact ⟨k + 1, some ⟨g1, 0, none⟩, c1, args ++ [(tl.take j, v.data.toList)], by omega, by go_num, Lib.hid (by rw [List.length_append, HLn.out]; rfl), HS,
                Lib.hid ((((HZ.out.alloc _).alloc _).other hg7 (own_ne4 HA.out (by omega))).set (by omega) _), Lib.hid (HP7.out.put 2 _),
                Lib.hid (by rw [argCells_append, show argCells [(tl.take j, v.data.toList)] = [.string (tz.extract 0 j), .string v] from by rw [← hE.out]; exact argCells_single _ _]; exact own7.kept (grown_set w7 (n + 1) 2 _) (own_ne3 own7 (by omega))),
                Lib.hid (((own_alloc (own_alloc HWd.out _) _).kept hg7 (own_two HA.out (by omega))).kept (grown_set w7 (n + 1) 2 _) (own_ne3 HWd.out (by omega))),
                Lib.hid ((((HB.out.alloc hwb _).alloc (by simp; omega) _).trans (hb7.mono (by omega))).setCell (p := ⟨n + 1, 2, none⟩) (show w.heap.size ≤ n + 1 by omega) _),
                by have := hb7.size; simp [World.setCell] at this ⊢; omega⟩
            case measure => simp [intOf]; omega
    · skip
      have HMp := Lib.hid (HM.out.fin (by omega))
      have HCf := Lib.hid (show codeF x.data.toList = some (w0, args) by rw [HCd.out, HMp.out]; rfl)
      have HO := Lib.hid (HY.out _ _ HSh.out HCf.out)
      clear HM
      have pc2 := HP.out.c 2
      have pf2 := HP.out.f 2
      have psh := HP.out.sh
      simp only [partC] at pc2 psh
      go_wp2_with fail
      clear pc2 pf2 psh
      refine (argsError_any args _ _ (ArgsAt.of_own HA.out)).mono ?_
      rintro e w5 ⟨rfl, hb5⟩
      have HZ5 := Lib.hid (HZ.out.below hb5)
      have HP5 := Lib.hid (HP.out.below hb5)
      have HA5 := Lib.hid (own_keepB HA.out hb5)
      have HB5 := Lib.hid (HB.out.trans (hb5.mono HB.out.size))
      clear hb5 HZ HP HA HB HWd
      obtain ⟨ev, hev⟩ : ∃ ev, argsE2 args = ev := ⟨_, rfl⟩
      rw [hev]
      have HEv := Lib.hid hev
      clear hev
      have pc0 := HP5.out.c 0
      have pf0 := HP5.out.f 0
      have pc1 := HP5.out.c 1
      have pf1 := HP5.out.f 1
      have pc2 := HP5.out.c 2
      have pf2 := HP5.out.f 2
      have pc3 := HP5.out.c 3
      have pf3 := HP5.out.f 3
      have pc4 := HP5.out.c 4
      have pf4 := HP5.out.f 4
      have psh := HP5.out.sh
      simp only [partC] at pc0 pc1 pc2 pc3 pc4 psh
      have yc0 := HZ5.out.c 0
      have yf0 := HZ5.out.f 0
      have yc1 := HZ5.out.c 1
      have yf1 := HZ5.out.f 1
      have yc2 := HZ5.out.c 2
      have yf2 := HZ5.out.f 2
      have yc3 := HZ5.out.c 3
      have yf3 := HZ5.out.f 3
      have yc4 := HZ5.out.c 4
      have yf4 := HZ5.out.f 4
      have ysh := HZ5.out.sh
      simp only [partZ] at yc0 yc1 yc2 yc3 yc4 ysh
      by_cases hev0 : ev = 0
      · subst hev0
        have HX := Lib.hid (show o = (0, w0, args, false) by rw [HO.out, if_pos HEv.out])
        go_wp2_with fail
        (try simp only [Exit.inBlock, Exit.then])
        rw [HX.out]
        refine part_done (cs := partC nm (.slice Ao k co) false) rfl (((((HZ5.out.put 0 _).put 1 _).put 2 _).put 3 _).put 4 _) rfl rfl rfl rfl ?_
        exact ⟨nm, _, rfl, HNm.out, ArgsAt.of_own (((((HA5.out.kept (grown_set _ n 0 _) (own_ne3 HA5.out (by omega))).kept (grown_set _ n 1 _) (own_ne3 HA5.out (by omega))).kept (grown_set _ n 2 _) (own_ne3 HA5.out (by omega))).kept (grown_set _ n 3 _) (own_ne3 HA5.out (by omega))).kept (grown_set _ n 4 _) (own_ne3 HA5.out (by omega))), (((((HB5.out).setCell (p := ⟨n, _, none⟩) hnw _).setCell (p := ⟨n, _, none⟩) hnw _).setCell (p := ⟨n, _, none⟩) hnw _).setCell (p := ⟨n, _, none⟩) hnw _).setCell (p := ⟨n, _, none⟩) hnw _⟩
      · have hne : (ev == 0) = false := by simpa using hev0
        have hne2 : (ev != 0) = true := by simpa using hev0
        have HX := Lib.hid (show o = (ev, [], [], false) by rw [HO.out, if_neg (by rw [HEv.out]; exact hev0), HEv.out])
        clear hev0
        go_wp2_with fail
        (try simp only [Exit.inBlock, Exit.then])
        rw [HX.out]
        exact part_done rfl (((((HZ5.out.put 0 _).put 1 _).put 2 _).put 3 _).put 4 _) rfl rfl rfl rfl (PartPost.empty ((((((HB5.out).setCell (p := ⟨n, _, none⟩) hnw _).setCell (p := ⟨n, _, none⟩) hnw _).setCell (p := ⟨n, _, none⟩) hnw _).setCell (p := ⟨n, _, none⟩) hnw _).setCell (p := ⟨n, _, none⟩) hnw _))

end Go.Proofs.Ytgbmlpidaeefoaa
