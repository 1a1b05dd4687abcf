/-
  Tokens: one token: the scanner's token.
-/
import Derived.Test.YtbhildmalcfhiaaGreatDoorTokAtt
import Derived.Test.YtbhildmalcfhiaaGreatDoorTokBeg
import Derived.Test.YtbhildmalcfhiaaGreatDoorTokRaw
namespace Go.Proofs.YtbhildmalcfhiaaGreatDoor
open Go.RowKit Go.Deep

/-- a prefix of what is left, byte by byte -/
theorem pre_cons (s : ByteArray) (i : Nat) (c : UInt8) (p : List UInt8) : Lib.hasPrefix (s.extract i s.size).data.toList (c :: p) = (isAt s i (c.toNat : Int) && Lib.hasPrefix (s.extract (i + 1) s.size).data.toList p) := by
  rw [drop_list, drop_list]
  by_cases h : i < s.size
  · have h1 : s.data.toList[i]? = some (bAt s i) := bAt_get h
    obtain ⟨h2, h3⟩ := List.getElem?_eq_some_iff.1 h1
    rw [List.drop_eq_getElem_cons h2, h3]
    show ((c == bAt s i) && _) = _
    congr 1
    simp only [isAt, h, decide_true, Bool.true_and, nAt]
    rw [Bool.eq_iff_iff]
    constructor
    · intro e
      rw [eq_of_beq e]
      exact decide_eq_true rfl
    · intro e
      have h5 := of_decide_eq_true e
      have : (bAt s i).toNat = c.toNat := by omega
      rw [← UInt8.toNat_inj.1 this]
      exact beq_self_eq_true _
  · have : s.data.toList.drop i = [] := List.drop_of_length_le (by rw [size_toList]; omega)
    rw [this]
    simp [isAt, h, Lib.hasPrefix]
theorem pre_nil (l : List UInt8) : Lib.hasPrefix l [] = true := by cases l <;> rfl
theorem pre_com (s : ByteArray) (i : Nat) : Lib.hasPrefix (s.extract i s.size).data.toList [60, 33, 45, 45] = decide (kindAt s i = 1) := by
  rw [pre_cons, pre_cons, pre_cons, pre_cons, pre_nil]
  show (isAt s i 60 && (isAt s (i + 1) 33 && (isAt s (i + 1 + 1) 45 && (isAt s (i + 1 + 1 + 1) 45 && true)))) = _
  unfold kindAt
  cases h1 : isAt s i 60
  · simp
  · cases h2 : isAt s (i + 1) 33
    · simp only [if_true, Bool.false_eq_true, if_false, Bool.true_and, Bool.false_and]
      repeat' split
      all_goals simp
    · cases h3 : isAt s (i + 2) 45
      · rfl
      · cases h4 : isAt s (i + 3) 45 <;> rfl
theorem kind_60 {s : ByteArray} {i : Nat} (h : kindAt s i ≠ 0) : isAt s i 60 = true := by
  cases h1 : isAt s i 60
  · exact absurd (by simp [kindAt, h1]) h
  · rfl
/-- the second byte of a token -/
theorem kind_two {s : ByteArray} {i : Nat} (h : kindAt s i ≠ 0) : i + 1 < s.size ∧ (kindAt s i = 2 → (nAt s (i + 1) = 33 ∨ nAt s (i + 1) = 63)) ∧ (kindAt s i = 3 → nAt s (i + 1) = 47 ∧ i + 2 < s.size) ∧ (kindAt s i = 4 → isLetterP (nAt s (i + 1)) = true) := by
  have h0 := kind_60 h
  unfold kindAt at h ⊢
  rw [if_pos h0] at h ⊢
  cases h2 : isAt s (i + 1) 33
  · rw [if_neg (by simp [h2])] at h ⊢
    cases h3 : isAt s (i + 1) 63
    · rw [if_neg (by simp [h3])] at h ⊢
      cases h4 : isAt s (i + 1) 47
      · rw [if_neg (by simp [h4])] at h ⊢
        cases h5 : letAt s (i + 1)
        · rw [if_neg (by simp [h5])] at h; exact absurd rfl h
        · have := letAt_lt h5
          simp [this.1, this.2]
      · rw [if_pos h4] at h
        rw [if_pos rfl]
        have h6 := isAt_lt h4
        cases h5 : letAt s (i + 2)
        · rw [if_neg (by simp [h5])] at h; exact absurd rfl h
        · have := letAt_lt h5
          simp [this.1, h6.1, h6.2]
    · have h6 := isAt_lt h3
      rw [if_pos rfl]
      simp [h6.1, h6.2]
  · have h6 := isAt_lt h2
    rw [if_pos rfl]
    split <;> simp [h6.1, h6.2]
theorem kind_or {s : ByteArray} {i : Nat} (h : kindAt s i ≠ 0) : kindAt s i = 1 ∨ kindAt s i = 2 ∨ kindAt s i = 3 ∨ kindAt s i = 4 := by
  unfold kindAt at h ⊢
  repeat' split
  all_goals simp_all
/-- an own row, based lower -/
theorem own_low {w : World} {B B' K n : Nat} {e : TypeId} {v : Value} {xs : List Value} (h : w.ownsRow B' e K v n xs) (hB : B ≤ B') : w.ownsRow B e K v n xs := by
  obtain ⟨hl, h2⟩ := h
  rcases h2 with h2 | ⟨g, cap, cur, h1, h3, h4⟩
  · exact ⟨hl, Or.inl h2⟩
  · exact ⟨hl, Or.inr ⟨g, cap, cur, h1, Nat.le_trans hB h3, h4⟩⟩
theorem upTo_v (B bx : Nat) (s : ByteArray) (i nx : Nat) (ov : Value) (t tx : ByteArray) (tl : List UInt8) (w : World) (hX : ScanAt w bx s i ov) (hi : i ≤ s.size) (hs : s.size ≤ 1048576) (ht : t.size ≤ 3) (hm : MaxT B w) (hl : t.data.toList = tl) (hx : s.extract i (upE s i tl) = tx) (hn : upN s i tl = nx) :
    Calls Tryz.prog 81 #[.pointer (some ⟨bx, 0, none⟩), .string t] w fun e w' => e = .returned (.string tx) ∧ ScanAt w' bx s nx ov ∧ GrownX (fun x => x = bx) w w' := by
  subst hl hx hn
  exact upTo_q B bx s i ov t w hX hi hs ht hm
theorem nameT_v (bx : Nat) (s nm : ByteArray) (i k : Nat) (ov : Value) (w : World) (hX : ScanAt w bx s i ov) (hi : i ≤ s.size) (hs : s.size ≤ 1048576) (hk : skipTo tagN s i = k) (hn : lowBA (s.extract i k) = nm) :
    Calls Tryz.prog 82 #[.pointer (some ⟨bx, 0, none⟩), .func (.func 83) #[] #[]] w fun e w' => e = .returned (.string nm) ∧ ScanAt w' bx s k ov ∧ GrownX (fun x => x = bx) w w' := by
  subst hk hn
  exact nameT_q bx s i ov w hX hi hs
/-- the tokens where the scanner alone has been written -/
theorem ToksOwn.scan {w w' : World} {B bx : Nat} {s : ByteArray} {i : Nat} {ov : Value} {L : List (TokR × Value)} (h : ToksOwn w B ov L) (hX : ScanAt w bx s i ov) (g : GrownX (fun x => x = bx) w w') : ToksOwn w' B ov L :=
  h.keepX g (fun q hq e => h.ne hX (by decide) (by rw [hq, e])) (fun q e cs fz hc => by
    subst e
    rw [show w.heap[q]? = _ from hX] at hc
    cases hc)
/-- one token more -/
theorem More.one {w W W' w6 : World} {B bx g6 k6 : Nat} {s : ByteArray} {j : Nat} {ov : Value} {L : List (TokR × Value)} {x : TokR × Value} (hB : B ≤ bx) (hb : Below B w W) (hX : ScanAt W bx s j ov) (hO : ToksOwn W B ov L)
    (hW : Below W.heap.size W W') (hx : W'.ownsRow B 68 2 x.2 x.1.atts.length (attCells x.1.atts)) (hg : W'.grownBy w6 ov.ownBlock)
    (own6 : w6.ownsRow B 56 5 (.slice (some ⟨g6, 0, none⟩) (L.length + 1) k6) (L.length + 1) (tokCells L ++ tokRow x)) :
    More B bx s j L [x.1] w (w6.setCell ⟨bx, 2, none⟩ (.slice (some ⟨g6, 0, none⟩) (L.length + 1) k6)) := by
  have hO2 := (hO.below hW).push x hx hg own6
  have hX2 : ScanAt W' bx s j ov := CB.below hX hW
  have hne := (hO.below hW).ne hX2 (by decide)
  have hX6 : ScanAt w6 bx s j ov := CB.other hX2 hg (fun e => hne e.symm)
  have hBW : B ≤ W.heap.size := by have := CB.lt hX; omega
  refine ⟨_, [x], rfl, CB.put hX6 2 _, hO2.box hX6 (hO2.ne hX6 (by decide)) (by decide) _, Below.setCell (p := ⟨bx, 2, none⟩) (hb.trans ((hW.mono hBW).trans (below_of_grown hg (by have := hW.size; omega) (fun q hq => own_block_ge (hO.below hW).row q hq)))) hB _⟩
theorem More.trans {B bx : Nat} {s : ByteArray} {i j : Nat} {L : List (TokR × Value)} {a b : List TokR} {w w1 w2 : World} (h : More B bx s i L a w w1)
    (k : ∀ (ov : Value) (N : List (TokR × Value)), N.map (·.1) = a → ScanAt w1 bx s i ov → ToksOwn w1 B ov (L ++ N) → More B bx s j (L ++ N) b w1 w2) : More B bx s j L (a ++ b) w w2 := by
  obtain ⟨ov, N, h1, h2, h3, h4⟩ := h
  obtain ⟨ov2, N2, k1, k2, k3, k4⟩ := k ov N h1 h2 h3
  exact ⟨ov2, N ++ N2, by rw [List.map_append, h1, k1], k2, by rw [← List.append_assoc]; exact k3, h4.trans k4⟩

set_option maxRecDepth 100000 in
set_option maxHeartbeats 40000000 in
theorem token_q (B bx : Nat) (s : ByteArray) (i : Nat) (ov : Value) (L : List (TokR × Value)) (w : World) (hX : ScanAt w bx s i ov) (hO : ToksOwn w B ov L) (hB : B ≤ bx) (hs : s.size ≤ 1048576) (hL : L.length ≤ 1048570) (hm : MaxT B w) (hkk : kindAt s i ≠ 0) :
    Calls Tryz.prog 48 #[.pointer (some ⟨bx, 0, none⟩)] w fun e w' => e = .returned (.tuple #[]) ∧ More B bx s (tokN s i) L (tokL s i) w w' := by
  obtain ⟨Ao, co, rfl⟩ := hO.len
  have b0 : w.cell? ⟨bx, 0, none⟩ = some (.string s) := hX.c 0
  have b1 : w.cell? ⟨bx, 1, none⟩ = some (.int .i64 (i : Int)) := hX.c 1
  have b2 : w.cell? ⟨bx, 2, none⟩ = some (.slice Ao L.length co) := hX.c 2
  have bf1 := hX.f 1
  have bf2 := hX.f 2
  have bsh : w.shape? bx = some (97, 3) := hX.sh
  have hlt : bx < w.heap.size := hX.lt
  have hBw : B ≤ w.heap.size := by omega
  have HX := Lib.hid hX; clear hX
  have HO := Lib.hid hO; clear hO
  have HM := Lib.hid hm; clear hm
  have hk2 := kind_two hkk
  have hi0 : (0 : Int) ≤ (i : Int) := by omega
  have hi1 : (i : Int) ≤ (s.size : Int) := by omega
  have htl := tok_le hkk
  obtain ⟨y, hy⟩ : ∃ y, s.extract i s.size = y := ⟨_, rfl⟩
  have HP := Lib.hid (fun W => by have h9 := Tryz.strings_HasPrefix y ⟨#[60, 33, 45, 45]⟩ W; rw [show (⟨#[60, 33, 45, 45]⟩ : ByteArray).data.toList = [60, 33, 45, 45] from rfl, ← hy, pre_com] at h9; rw [hy] at h9; exact h9.mono (fun _ _ ⟨h1, h2⟩ => ⟨h1, h2.symm⟩) : ∀ W, Calls Tryz.prog 28 #[.string y, .string ⟨#[60, 33, 45, 45]⟩] W fun e w' => e = .returned (.bool (decide (kindAt s i = 1))) ∧ W = w')
  have hyz : y.size = s.size - i := by rw [← hy]; exact ext_size s (Nat.le_refl _)
  have hy1 : 1 < y.size := by omega
  have hy1' : (1 : Int) < (y.size : Int) := by omega
  have ey : ((y[1]'hy1).toNat : Int) = nAt s (i + 1) := by
    rw [bAt_idx hy1]
    unfold nAt
    congr 1
    rw [← hy, bAt, bAt, drop_list, List.getD_eq_getElem?_getD, List.getD_eq_getElem?_getD, List.getElem?_drop]
  obtain ⟨n1, hn1⟩ : ∃ n, nAt s (i + 1) = n := ⟨_, rfl⟩
  rw [hn1] at ey hk2
  clear hyz
  rcases kind_or hkk with hkd | hkd | hkd | hkd
  · have hk4 : i + 4 ≤ s.size := by
      have h9 := htl.2
      rw [tokAt, hkd] at h9
      simp only at h9
      have h3 := pre_com s i
      rw [hkd] at h3
      have h4 := prefix_len h3
      rw [size_toList, ext_size s (Nat.le_refl _)] at h4
      simp at h4
      omega
    have HP := Lib.hid (fun W => by have h9 := HP.out W; rw [hkd] at h9; exact h9 : ∀ W, Calls Tryz.prog 28 #[.string y, .string ⟨#[60, 33, 45, 45]⟩] W fun e w' => e = .returned (.bool true) ∧ W = w')
    clear hkk hk2 ey hy1 hy1' htl
    have hle := upE_le (s := s) (i := i + 4) (t := [45, 45, 62]) (by omega)
    obtain ⟨tx, htx⟩ : ∃ tx, s.extract (i + 4) (upE s (i + 4) [45, 45, 62]) = tx := ⟨_, rfl⟩
    obtain ⟨nx, hnx⟩ : ∃ nx, upN s (i + 4) [45, 45, 62] = nx := ⟨_, rfl⟩
    have HTx := Lib.hid htx
    have HNx := Lib.hid hnx
    have HTk := Lib.hid (show tokAt s i = (⟨4, i, ⟨#[]⟩, tx, []⟩, nx) by simp only [tokAt, hkd, htx, hnx])
    clear htx hnx hle hkd
    go_enter Tryz.func48, Tryz.ntmps48
    go_wp2_with (go_at_call 28; go_must (refine (HP.out _).mono ?_); rintro e w1 ⟨rfl, rfl⟩)
    obtain ⟨W1, hW⟩ : ∃ W, w.setCell ⟨bx, 1, none⟩ (.int .i64 ((i : Int) + 4)) = W := ⟨_, rfl⟩
    have HX1 := Lib.hid (show ScanAt W1 bx s (i + 4) (.slice Ao L.length co) by rw [← hW]; exact HX.out.go0 _ (by omega))
    have HG1 := Lib.hid (show GrownX (fun x => x = bx) w W1 by rw [← hW]; exact GrownX.one0 _ _ _ _)
    have HO1 := Lib.hid (HO.out.scan HX.out HG1.out)
    have HM1 := Lib.hid (HM.out.keep (HG1.out.below hBw (fun x e => by omega)))
    rw [hW]
    clear b0 b1 b2 bf1 bf2 bsh hlt
    clear hW
    have b0 : W1.cell? ⟨bx, 0, none⟩ = some (.string s) := HX1.out.c 0
    have b1 : W1.cell? ⟨bx, 1, none⟩ = some (.int .i64 (((i + 4 : Nat)) : Int)) := HX1.out.c 1
    have b2 : W1.cell? ⟨bx, 2, none⟩ = some (.slice Ao L.length co) := HX1.out.c 2
    have bf1 := HX1.out.f 1
    have bf2 := HX1.out.f 2
    have bsh : W1.shape? bx = some (97, 3) := HX1.out.sh
    have hlt : bx < W1.heap.size := HX1.out.lt
    go_region_law (first
      | (refine step_pushT rfl (.tmp 64) (.tmp 69) 50 rfl B 56 _ 5 72 Tryz.underlying50 info_tok rfl (by omega) (.slice Ao L.length co) L.length _ (by simp [Act.eval]) (own_alloc HO5.out.row _) (tokRow (⟨4, i, ⟨#[]⟩, tx, []⟩, .slice none 0 0)) rfl _ (by simp [Act.eval]) (cell_new _ (tokRow (⟨4, i, ⟨#[]⟩, tx, []⟩, .slice none 0 0)) 56 _ rfl) (by intro u hu; simp [tokRow] at hu; rcases hu with rfl | rfl | rfl | rfl | rfl <;> rfl) (by omega) (by unfold maxLen; omega) (by have := HX5.out.lt; simp; omega) ?_
         intro g6 k6 w6 own6 hg6 hgg6 hb6
         have HF6 := Lib.hid (More.one (x := (⟨4, i, ⟨#[]⟩, tx, []⟩, .slice none 0 0)) hB (HG5.out.below hBw (fun x e => by omega)) HX5.out HO5.out ((Below.refl _ _).alloc (Nat.le_refl _) (.cells (tokRow (⟨4, i, ⟨#[]⟩, tx, []⟩, .slice none 0 0)).toArray 56)) (World.ownsRow_nil _ _ _ _) hg6 own6)
         have HX6 := Lib.hid (CB.other (CB.alloc HX5.out (.cells (tokRow (⟨4, i, ⟨#[]⟩, tx, []⟩, .slice none 0 0)).toArray 56)) hg6 (fun e => HO5.out.ne HX5.out (by decide) e.symm))
         clear own6 hg6 hgg6 hb6
         have u2 : w6.cell? ⟨bx, 2, none⟩ = some (.slice Ao L.length co) := HX6.out.c 2
         have u2f := HX6.out.f 2
         have u2s : w6.shape? bx = some (97, 3) := HX6.out.sh)
      | (go_simp
         go_at_call 81
         refine (upTo_v B bx s (i + 4) nx _ ⟨#[45, 45, 62]⟩ tx [45, 45, 62] _ HX1.out.drew (by omega) hs (by decide) (HM1.out.drewN 1) rfl HTx.out HNx.out).mono ?_
         rintro e w5 ⟨rfl, hx5, hg5⟩
         have HX5 := Lib.hid hx5
         have HG5 := Lib.hid (HG1.out.drew.trans hg5)
         have HO5 := Lib.hid (HO.out.scan HX.out HG5.out)
         clear hx5 hg5
         have c2 : w5.cell? ⟨bx, 2, none⟩ = some (.slice Ao L.length co) := HX5.out.c 2
         have c2l : bx < w5.heap.size := HX5.out.lt))
    all_goals
      try go_wp2_with fail
      go_end0
      refine ⟨rfl, ?_⟩
      have h9 := HF6.out
      rw [tokL, tokN, HTk.out]
      exact h9
  · have h33 := hk2.2.1 hkd
    have hk4 : i + 2 ≤ s.size := by omega
    have HP := Lib.hid (fun W => by have h9 := HP.out W; rw [hkd] at h9; exact h9 : ∀ W, Calls Tryz.prog 28 #[.string y, .string ⟨#[60, 33, 45, 45]⟩] W fun e w' => e = .returned (.bool false) ∧ W = w')
    clear hkk hk2 htl
    rcases h33 with h33 | h33
    · subst h33
      have hle := upE_le (s := s) (i := i + 2) (t := [62]) (by omega)
      obtain ⟨tx, htx⟩ : ∃ tx, s.extract (i + 2) (upE s (i + 2) [62]) = tx := ⟨_, rfl⟩
      obtain ⟨nx, hnx⟩ : ∃ nx, upN s (i + 2) [62] = nx := ⟨_, rfl⟩
      have HTx := Lib.hid htx
      have HNx := Lib.hid hnx
      have HTk := Lib.hid (show tokAt s i = (⟨5, i, ⟨#[]⟩, tx, []⟩, nx) by simp only [tokAt, hkd, htx, hnx])
      clear htx hnx hle hkd
      go_enter Tryz.func48, Tryz.ntmps48
      go_wp2_with (go_at_call 28; go_must (refine (HP.out _).mono ?_); rintro e w1 ⟨rfl, rfl⟩)
      obtain ⟨W1, hW⟩ : ∃ W, w.setCell ⟨bx, 1, none⟩ (.int .i64 ((i : Int) + 2)) = W := ⟨_, rfl⟩
      have HX1 := Lib.hid (show ScanAt W1 bx s (i + 2) (.slice Ao L.length co) by rw [← hW]; exact HX.out.go0 _ (by omega))
      have HG1 := Lib.hid (show GrownX (fun x => x = bx) w W1 by rw [← hW]; exact GrownX.one0 _ _ _ _)
      have HO1 := Lib.hid (HO.out.scan HX.out HG1.out)
      have HM1 := Lib.hid (HM.out.keep (HG1.out.below hBw (fun x e => by omega)))
      rw [hW]
      clear b0 b1 b2 bf1 bf2 bsh hlt
      clear hW
      have b0 : W1.cell? ⟨bx, 0, none⟩ = some (.string s) := HX1.out.c 0
      have b1 : W1.cell? ⟨bx, 1, none⟩ = some (.int .i64 (((i + 2 : Nat)) : Int)) := HX1.out.c 1
      have b2 : W1.cell? ⟨bx, 2, none⟩ = some (.slice Ao L.length co) := HX1.out.c 2
      have bf1 := HX1.out.f 1
      have bf2 := HX1.out.f 2
      have bsh : W1.shape? bx = some (97, 3) := HX1.out.sh
      have hlt : bx < W1.heap.size := HX1.out.lt
      go_region_law (first
        | (refine step_pushT rfl (.tmp 93) (.tmp 98) 50 rfl B 56 _ 5 72 Tryz.underlying50 info_tok rfl (by omega) (.slice Ao L.length co) L.length _ (by simp [Act.eval]) (own_alloc HO5.out.row _) (tokRow (⟨5, i, ⟨#[]⟩, tx, []⟩, .slice none 0 0)) rfl _ (by simp [Act.eval]) (cell_new _ (tokRow (⟨5, i, ⟨#[]⟩, tx, []⟩, .slice none 0 0)) 56 _ rfl) (by intro u hu; simp [tokRow] at hu; rcases hu with rfl | rfl | rfl | rfl | rfl <;> rfl) (by omega) (by unfold maxLen; omega) (by have := HX5.out.lt; simp; omega) ?_
           intro g6 k6 w6 own6 hg6 hgg6 hb6
           have HF6 := Lib.hid (More.one (x := (⟨5, i, ⟨#[]⟩, tx, []⟩, .slice none 0 0)) hB (HG5.out.below hBw (fun x e => by omega)) HX5.out HO5.out ((Below.refl _ _).alloc (Nat.le_refl _) (.cells (tokRow (⟨5, i, ⟨#[]⟩, tx, []⟩, .slice none 0 0)).toArray 56)) (World.ownsRow_nil _ _ _ _) hg6 own6)
           have HX6 := Lib.hid (CB.other (CB.alloc HX5.out (.cells (tokRow (⟨5, i, ⟨#[]⟩, tx, []⟩, .slice none 0 0)).toArray 56)) hg6 (fun e => HO5.out.ne HX5.out (by decide) e.symm))
           clear own6 hg6 hgg6 hb6
           have u2 : w6.cell? ⟨bx, 2, none⟩ = some (.slice Ao L.length co) := HX6.out.c 2
           have u2f := HX6.out.f 2
           have u2s : w6.shape? bx = some (97, 3) := HX6.out.sh)
        | (go_simp
           go_at_call 81
           refine (upTo_v B bx s (i + 2) nx _ ⟨#[62]⟩ tx [62] _ HX1.out.drew (by omega) hs (by decide) (HM1.out.drewN 1) rfl HTx.out HNx.out).mono ?_
           rintro e w5 ⟨rfl, hx5, hg5⟩
           have HX5 := Lib.hid hx5
           have HG5 := Lib.hid (HG1.out.drew.trans hg5)
           have HO5 := Lib.hid (HO.out.scan HX.out HG5.out)
           clear hx5 hg5
           have c2 : w5.cell? ⟨bx, 2, none⟩ = some (.slice Ao L.length co) := HX5.out.c 2
           have c2l : bx < w5.heap.size := HX5.out.lt))
      all_goals
        try go_wp2_with fail
        go_end0
        refine ⟨rfl, ?_⟩
        have h9 := HF6.out
        rw [tokL, tokN, HTk.out]
        exact h9
    · subst h33
      have hle := upE_le (s := s) (i := i + 2) (t := [62]) (by omega)
      obtain ⟨tx, htx⟩ : ∃ tx, s.extract (i + 2) (upE s (i + 2) [62]) = tx := ⟨_, rfl⟩
      obtain ⟨nx, hnx⟩ : ∃ nx, upN s (i + 2) [62] = nx := ⟨_, rfl⟩
      have HTx := Lib.hid htx
      have HNx := Lib.hid hnx
      have HTk := Lib.hid (show tokAt s i = (⟨5, i, ⟨#[]⟩, tx, []⟩, nx) by simp only [tokAt, hkd, htx, hnx])
      clear htx hnx hle hkd
      go_enter Tryz.func48, Tryz.ntmps48
      go_wp2_with (go_at_call 28; go_must (refine (HP.out _).mono ?_); rintro e w1 ⟨rfl, rfl⟩)
      obtain ⟨W1, hW⟩ : ∃ W, w.setCell ⟨bx, 1, none⟩ (.int .i64 ((i : Int) + 2)) = W := ⟨_, rfl⟩
      have HX1 := Lib.hid (show ScanAt W1 bx s (i + 2) (.slice Ao L.length co) by rw [← hW]; exact HX.out.go0 _ (by omega))
      have HG1 := Lib.hid (show GrownX (fun x => x = bx) w W1 by rw [← hW]; exact GrownX.one0 _ _ _ _)
      have HO1 := Lib.hid (HO.out.scan HX.out HG1.out)
      have HM1 := Lib.hid (HM.out.keep (HG1.out.below hBw (fun x e => by omega)))
      rw [hW]
      clear b0 b1 b2 bf1 bf2 bsh hlt
      clear hW
      have b0 : W1.cell? ⟨bx, 0, none⟩ = some (.string s) := HX1.out.c 0
      have b1 : W1.cell? ⟨bx, 1, none⟩ = some (.int .i64 (((i + 2 : Nat)) : Int)) := HX1.out.c 1
      have b2 : W1.cell? ⟨bx, 2, none⟩ = some (.slice Ao L.length co) := HX1.out.c 2
      have bf1 := HX1.out.f 1
      have bf2 := HX1.out.f 2
      have bsh : W1.shape? bx = some (97, 3) := HX1.out.sh
      have hlt : bx < W1.heap.size := HX1.out.lt
      go_region_law (first
        | (refine step_pushT rfl (.tmp 93) (.tmp 98) 50 rfl B 56 _ 5 72 Tryz.underlying50 info_tok rfl (by omega) (.slice Ao L.length co) L.length _ (by simp [Act.eval]) (own_alloc HO5.out.row _) (tokRow (⟨5, i, ⟨#[]⟩, tx, []⟩, .slice none 0 0)) rfl _ (by simp [Act.eval]) (cell_new _ (tokRow (⟨5, i, ⟨#[]⟩, tx, []⟩, .slice none 0 0)) 56 _ rfl) (by intro u hu; simp [tokRow] at hu; rcases hu with rfl | rfl | rfl | rfl | rfl <;> rfl) (by omega) (by unfold maxLen; omega) (by have := HX5.out.lt; simp; omega) ?_
           intro g6 k6 w6 own6 hg6 hgg6 hb6
           have HF6 := Lib.hid (More.one (x := (⟨5, i, ⟨#[]⟩, tx, []⟩, .slice none 0 0)) hB (HG5.out.below hBw (fun x e => by omega)) HX5.out HO5.out ((Below.refl _ _).alloc (Nat.le_refl _) (.cells (tokRow (⟨5, i, ⟨#[]⟩, tx, []⟩, .slice none 0 0)).toArray 56)) (World.ownsRow_nil _ _ _ _) hg6 own6)
           have HX6 := Lib.hid (CB.other (CB.alloc HX5.out (.cells (tokRow (⟨5, i, ⟨#[]⟩, tx, []⟩, .slice none 0 0)).toArray 56)) hg6 (fun e => HO5.out.ne HX5.out (by decide) e.symm))
           clear own6 hg6 hgg6 hb6
           have u2 : w6.cell? ⟨bx, 2, none⟩ = some (.slice Ao L.length co) := HX6.out.c 2
           have u2f := HX6.out.f 2
           have u2s : w6.shape? bx = some (97, 3) := HX6.out.sh)
        | (go_simp
           go_at_call 81
           refine (upTo_v B bx s (i + 2) nx _ ⟨#[62]⟩ tx [62] _ HX1.out.drew (by omega) hs (by decide) (HM1.out.drewN 1) rfl HTx.out HNx.out).mono ?_
           rintro e w5 ⟨rfl, hx5, hg5⟩
           have HX5 := Lib.hid hx5
           have HG5 := Lib.hid (HG1.out.drew.trans hg5)
           have HO5 := Lib.hid (HO.out.scan HX.out HG5.out)
           clear hx5 hg5
           have c2 : w5.cell? ⟨bx, 2, none⟩ = some (.slice Ao L.length co) := HX5.out.c 2
           have c2l : bx < w5.heap.size := HX5.out.lt))
      all_goals
        try go_wp2_with fail
        go_end0
        refine ⟨rfl, ?_⟩
        have h9 := HF6.out
        rw [tokL, tokN, HTk.out]
        exact h9
  · have h47 := hk2.2.2.1 hkd
    have hk4 : i + 2 ≤ s.size := by omega
    have HP := Lib.hid (fun W => by have h9 := HP.out W; rw [hkd] at h9; exact h9 : ∀ W, Calls Tryz.prog 28 #[.string y, .string ⟨#[60, 33, 45, 45]⟩] W fun e w' => e = .returned (.bool false) ∧ W = w')
    obtain ⟨h47, _⟩ := h47
    clear hkk hk2 htl
    subst h47
    obtain ⟨k, hk⟩ : ∃ k, skipTo tagN s (i + 2) = k := ⟨_, rfl⟩
    have hkl := skip_le (p := tagN) (s := s) (i := i + 2) (by omega)
    rw [hk] at hkl
    obtain ⟨nm, hnm⟩ : ∃ nm, lowBA (s.extract (i + 2) k) = nm := ⟨_, rfl⟩
    obtain ⟨tx, htx⟩ : ∃ tx, s.extract k (upE s k [62]) = tx := ⟨_, rfl⟩
    obtain ⟨nx, hnx⟩ : ∃ nx, upN s k [62] = nx := ⟨_, rfl⟩
    have HK := Lib.hid hk
    have HNm := Lib.hid hnm
    have HTx := Lib.hid htx
    have HNx := Lib.hid hnx
    have HTk := Lib.hid (show tokAt s i = (⟨3, i, nm, ⟨#[]⟩, []⟩, nx) by simp only [tokAt, hkd, hk, hnm, hnx])
    clear hk hnm htx hnx hkd
    have HX1 := Lib.hid (show ScanAt (w.setCell ⟨bx, 1, none⟩ (.int .i64 ((i : Int) + 2))) bx s (i + 2) (.slice Ao L.length co) from HX.out.go0 _ (by omega))
    have HG1 := Lib.hid (GrownX.one0 w bx 1 (.int .i64 ((i : Int) + 2)))
    go_enter Tryz.func48, Tryz.ntmps48
    go_wp2_with (first
      | (go_at_call 28; go_must (refine (HP.out _).mono ?_); rintro e w1 ⟨rfl, rfl⟩)
      | (go_at_call 82; go_must (refine (nameT_v bx s nm (i + 2) k _ _ HX1.out (by omega) hs HK.out HNm.out).mono ?_); rintro e w3 ⟨rfl, hx3, hg3⟩; have HX3 := Lib.hid hx3; have HG3 := Lib.hid (HG1.out.trans hg3); have HM3 := Lib.hid (HM.out.keep (HG3.out.below hBw (fun x e => by omega))); clear hx3 hg3)
      | (go_at_call 81; go_must (refine (upTo_v B bx s k nx _ ⟨#[62]⟩ tx [62] _ HX3.out (by omega) hs (by decide) HM3.out rfl HTx.out HNx.out).mono ?_); rintro e w5 ⟨rfl, hx5, hg5⟩; have HX5 := Lib.hid hx5; have HG5 := Lib.hid (HG3.out.trans hg5); have HO5 := Lib.hid (HO.out.scan HX.out HG5.out); clear hx5 hg5; have c2 : w5.cell? ⟨bx, 2, none⟩ = some (.slice Ao L.length co) := HX5.out.c 2; have c2l : bx < w5.heap.size := HX5.out.lt)
      | (at_builtin; go_must (refine wpList_push _ rfl (.tmp 121) (.tmp 125) 50 rfl B 56 _ 5 72 Tryz.underlying50 info_tok rfl (by omega) (.slice Ao L.length co) L.length _ rfl (own_alloc HO5.out.row _) (tokRow (⟨3, i, nm, ⟨#[]⟩, []⟩, .slice none 0 0)) rfl _ rfl (cell_new _ (tokRow (⟨3, i, nm, ⟨#[]⟩, []⟩, .slice none 0 0)) 56 _ rfl) (by intro u hu; simp [tokRow] at hu; rcases hu with rfl | rfl | rfl | rfl | rfl <;> rfl) (by omega) (by unfold maxLen; omega) (by have := HX5.out.lt; simp; omega) ?_)
         intro g6 k6 w6 own6 hg6 hgg6 hb6
         have HF6 := Lib.hid (More.one (x := (⟨3, i, nm, ⟨#[]⟩, []⟩, .slice none 0 0)) hB (HG5.out.below hBw (fun x e => by omega)) HX5.out HO5.out ((Below.refl _ _).alloc (Nat.le_refl _) (.cells (tokRow (⟨3, i, nm, ⟨#[]⟩, []⟩, .slice none 0 0)).toArray 56)) (World.ownsRow_nil _ _ _ _) hg6 own6)
         have HX6 := Lib.hid (CB.other (CB.alloc HX5.out (.cells (tokRow (⟨3, i, nm, ⟨#[]⟩, []⟩, .slice none 0 0)).toArray 56)) hg6 (fun e => HO5.out.ne HX5.out (by decide) e.symm))
         clear own6 hg6 hgg6 hb6
         have u2 : w6.cell? ⟨bx, 2, none⟩ = some (.slice Ao L.length co) := HX6.out.c 2
         have u2f := HX6.out.f 2
         have u2s : w6.shape? bx = some (97, 3) := HX6.out.sh))
    go_end0
    refine ⟨rfl, ?_⟩
    have h9 := HF6.out
    rw [tokL, tokN, HTk.out]
    exact h9
  · have hle := hk2.2.2.2 hkd
    have hk4 : i + 1 ≤ s.size := by omega
    have HP := Lib.hid (fun W => by have h9 := HP.out W; rw [hkd] at h9; exact h9 : ∀ W, Calls Tryz.prog 28 #[.string y, .string ⟨#[60, 33, 45, 45]⟩] W fun e w' => e = .returned (.bool false) ∧ W = w')
    have z33 : (n1 == 33) = false := by rw [beq_eq_false_iff_ne]; rintro rfl; simp [isLetterP] at hle
    have z63 : (n1 == 63) = false := by rw [beq_eq_false_iff_ne]; rintro rfl; simp [isLetterP] at hle
    have z47 : (n1 == 47) = false := by rw [beq_eq_false_iff_ne]; rintro rfl; simp [isLetterP] at hle
    clear hkk hk2 htl hle
    obtain ⟨k, hk⟩ : ∃ k, skipTo tagN s (i + 1) = k := ⟨_, rfl⟩
    have hkl := skip_le (p := tagN) (s := s) (i := i + 1) (by omega)
    rw [hk] at hkl
    obtain ⟨nm, hnm⟩ : ∃ nm, lowBA (s.extract (i + 1) k) = nm := ⟨_, rfl⟩
    obtain ⟨D, j, hat⟩ : ∃ D j, attsV s k = (D, j) := ⟨_, _, rfl⟩
    have hjl := attsV_le (s := s) (i := k) hkl.2
    rw [hat] at hjl
    simp only at hjl
    obtain ⟨m, hm1⟩ : ∃ m, min (j + 1) s.size = m := ⟨_, rfl⟩
    have HK := Lib.hid hk
    have HNm := Lib.hid hnm
    have HAt := Lib.hid hat
    have HMi := Lib.hid hm1
    have HTk := Lib.hid (show tokAt s i = (⟨2, i, nm, ⟨#[]⟩, D⟩, m) by simp only [tokAt, hkd, hk, hnm, hat, hm1])
    have hnz : nm.size ≤ s.size := by rw [← hnm, lowBA_size, ext_size s (by omega)]; omega
    have hml : m ≤ s.size := by omega
    obtain ⟨rb, hrb⟩ : ∃ b, rawB nm = b := ⟨_, rfl⟩
    have HRb := Lib.hid hrb
    obtain ⟨eb, heb⟩ : ∃ b, decide (j < s.size) = b := ⟨_, rfl⟩
    have HEb := Lib.hid heb
    clear hk hnm hat hm1 hrb heb hkd
    have HX1 := Lib.hid (show ScanAt (w.setCell ⟨bx, 1, none⟩ (.int .i64 ((i : Int) + 1))) bx s (i + 1) (.slice Ao L.length co) from HX.out.go0 _ (by omega))
    have HG1 := Lib.hid (GrownX.one0 w bx 1 (.int .i64 ((i : Int) + 1)))
    go_enter Tryz.func48, Tryz.ntmps48
    go_wp2_with (first
      | (go_at_call 28; go_must (refine (HP.out _).mono ?_); rintro e w1 ⟨rfl, rfl⟩)
      | (go_at_call 82; go_must (refine (nameT_v bx s nm (i + 1) k _ _ HX1.out (by omega) hs HK.out HNm.out).mono ?_); rintro e w3 ⟨rfl, hx3, hg3⟩; have HX3 := Lib.hid hx3; have HG3 := Lib.hid (HG1.out.trans hg3); clear hx3 hg3))
    obtain ⟨tb, htb⟩ : ∃ tb, w3.heap.size = tb := ⟨_, rfl⟩
    obtain ⟨W4, hW⟩ : ∃ W, w3.alloc (.cells #[.int .i64 2, .int .i64 (i : Int), .string nm, .string ⟨#[]⟩, .slice none 0 0] 56) = W := ⟨_, rfl⟩
    have HT4 := Lib.hid (show CB W4 tb 56 #[.int .i64 2, .int .i64 (i : Int), .string nm, .string ⟨#[]⟩, .slice none 0 0] by rw [← hW, ← htb]; exact CB.new _ _ _)
    have HX4 := Lib.hid (show ScanAt W4 bx s k (.slice Ao L.length co) by rw [← hW]; exact CB.alloc HX3.out _)
    have HG4 := Lib.hid (show GrownX (fun x => x = bx) w W4 by rw [← hW]; exact HG3.out.alloc _)
    have HO3 := Lib.hid (HO.out.scan HX.out HG3.out)
    have hov : ∀ g, (Value.slice Ao L.length co).ownBlock = some g → g < tb := by rw [← htb]; exact own_lt HO3.out.row
    have HO4 := Lib.hid (HO.out.scan HX.out HG4.out)
    have hbt : bx < tb := by rw [← htb]; exact HX3.out.lt
    have HM4 := Lib.hid (HM.out.keep (HG4.out.below hBw (fun x e => by omega)))
    rw [hW, htb]
    clear b0 b1 b2 bf1 bf2 bsh hlt
    clear hW htb HX1 HX3 HO3
    refine (attrs_q B bx tb s k (.slice Ao L.length co) 2 (i : Int) nm ⟨#[]⟩ W4 HX4.out HT4.out (by omega) hB (by omega) (by omega) hs HM4.out).mono ?_
    rintro e w5 ⟨A, c, rfl, hS5, hb5⟩
    rw [HAt.out] at hS5 ⊢
    simp only at hS5
    rw [HMi.out] at hS5
    simp only [HEb.out]
    have HS5 := Lib.hid hS5
    clear hS5
    have HO5 := Lib.hid (HO4.out.keepX HS5.out.gr (fun g hg e => by
      rcases e with e | e
      · exact HO4.out.ne HX4.out (by decide) (by rw [hg, e])
      · have := hov g hg; omega) (fun g e cs fz hc => by
      rcases e with e | e
      · subst e; rw [show W4.heap[g]? = _ from HX4.out] at hc; cases hc
      · subst e; rw [show W4.heap[g]? = _ from HT4.out] at hc; cases hc))
    have HB5 := Lib.hid ((HG4.out.below hBw (fun x e => by omega)).trans hb5)
    clear hb5 HO4 HT4 HX4 HM4
    have hNB : B ≤ W4.heap.size := by have := HG4.out.size; omega
    have b0 : w5.cell? ⟨bx, 0, none⟩ = some (.string s) := HS5.out.sc.c 0
    have b1 : w5.cell? ⟨bx, 1, none⟩ = some (.int .i64 (m : Int)) := HS5.out.sc.c 1
    have b2 : w5.cell? ⟨bx, 2, none⟩ = some (.slice Ao L.length co) := HS5.out.sc.c 2
    have bf1 := HS5.out.sc.f 1
    have bf2 := HS5.out.sc.f 2
    have bsh : w5.shape? bx = some (97, 3) := HS5.out.sc.sh
    have hlt : bx < w5.heap.size := HS5.out.sc.lt
    have t0 : w5.cell? ⟨tb, 0, none⟩ = some (.int .i64 2) := HS5.out.tk.c 0
    have t1 : w5.cell? ⟨tb, 1, none⟩ = some (.int .i64 (i : Int)) := HS5.out.tk.c 1
    have t2 : w5.cell? ⟨tb, 2, none⟩ = some (.string nm) := HS5.out.tk.c 2
    have t3 : w5.cell? ⟨tb, 3, none⟩ = some (.string ⟨#[]⟩) := HS5.out.tk.c 3
    have t4 : w5.cell? ⟨tb, 4, none⟩ = some (.slice A D.length c) := HS5.out.tk.c 4
    have ttl : tb < w5.heap.size := HS5.out.tk.lt
    go_wp2_with fail
    go_region_law (refine step_pushT rfl (.tmp 34) (.tmp 36) 50 rfl B 56 _ 5 72 Tryz.underlying50 info_tok rfl (by omega) (.slice Ao L.length co) L.length _ (by simp [Act.eval]) (own_alloc (own_drew HO5.out.row) _) (tokRow (⟨2, i, nm, ⟨#[]⟩, D⟩, .slice A D.length c)) rfl _ (by simp [Act.eval]) (cell_new _ (tokRow (⟨2, i, nm, ⟨#[]⟩, D⟩, .slice A D.length c)) 56 _ rfl) (by intro u hu; simp [tokRow] at hu; rcases hu with rfl | rfl | rfl | rfl | rfl <;> rfl) (by omega) (by unfold maxLen; omega) (by simp; omega) ?_
                   intro g6 k6 w6 own6 hg6 hgg6 hb6
                   have HF6 := Lib.hid (More.one (x := (⟨2, i, nm, ⟨#[]⟩, D⟩, .slice A D.length c)) hB HB5.out HS5.out.sc HO5.out (((Below.refl _ _).alloc (Nat.le_refl _) (.cells (tokRow (⟨2, i, nm, ⟨#[]⟩, D⟩, .slice A D.length c)).toArray 56)).drew) (own_alloc (own_drew (own_low HS5.out.row hNB)) _) hg6 own6)
                   have HX6 := Lib.hid (show ScanAt w6 bx s m (.slice Ao L.length co) from CB.other ((CB.drew HS5.out.sc).alloc (.cells (tokRow (⟨2, i, nm, ⟨#[]⟩, D⟩, .slice A D.length c)).toArray 56)) hg6 (fun e => HO5.out.ne HS5.out.sc (by decide) e.symm))
                   have HT6 := Lib.hid (CB.other ((CB.drew HS5.out.tk).alloc (.cells (tokRow (⟨2, i, nm, ⟨#[]⟩, D⟩, .slice A D.length c)).toArray 56)) hg6 (fun e => by have := hov tb e.symm; omega))
                   clear own6 hg6 hgg6 hb6
                   have u2 : w6.cell? ⟨bx, 2, none⟩ = some (.slice Ao L.length co) := HX6.out.c 2
                   have u2f := HX6.out.f 2
                   have u2s : w6.shape? bx = some (97, 3) := HX6.out.sh)
    all_goals
      obtain ⟨w7, hW⟩ : ∃ W, w6.setCell ⟨bx, 2, none⟩ (.slice (some ⟨g6, 0, none⟩) (L.length + 1) k6) = W := ⟨_, rfl⟩
      have HT7 := Lib.hid (show CB w7 tb 56 #[.int .i64 2, .int .i64 (i : Int), .string nm, .string ⟨#[]⟩, .slice A D.length c] by rw [← hW]; exact HT6.out.keepX (GrownX.one0 _ _ _ _) (by omega))
      rw [hW] at HF6 ⊢
      clear hW t0 t1 t2 t3 t4 ttl b0 b1 b2 bf1 bf2 bsh hlt HT6 HX6 u2 u2f u2s
      have t2 : w7.cell? ⟨tb, 2, none⟩ = some (.string nm) := HT7.out.c 2
      have ttl : tb < w7.heap.size := HT7.out.lt
      cases eb with
      | false =>
        go_wp2_with fail
        go_end0
        refine ⟨rfl, ?_⟩
        have h9 := HF6.out
        have hjs : m = s.size := by have h1 := of_decide_eq_false HEb.out; have h2 := HMi.out; omega
        have hre : rawEnd s nm m = m := seek_end (by omega)
        rw [tokL, tokN, HTk.out]
        simp only [hre]
        have hch : charsL s m m = [] := by rw [charsL, if_neg (by omega)]
        rw [hch]
        cases rawT ⟨2, i, nm, ⟨#[]⟩, D⟩ <;> exact h9
      | true =>
        cases rb with
        | false =>
          go_wp2_with (go_at_call 85; go_must (refine (isRaw_q nm _ _ HRb.out).mono ?_); rintro e w8 ⟨rfl, rfl⟩)
          go_end0
          refine ⟨rfl, ?_⟩
          have h9 := HF6.out
          have hrt : rawT ⟨2, i, nm, ⟨#[]⟩, D⟩ = false := by simp [rawT, HRb.out]
          rw [tokL, tokN, HTk.out]
          simp only [hrt, Bool.false_eq_true, if_false]
          exact h9
        | true =>
          obtain ⟨ov7, N7, hN7, hX7, hO7, hB7⟩ := HF6.out
          have HX7 := Lib.hid hX7
          have HO7 := Lib.hid hO7
          have HB7 := Lib.hid hB7
          have hNl : N7.length = 1 := by have := congrArg List.length hN7; simpa using this
          have HN7 := Lib.hid hN7
          clear hX7 hO7 hB7 hN7
          go_wp2_with (first
            | (go_at_call 85; go_must (refine (isRaw_q nm _ _ HRb.out).mono ?_); rintro e w8 ⟨rfl, rfl⟩)
            | (go_at_call 86; go_must (refine (raw_q B bx s nm m ov7 (L ++ N7) _ HX7.out HO7.out hB hml hs (by omega) (by rw [List.length_append]; omega)).mono ?_); rintro e w9 ⟨rfl, h9⟩; have H9 := Lib.hid h9; clear h9))
          go_end0
          refine ⟨rfl, ?_⟩
          have hrt : rawT ⟨2, i, nm, ⟨#[]⟩, D⟩ = true := by simp [rawT, HRb.out]
          rw [tokL, tokN, HTk.out]
          simp only [hrt, if_true]
          obtain ⟨ov9, N9, k1, k2, k3, k4⟩ := H9.out
          exact ⟨ov9, N7 ++ N9, by rw [List.map_append, HN7.out, k1]; rfl, k2, by rw [← List.append_assoc]; exact k3, HB7.out.trans k4⟩


end Go.Proofs.YtbhildmalcfhiaaGreatDoor
