/-
  Tokens, by the reference: the token at a byte: mastref1.tokenAt.
-/
import Derived.Test.YtelelpjhepcmbaaGreatTokRAtt
import Derived.Laws.ResultCell
import Derived.Deep.Cut
import Derived.Deep.CutRange
namespace Go.Proofs.YtelelpjhepcmbaaGreat
open Go.RowKit Go.Deep

theorem tok_done {fn : Func} {a : Act} {W : World} {Post : Ending → World → Prop} {n : Nat} {cs : Array Value} {code : Int} (hfn : fn.results = #[.cell 4 35, .tmp 5]) (hb : CB W n 35 cs) (hs : cs.size = 5)
    (hp : a.tmps.getD 4 undef = .pointer (some ⟨n, 0, none⟩)) (hc : a.tmps.getD 5 undef = .int .i64 code) (hd : a.defers = []) (h : Post (.returned (.tuple #[.agg cs, .int .i64 code])) W) : bodyPost Tryz.prog fn Post .ret a W := by
  refine bodyPost_ret ?_ hd h
  rw [results_cell_tmp hfn, hp, hc]
  have h2 := run_loadVar_row (P := Tryz.prog) W n 35 35 cs (0, 0) _ hb Tryz.underlying35 rfl (by rw [hs]; kernel_rfl)
  simp [asAddr, h2, Result.andThen]
theorem kd2 {s : ByteArray} {i : Nat} (h : kindAt s i ≠ 1) : decide (kindAt s i = 2) = (isAt s i 60 && (isAt s (i + 1) 33 || isAt s (i + 1) 63)) := by
  unfold kindAt at h ⊢
  revert h
  cases isAt s i 60 <;> cases isAt s (i + 1) 33 <;> cases isAt s (i + 1) 63 <;> cases isAt s (i + 1) 47 <;> cases letAt s (i + 2) <;> cases letAt s (i + 1) <;> cases isAt s (i + 2) 45 <;> cases isAt s (i + 3) 45 <;> decide
theorem kd3 {s : ByteArray} {i : Nat} (h33 : (isAt s i 60 && isAt s (i + 1) 33) = false) (h63 : (isAt s i 60 && isAt s (i + 1) 63) = false) : decide (kindAt s i = 3) = ((isAt s i 60 && isAt s (i + 1) 47) && letAt s (i + 2)) := by
  unfold kindAt
  cases h0 : isAt s i 60
  · rfl
  · rw [h0, Bool.true_and] at h33 h63
    rw [h33, h63]
    cases isAt s (i + 1) 47 <;> cases letAt s (i + 2) <;> cases letAt s (i + 1) <;> rfl
theorem kd4 {s : ByteArray} {i : Nat} (h33 : (isAt s i 60 && isAt s (i + 1) 33) = false) (h63 : (isAt s i 60 && isAt s (i + 1) 63) = false) (h3 : kindAt s i ≠ 3) : decide (kindAt s i = 4) = (isAt s i 60 && letAt s (i + 1)) := by
  have h47 : isAt s (i + 1) 47 = true → letAt s (i + 1) = false := fun h => by
    have := (isAt_lt h).2
    simp [letAt, this, isLetterP]
  unfold kindAt at h3 ⊢
  cases h0 : isAt s i 60
  · rfl
  · rw [h0, Bool.true_and] at h33 h63
    rw [h0, h33, h63] at h3
    rw [h33, h63]
    cases h5 : isAt s (i + 1) 47
    · cases letAt s (i + 1) <;> rfl
    · rw [h47 h5]
      rw [h5] at h3
      cases h6 : letAt s (i + 2)
      · rfl
      · rw [h6] at h3; exact absurd rfl h3
theorem pre_two (s : ByteArray) (i : Nat) (c d : UInt8) : Lib.hasPrefix (s.extract i s.size).data.toList [c, d] = (isAt s i (c.toNat : Int) && isAt s (i + 1) (d.toNat : Int)) := by
  rw [pre_cons, pre_cons, pre_nil, Bool.and_true]
theorem own_ne_cb {w : World} {B K n b : Nat} {e t : TypeId} {v : Value} {xs : List Value} {cs : Array Value} (h : w.ownsRow B e K v n xs) (hc : CB w b t cs) (ht : t ≠ e) : v.ownBlock ≠ some b := by
  intro e'
  rcases h.2 with ⟨h1, _⟩ | ⟨g, cap, cur, h1, _, hg, _⟩
  · rw [h1] at e'; cases e'
  · rw [h1] at e'
    simp only [Value.ownBlock, Option.some.injEq] at e'
    subst e'
    rw [show w.heap[g]? = _ from hc] at hg
    simp at hg
    exact ht hg.2
theorem ext_two {s : ByteArray} {i : Nat} (h : i + 2 ≤ s.size) : (s.extract i s.size).extract 0 2 = s.extract i (i + 2) := by
  apply Go.WideShapes.bytes_inj
  have h1 : ∀ (z : ByteArray) (a b : Nat), (z.extract a b).data.toList = (z.data.toList.drop a).take (b - a) := fun z a b => by
    rw [ByteArray.data_extract, Array.toList_extract]
  rw [h1, h1, h1, List.drop_zero, List.take_take]
  congr 1
  omega
def TokAtR (B : Nat) (s : ByteArray) (i : Nat) (w : World) (e : Ending) (w' : World) : Prop :=
  ∃ x : TokR × Value, e = .returned (.tuple #[.agg (tokRow x).toArray, .int .i64 ((tokAt s i).2 : Int)]) ∧ x.1 = (tokAt s i).1 ∧ w'.ownsRow B 42 2 x.2 x.1.atts.length (attCells x.1.atts) ∧ Below B w w'
theorem MaxT.up {B C : Nat} {w : World} (h : MaxT B w) (hc : B ≤ C) : MaxT C w := ⟨Nat.lt_of_lt_of_le h.1 hc, h.2⟩
theorem TokAtR.mk {B : Nat} {s : ByteArray} {i nx : Nat} {w w' : World} {x : TokR × Value} (h : tokAt s i = (x.1, nx)) (ho : w'.ownsRow B 42 2 x.2 x.1.atts.length (attCells x.1.atts)) (hb : Below B w w') : TokAtR B s i w (.returned (.tuple #[.agg (tokRow x).toArray, .int .i64 (nx : Int)])) w' :=
  ⟨x, by rw [h], by rw [h], ho, hb⟩

set_option maxRecDepth 100000 in
set_option maxHeartbeats 40000000 in
theorem tokAt_q (B : Nat) (s : ByteArray) (i : Nat) (w : World) (hB : B ≤ w.heap.size) (hi : i < s.size) (hs : s.size ≤ 1048576) (hm : MaxT B w) :
    Calls Tryz.prog 10 #[.string s, .int .i64 (i : Int)] w (TokAtR B s i w) := by
  have HM := Lib.hid hm; clear hm
  have hi0 : (0 : Int) ≤ (i : Int) := by omega
  have hi1 : (i : Int) ≤ (s.size : Int) := by omega
  obtain ⟨y, hy⟩ : ∃ y, s.extract i s.size = y := ⟨_, rfl⟩
  have hyz : y.size = s.size - i := by rw [← hy]; exact ext_size s (Nat.le_refl _)
  have HPc := Lib.hid (show Lib.hasPrefix y.data.toList (⟨#[60, 33, 45, 45]⟩ : ByteArray).data.toList = decide (kindAt s i = 1) by rw [← hy]; exact pre_com s i)
  have HPx := Lib.hid (show Lib.hasPrefix y.data.toList (⟨#[60, 33]⟩ : ByteArray).data.toList = (isAt s i 60 && isAt s (i + 1) 33) by rw [← hy]; exact pre_two s i 60 33)
  have HPq := Lib.hid (show Lib.hasPrefix y.data.toList (⟨#[60, 63]⟩ : ByteArray).data.toList = (isAt s i 60 && isAt s (i + 1) 63) by rw [← hy]; exact pre_two s i 60 63)
  have HYz := Lib.hid hyz
  clear hyz
  go_enter Tryz.func10, Tryz.ntmps10
  go_wp2_with fail
  try rw [hy]
  obtain ⟨W0, hW⟩ : ∃ W, w.alloc (.cells #[.int .i64 0, .int .i64 0, .string ⟨#[]⟩, .string ⟨#[]⟩, .slice none 0 0] 35) = W := ⟨_, rfl⟩
  obtain ⟨n, hn⟩ : ∃ n, w.heap.size = n := ⟨_, rfl⟩
  have HZ := Lib.hid (show CB W0 n 35 #[.int .i64 0, .int .i64 0, .string ⟨#[]⟩, .string ⟨#[]⟩, .slice none 0 0] by rw [← hW, ← hn]; exact CB.new _ _ _)
  have HB0 := Lib.hid (show Below B w W0 by rw [← hW]; exact (Below.refl _ _).alloc hB _)
  have hBn : B ≤ n := by omega
  have HM0 := Lib.hid (HM.out.keep HB0.out)
  try rw [hW]
  try rw [hn]
  clear hW hn
  have r0 : W0.cell? ⟨n, 0, none⟩ = some (.int .i64 0) := HZ.out.c 0
  have r1 : W0.cell? ⟨n, 1, none⟩ = some (.int .i64 0) := HZ.out.c 1
  have r2 : W0.cell? ⟨n, 2, none⟩ = some (.string ⟨#[]⟩) := HZ.out.c 2
  have r3 : W0.cell? ⟨n, 3, none⟩ = some (.string ⟨#[]⟩) := HZ.out.c 3
  have r4 : W0.cell? ⟨n, 4, none⟩ = some (.slice none 0 0) := HZ.out.c 4
  have g0 := HZ.out.f 0
  have g1 := HZ.out.f 1
  have g2 := HZ.out.f 2
  have g3 := HZ.out.f 3
  have g4 := HZ.out.f 4
  have gsh : W0.shape? n = some (35, 5) := HZ.out.sh
  have gl : n < W0.heap.size := HZ.out.lt
  by_cases hk1 : kindAt s i = 1
  · have hkd := hk1
    have hk4 : i + 4 ≤ s.size := by
      have h3 := pre_com s i
      rw [hkd] at h3
      have h4 := prefix_len h3
      rw [size_toList, ext_size s (Nat.le_refl _)] at h4
      simp at h4
      omega
    have HPc := Lib.hid (HPc.out.trans (decide_eq_true hk1))
    clear hk1
    have hle := upE_le (s := s) (i := i + 4) (t := [45, 45, 62]) (by omega)
    obtain ⟨en, hen⟩ : ∃ en, upE s (i + 4) [45, 45, 62] = en := ⟨_, rfl⟩
    obtain ⟨nx, hnx⟩ : ∃ nx, upN s (i + 4) [45, 45, 62] = nx := ⟨_, rfl⟩
    rw [hen, hnx] at hle
    have HEn := Lib.hid hen
    have HNx := Lib.hid hnx
    have HTk := Lib.hid (show tokAt s i = (⟨4, i, ⟨#[]⟩, s.extract (i + 4) en, []⟩, nx) by simp only [tokAt, hkd, hen, hnx])
    have hx1 : (i : Int) + 4 ≤ (en : Int) := by omega
    have hx2 : (en : Int) ≤ (s.size : Int) := by omega
    clear hen hnx hkd
    go_wp2_with (first
      | (go_at_call 15; go_must (refine (hasPre_q y _ _ _ (by first | with_reducible exact HPc.out | with_reducible exact HPx.out | with_reducible exact HPq.out)).mono ?_); rintro e w7 ⟨rfl, rfl⟩)
      | (go_at_call 22; go_must (refine (upToR_q B s ⟨#[45, 45, 62]⟩ [45, 45, 62] (i + 4) en nx _ (by omega) hs (by decide) HM0.out rfl HEn.out HNx.out).mono ?_); rintro e w7 ⟨rfl, rfl⟩))
    refine tok_done rfl (((((HZ.out.put 0 _).put 1 _).put 2 _).put 3 _).put 4 _) rfl rfl rfl rfl ?_
    exact TokAtR.mk (x := (⟨4, i, ⟨#[]⟩, s.extract (i + 4) en, []⟩, .slice none 0 0)) HTk.out (World.ownsRow_nil _ _ _ _) (((((HB0.out.setCell (p := ⟨_, 0, none⟩) hBn _).setCell (p := ⟨_, 1, none⟩) hBn _).setCell (p := ⟨_, 2, none⟩) hBn _).setCell (p := ⟨_, 3, none⟩) hBn _).setCell (p := ⟨_, 4, none⟩) hBn _)
  · have HPc := Lib.hid (HPc.out.trans (decide_eq_false hk1))
    obtain ⟨b33, h33⟩ : ∃ b, (isAt s i 60 && isAt s (i + 1) 33) = b := ⟨_, rfl⟩
    obtain ⟨b63, h63⟩ : ∃ b, (isAt s i 60 && isAt s (i + 1) 63) = b := ⟨_, rfl⟩
    rw [h33] at HPx
    rw [h63] at HPq
    have hkd2 := kd2 hk1
    cases b33 with
    | true =>
      have hkd : kindAt s i = 2 := of_decide_eq_true (by rw [hkd2]; revert h33; cases isAt s i 60 <;> cases isAt s (i + 1) 33 <;> simp)
      have hk4 : i + 2 ≤ s.size := by rw [Bool.and_eq_true] at h33; have := (isAt_lt h33.2).1; omega
      clear hk1 h33 h63 hkd2
      have hle := upE_le (s := s) (i := i + 2) (t := [62]) (by omega)
      obtain ⟨en, hen⟩ : ∃ en, upE s (i + 2) [62] = en := ⟨_, rfl⟩
      obtain ⟨nx, hnx⟩ : ∃ nx, upN s (i + 2) [62] = nx := ⟨_, rfl⟩
      rw [hen, hnx] at hle
      have HEn := Lib.hid hen
      have HNx := Lib.hid hnx
      have HTk := Lib.hid (show tokAt s i = (⟨5, i, ⟨#[]⟩, s.extract (i + 2) en, []⟩, nx) by simp only [tokAt, hkd, hen, hnx])
      have hx1 : (i : Int) + 2 ≤ (en : Int) := by omega
      have hx2 : (en : Int) ≤ (s.size : Int) := by omega
      clear hen hnx hkd
      go_wp2_with (first
        | (go_at_call 15; go_must (refine (hasPre_q y _ _ _ (by first | with_reducible exact HPc.out | with_reducible exact HPx.out | with_reducible exact HPq.out)).mono ?_); rintro e w7 ⟨rfl, rfl⟩)
        | (go_at_call 22; go_must (refine (upToR_q B s ⟨#[62]⟩ [62] (i + 2) en nx _ (by omega) hs (by decide) HM0.out rfl HEn.out HNx.out).mono ?_); rintro e w7 ⟨rfl, rfl⟩))
      refine tok_done rfl (((((HZ.out.put 0 _).put 1 _).put 2 _).put 3 _).put 4 _) rfl rfl rfl rfl ?_
      exact TokAtR.mk (x := (⟨5, i, ⟨#[]⟩, s.extract (i + 2) en, []⟩, .slice none 0 0)) HTk.out (World.ownsRow_nil _ _ _ _) (((((HB0.out.setCell (p := ⟨_, 0, none⟩) hBn _).setCell (p := ⟨_, 1, none⟩) hBn _).setCell (p := ⟨_, 2, none⟩) hBn _).setCell (p := ⟨_, 3, none⟩) hBn _).setCell (p := ⟨_, 4, none⟩) hBn _)
    | false =>
      cases b63 with
      | true =>
        have hkd : kindAt s i = 2 := of_decide_eq_true (by rw [hkd2]; revert h63; cases isAt s i 60 <;> cases isAt s (i + 1) 63 <;> simp)
        have hk4 : i + 2 ≤ s.size := by rw [Bool.and_eq_true] at h63; have := (isAt_lt h63.2).1; omega
        clear hk1 h33 h63 hkd2
        have hle := upE_le (s := s) (i := i + 2) (t := [62]) (by omega)
        obtain ⟨en, hen⟩ : ∃ en, upE s (i + 2) [62] = en := ⟨_, rfl⟩
        obtain ⟨nx, hnx⟩ : ∃ nx, upN s (i + 2) [62] = nx := ⟨_, rfl⟩
        rw [hen, hnx] at hle
        have HEn := Lib.hid hen
        have HNx := Lib.hid hnx
        have HTk := Lib.hid (show tokAt s i = (⟨5, i, ⟨#[]⟩, s.extract (i + 2) en, []⟩, nx) by simp only [tokAt, hkd, hen, hnx])
        have hx1 : (i : Int) + 2 ≤ (en : Int) := by omega
        have hx2 : (en : Int) ≤ (s.size : Int) := by omega
        clear hen hnx hkd
        go_wp2_with (first
          | (go_at_call 15; go_must (refine (hasPre_q y _ _ _ (by first | with_reducible exact HPc.out | with_reducible exact HPx.out | with_reducible exact HPq.out)).mono ?_); rintro e w7 ⟨rfl, rfl⟩)
          | (go_at_call 22; go_must (refine (upToR_q B s ⟨#[62]⟩ [62] (i + 2) en nx _ (by omega) hs (by decide) HM0.out rfl HEn.out HNx.out).mono ?_); rintro e w7 ⟨rfl, rfl⟩))
        refine tok_done rfl (((((HZ.out.put 0 _).put 1 _).put 2 _).put 3 _).put 4 _) rfl rfl rfl rfl ?_
        exact TokAtR.mk (x := (⟨5, i, ⟨#[]⟩, s.extract (i + 2) en, []⟩, .slice none 0 0)) HTk.out (World.ownsRow_nil _ _ _ _) (((((HB0.out.setCell (p := ⟨_, 0, none⟩) hBn _).setCell (p := ⟨_, 1, none⟩) hBn _).setCell (p := ⟨_, 2, none⟩) hBn _).setCell (p := ⟨_, 3, none⟩) hBn _).setCell (p := ⟨_, 4, none⟩) hBn _)
      | false =>
        have hk2 : kindAt s i ≠ 2 := of_decide_eq_false (by rw [hkd2]; revert h33 h63; cases isAt s i 60 <;> cases isAt s (i + 1) 33 <;> cases isAt s (i + 1) 63 <;> simp)
        have hd3 := kd3 h33 h63
        have hd4 := fun h3 => kd4 h33 h63 h3
        clear h33 h63 hkd2
        obtain ⟨v3, hv3⟩ : ∃ v, decide (kindAt s i = 3) = v := ⟨_, rfl⟩
        rw [hv3] at hd3
        have HD3 := Lib.hid hd3
        clear hd3
        go_upto_region 8 with (go_at_call 15; go_must (refine (hasPre_q y _ _ _ (by first | with_reducible exact HPc.out | with_reducible exact HPx.out | with_reducible exact HPq.out)).mono ?_); rintro e w7 ⟨rfl, rfl⟩)
        go_cut [60] from 17 (fun s60 wx => s60 = .bool v3 ∧ wx = W0)
        case first =>
          by_cases h2 : 2 < y.size
          · have h2' : (2 : Int) < (y.size : Int) := by omega
            have hi2 : i + 2 < s.size := by have := HYz.out; omega
            obtain ⟨y2, hy2⟩ : ∃ z, y.extract 0 2 = z := ⟨_, rfl⟩
            obtain ⟨q, hq⟩ : ∃ q, (y2.toList == [60, 47]) = q := ⟨_, rfl⟩
            have hqq : (isAt s i 60 && isAt s (i + 1) 47) = q := by rw [← two_bytes (by omega), ← ext_two (by omega), hy, hy2, hq]
            obtain ⟨n2, hn2⟩ : ∃ n, nAt s (i + 2) = n := ⟨_, rfl⟩
            have ey2 : ((y[2]'h2).toNat : Int) = n2 := by
              rw [bAt_idx h2, ← hn2]
              unfold nAt
              congr 1
              rw [← hy, bAt, bAt, drop_list, List.getD_eq_getElem?_getD, List.getD_eq_getElem?_getD, List.getElem?_drop]
            obtain ⟨l2, hl2⟩ : ∃ l, isLetterP n2 = l := ⟨_, rfl⟩
            have HL2 := Lib.hid hl2
            have HV := Lib.hid (show v3 = (q && l2) by rw [HD3.out, hqq, letAt, decide_eq_true hi2, hn2, hl2, Bool.true_and])
            clear hv3 hqq hn2 hl2
            cases q with
            | false =>
              go_wp2_with fail
              go_meet
              exact ⟨by rw [HV.out]; rfl, rfl⟩
            | true =>
              go_wp2_with (go_at_call 23; go_must (refine (refIsLetter_any n2 _ _ HL2.out).mono ?_); rintro e w7 ⟨rfl, rfl⟩)
              go_meet
              exact ⟨by rw [HV.out]; simp, rfl⟩
          · have h2' : ¬ (2 : Int) < (y.size : Int) := by omega
            have HV := Lib.hid (show v3 = false by rw [HD3.out, letAt, decide_eq_false (by have := HYz.out; omega), Bool.false_and, Bool.and_false])
            clear hv3
            go_wp2_with fail
            go_meet
            exact ⟨by rw [HV.out], rfl⟩
        case rest =>
          obtain ⟨rfl, rfl⟩ := hcut
          cases v3 with
          | true =>
            have hkd : kindAt s i = 3 := of_decide_eq_true hv3
            have hk4 : i + 2 ≤ s.size := by
              have h9 := HD3.out.symm
              rw [Bool.and_eq_true] at h9
              have := (letAt_lt h9.2).1
              omega
            clear hv3 hk1 hk2 hd4
            have hKl := skip_le (p := tagN) (s := s) (i := i + 2) (by omega)
            obtain ⟨K, hK⟩ : ∃ K, skipTo tagN s (i + 2) = K := ⟨_, rfl⟩
            obtain ⟨nm, hnm⟩ : ∃ nm, lowBA (s.extract (i + 2) K) = nm := ⟨_, rfl⟩
            rw [hK] at hKl
            have HNm := Lib.hid hnm
            obtain ⟨en, hen⟩ : ∃ en, upE s K [62] = en := ⟨_, rfl⟩
            obtain ⟨nx, hnx⟩ : ∃ nx, upN s K [62] = nx := ⟨_, rfl⟩
            have HEn := Lib.hid hen
            have HNx := Lib.hid hnx
            have HTk := Lib.hid (show tokAt s i = (⟨3, i, nm, ⟨#[]⟩, []⟩, nx) by simp only [tokAt, hkd, hK, hnm, hnx])
            have HK := Lib.hid hK
            clear hen hnx hK hnm hkd
            go_wp2_with (go_at_call 15; go_must (refine (hasPre_q y _ _ _ (by first | with_reducible exact HPc.out | with_reducible exact HPx.out | with_reducible exact HPq.out)).mono ?_); rintro e w7 ⟨rfl, rfl⟩)
            go_loopw [11] (fun t11 wr => ∃ m : Nat, t11 = .int .i64 (m : Int) ∧ i + 2 ≤ m ∧ m ≤ s.size ∧ Hid (skipTo tagN s m = K) ∧ EqW wr wc) (fun t11 _ => s.size - (intOf t11).toNat)
            case atStart => exact ⟨i + 2, by go_num, Nat.le_refl _, by omega, HK, EqW.refl _⟩
            case round =>
              obtain ⟨m, rfl, hkm, hm, HSm, hww⟩ := hrel
              unfold EqW at hww
              subst hww
              have hm0 : (0 : Int) ≤ (m : Int) := by omega
              by_cases hgo : m < s.size ∧ tagN (nAt s m) = true
              · have hms := hgo.1
                have hms' : (m : Int) < (s.size : Int) := by omega
                obtain ⟨n5, hn5⟩ : ∃ n, nAt s m = n := ⟨_, rfl⟩
                have e5 : ((s[m]'hms).toNat : Int) = n5 := by rw [bAt_idx hms]; exact hn5
                have HGz := Lib.hid (show tagN n5 = true by rw [← hn5]; exact hgo.2)
                have HSm2 := Lib.hid ((skip_in hms hgo.2).symm.trans HSm.out)
                clear hgo hn5
                go_wp2_with (go_at_call 24; go_must (refine (tagR_q n5 _ _ HGz.out).mono ?_); rintro e w7 ⟨rfl, rfl⟩)
                go_roundw
                case rel => exact ⟨m + 1, by go_num, by omega, by omega, HSm2, EqW.refl _⟩
                case measure => simp [intOf]; omega
              · have HmV := Lib.hid (show m = K by
                  rw [← HSm.out]
                  by_cases h5 : m < s.size
                  · exact (skip_out h5 (by cases h6 : tagN (nAt s m); rfl; exact absurd ⟨h5, h6⟩ hgo)).symm
                  · exact (skip_end (by omega)).symm)
                go_upto_region 10 with fail
                go_cut [85] from 76 to 87 (fun s85 wx => s85 = .bool false ∧ wx = wr)
                case first =>
                  by_cases hms : m < s.size
                  · have hms' : (m : Int) < (s.size : Int) := by omega
                    obtain ⟨n5, hn5⟩ : ∃ n, nAt s m = n := ⟨_, rfl⟩
                    have e5 : ((s[m]'hms).toNat : Int) = n5 := by rw [bAt_idx hms]; exact hn5
                    have HGz := Lib.hid (show tagN n5 = false by rw [← hn5]; cases h6 : tagN (nAt s m); rfl; exact absurd ⟨hms, h6⟩ hgo)
                    clear hgo hn5
                    go_wp2_with (go_at_call 24; go_must (refine (tagR_q n5 _ _ HGz.out).mono ?_); rintro e w7 ⟨rfl, rfl⟩)
                    go_meet
                    exact ⟨rfl, rfl⟩
                  · have hms' : ¬ (m : Int) < (s.size : Int) := by omega
                    go_wp2_with fail
                    go_meet
                    exact ⟨rfl, rfl⟩
                case rest =>
                  obtain ⟨rfl, rfl⟩ := hcut
                  have hmV := HmV.out.symm
                  subst hmV
                  have hx1 : (i : Int) + 2 ≤ (K : Int) := by omega
                  have hx2 : (K : Int) ≤ (s.size : Int) := by omega
                  clear hgo HmV HSm HK
                  go_wp2_with (first
                    | (go_at_call 22; go_must (refine (upToR_q B s ⟨#[62]⟩ [62] K en nx _ (by omega) hs (by decide) HM0.out rfl HEn.out HNx.out).mono ?_); rintro e w7 ⟨rfl, rfl⟩)
                    | (go_at_call 25; go_must (refine (lowerR_q _ nm _ (by rw [ext_size s (by omega)]; omega) HNm.out).mono ?_); rintro e w5 ⟨rfl, hb5⟩; have HZ5 := Lib.hid (HZ.out.below hb5); have HB5 := Lib.hid (HB0.out.trans (hb5.mono (by have := HZ.out.lt; omega))); clear hb5; have q0 : w5.cell? ⟨n, 0, none⟩ = some (.int .i64 0) := HZ5.out.c 0; have q1 : w5.cell? ⟨n, 1, none⟩ = some (.int .i64 0) := HZ5.out.c 1; have q2 : w5.cell? ⟨n, 2, none⟩ = some (.string ⟨#[]⟩) := HZ5.out.c 2; have q3 : w5.cell? ⟨n, 3, none⟩ = some (.string ⟨#[]⟩) := HZ5.out.c 3; have q4 : w5.cell? ⟨n, 4, none⟩ = some (.slice none 0 0) := HZ5.out.c 4; have p0 := HZ5.out.f 0; have p1 := HZ5.out.f 1; have p2 := HZ5.out.f 2; have p3 := HZ5.out.f 3; have p4 := HZ5.out.f 4; have psh : w5.shape? n = some (35, 5) := HZ5.out.sh; have pl : n < w5.heap.size := HZ5.out.lt))
                  refine tok_done rfl (((((HZ5.out.put 0 _).put 1 _).put 2 _).put 3 _).put 4 _) rfl rfl rfl rfl ?_
                  exact TokAtR.mk (x := (⟨3, i, nm, ⟨#[]⟩, []⟩, .slice none 0 0)) HTk.out (World.ownsRow_nil _ _ _ _) (((((HB5.out.setCell (p := ⟨_, 0, none⟩) hBn _).setCell (p := ⟨_, 1, none⟩) hBn _).setCell (p := ⟨_, 2, none⟩) hBn _).setCell (p := ⟨_, 3, none⟩) hBn _).setCell (p := ⟨_, 4, none⟩) hBn _)
          | false =>
            have hk3 : kindAt s i ≠ 3 := of_decide_eq_false hv3
            have hd4 := hd4 hk3
            obtain ⟨v4, hv4⟩ : ∃ v, decide (kindAt s i = 4) = v := ⟨_, rfl⟩
            rw [hv4] at hd4
            have HD4 := Lib.hid hd4
            clear hd4 hv3
            go_upto_region 14 with fail
            go_cut [103] from 17 (fun s103 wx => s103 = .bool v4 ∧ wx = wc)
            case first =>
              have hy0 : 0 < y.size := by have := HYz.out; omega
              obtain ⟨n0, hn0⟩ : ∃ n, nAt s i = n := ⟨_, rfl⟩
              have ey0 : ((y[0]'hy0).toNat : Int) = n0 := by
                rw [bAt_idx hy0, ← hn0]
                unfold nAt
                congr 1
                rw [← hy, bAt, bAt, drop_list, List.getD_eq_getElem?_getD, List.getD_eq_getElem?_getD, List.getElem?_drop]
                rfl
              obtain ⟨q, hq⟩ : ∃ q, (n0 == 60) = q := ⟨_, rfl⟩
              have hqq : isAt s i 60 = q := by rw [isAt, decide_eq_true hi, hn0, Bool.true_and, ← hq]; rw [Bool.eq_iff_iff, decide_eq_true_eq, beq_iff_eq]
              by_cases h2 : 1 < y.size
              · have h2' : (1 : Int) < (y.size : Int) := by omega
                have hi2 : i + 1 < s.size := by have := HYz.out; omega
                obtain ⟨n2, hn2⟩ : ∃ n, nAt s (i + 1) = n := ⟨_, rfl⟩
                have ey2 : ((y[1]'h2).toNat : Int) = n2 := by
                  rw [bAt_idx h2, ← hn2]
                  unfold nAt
                  congr 1
                  rw [← hy, bAt, bAt, drop_list, List.getD_eq_getElem?_getD, List.getD_eq_getElem?_getD, List.getElem?_drop]
                obtain ⟨l2, hl2⟩ : ∃ l, isLetterP n2 = l := ⟨_, rfl⟩
                have HL2 := Lib.hid hl2
                have HV := Lib.hid (show v4 = (q && l2) by rw [HD4.out, hqq, letAt, decide_eq_true hi2, hn2, hl2, Bool.true_and])
                clear hv4 hqq hn2 hl2 hn0
                cases q with
                | false =>
                  go_wp2_with fail
                  go_meet
                  exact ⟨by rw [HV.out]; first | rfl | simp_all, rfl⟩
                | true =>
                  go_wp2_with (go_at_call 23; go_must (refine (refIsLetter_any n2 _ _ HL2.out).mono ?_); rintro e w7 ⟨rfl, rfl⟩)
                  go_meet
                  exact ⟨by rw [HV.out]; simp, rfl⟩
              · have h2' : ¬ (1 : Int) < (y.size : Int) := by omega
                have HV := Lib.hid (show v4 = false by rw [HD4.out, letAt, decide_eq_false (by have := HYz.out; omega), Bool.false_and, Bool.and_false])
                clear hv4 hqq hn0
                go_wp2_with fail
                go_meet
                exact ⟨by rw [HV.out], rfl⟩
            case rest =>
              obtain ⟨rfl, rfl⟩ := hcut
              cases v4 with
              | true =>
                have hkd : kindAt s i = 4 := of_decide_eq_true hv4
                have hk4 : i + 1 < s.size := by
                  have h9 := HD4.out.symm
                  rw [Bool.and_eq_true] at h9
                  exact (letAt_lt h9.2).1
                clear hv4 hk1 hk2 hk3
                have hKl := skip_le (p := tagN) (s := s) (i := i + 1) (by omega)
                obtain ⟨K, hK⟩ : ∃ K, skipTo tagN s (i + 1) = K := ⟨_, rfl⟩
                obtain ⟨nm, hnm⟩ : ∃ nm, lowBA (s.extract (i + 1) K) = nm := ⟨_, rfl⟩
                rw [hK] at hKl
                have HNm := Lib.hid hnm
                obtain ⟨D, j, hat⟩ : ∃ D j, attsV s K = (D, j) := ⟨_, _, rfl⟩
                obtain ⟨m', hm1⟩ : ∃ m, min (j + 1) s.size = m := ⟨_, rfl⟩
                have HAt := Lib.hid hat
                have HMi := Lib.hid hm1
                have HTk := Lib.hid (show tokAt s i = (⟨2, i, nm, ⟨#[]⟩, D⟩, m') by simp only [tokAt, hkd, hK, hnm, hat, hm1])
                have HK := Lib.hid hK
                clear hat hm1 hK hnm hkd
                go_wp2_with (go_at_call 15; go_must (refine (hasPre_q y _ _ _ (by first | with_reducible exact HPc.out | with_reducible exact HPx.out | with_reducible exact HPq.out)).mono ?_); rintro e w7 ⟨rfl, rfl⟩)
                go_loopw [14] (fun t14 wr => ∃ m : Nat, t14 = .int .i64 (m : Int) ∧ i + 1 ≤ m ∧ m ≤ s.size ∧ Hid (skipTo tagN s m = K) ∧ EqW wr wc) (fun t14 _ => s.size - (intOf t14).toNat)
                case atStart => exact ⟨i + 1, by go_num, Nat.le_refl _, by omega, HK, EqW.refl _⟩
                case round =>
                  obtain ⟨m, rfl, hkm, hm, HSm, hww⟩ := hrel
                  unfold EqW at hww
                  subst hww
                  have hm0 : (0 : Int) ≤ (m : Int) := by omega
                  by_cases hgo : m < s.size ∧ tagN (nAt s m) = true
                  · have hms := hgo.1
                    have hms' : (m : Int) < (s.size : Int) := by omega
                    obtain ⟨n5, hn5⟩ : ∃ n, nAt s m = n := ⟨_, rfl⟩
                    have e5 : ((s[m]'hms).toNat : Int) = n5 := by rw [bAt_idx hms]; exact hn5
                    have HGz := Lib.hid (show tagN n5 = true by rw [← hn5]; exact hgo.2)
                    have HSm2 := Lib.hid ((skip_in hms hgo.2).symm.trans HSm.out)
                    clear hgo hn5
                    go_wp2_with (go_at_call 24; go_must (refine (tagR_q n5 _ _ HGz.out).mono ?_); rintro e w7 ⟨rfl, rfl⟩)
                    go_roundw
                    case rel => exact ⟨m + 1, by go_num, by omega, by omega, HSm2, EqW.refl _⟩
                    case measure => simp [intOf]; omega
                  · have HmV := Lib.hid (show m = K by
                      rw [← HSm.out]
                      by_cases h5 : m < s.size
                      · exact (skip_out h5 (by cases h6 : tagN (nAt s m); rfl; exact absurd ⟨h5, h6⟩ hgo)).symm
                      · exact (skip_end (by omega)).symm)
                    go_upto_region 16 with fail
                    go_cut [128] from 119 to 130 (fun s128 wx => s128 = .bool false ∧ wx = wr)
                    case first =>
                      by_cases hms : m < s.size
                      · have hms' : (m : Int) < (s.size : Int) := by omega
                        obtain ⟨n5, hn5⟩ : ∃ n, nAt s m = n := ⟨_, rfl⟩
                        have e5 : ((s[m]'hms).toNat : Int) = n5 := by rw [bAt_idx hms]; exact hn5
                        have HGz := Lib.hid (show tagN n5 = false by rw [← hn5]; cases h6 : tagN (nAt s m); rfl; exact absurd ⟨hms, h6⟩ hgo)
                        clear hgo hn5
                        go_wp2_with (go_at_call 24; go_must (refine (tagR_q n5 _ _ HGz.out).mono ?_); rintro e w7 ⟨rfl, rfl⟩)
                        go_meet
                        exact ⟨rfl, rfl⟩
                      · have hms' : ¬ (m : Int) < (s.size : Int) := by omega
                        go_wp2_with fail
                        go_meet
                        exact ⟨rfl, rfl⟩
                    case rest =>
                      obtain ⟨rfl, rfl⟩ := hcut
                      have hmV := HmV.out.symm
                      subst hmV
                      have hx1 : (i : Int) + 1 ≤ (K : Int) := by omega
                      have hx2 : (K : Int) ≤ (s.size : Int) := by omega
                      clear hgo HmV HSm HK
                      go_wp2_with (go_at_call 25; go_must (refine (lowerR_q _ nm _ (by rw [ext_size s (by omega)]; omega) HNm.out).mono ?_); rintro e w5 ⟨rfl, hb5⟩; have HZ5 := Lib.hid (HZ.out.below hb5); have HB5 := Lib.hid (HB0.out.trans (hb5.mono (by have := HZ.out.lt; omega))); clear hb5; skip)
                      obtain ⟨tb, htb⟩ : ∃ tb, w5.heap.size = tb := ⟨_, rfl⟩
                      obtain ⟨W6, hW⟩ : ∃ W, w5.alloc (.cells #[.int .i64 2, .int .i64 (i : Int), .string nm, .string ⟨#[]⟩, .slice none 0 0] 35) = W := ⟨_, rfl⟩
                      have HT6 := Lib.hid (show CB W6 tb 35 #[.int .i64 2, .int .i64 (i : Int), .string nm, .string ⟨#[]⟩, .slice none 0 0] by rw [← hW, ← htb]; exact CB.new _ _ _)
                      have HZ6 := Lib.hid (show CB W6 n 35 #[.int .i64 0, .int .i64 0, .string ⟨#[]⟩, .string ⟨#[]⟩, .slice none 0 0] by rw [← hW]; exact HZ5.out.alloc _)
                      have hnt : n < tb := by rw [← htb]; exact HZ5.out.lt
                      have HB6 := Lib.hid (show Below B w W6 by rw [← hW]; exact HB5.out.alloc (by omega) _)
                      have HM6 := Lib.hid (HM.out.keep HB6.out)
                      have hB6 : B ≤ W6.heap.size := by have := HZ6.out.lt; omega
                      try rw [hW]
                      try rw [htb]
                      clear hW htb
                      refine (attsR_q W6.heap.size s K W6 (Nat.le_refl _) (by omega) hs (HM6.out.up hB6)).mono ?_
                      rintro e w7 ⟨A, c, rfl, hrow, hb7⟩
                      rw [HAt.out] at hrow ⊢
                      simp only at hrow
                      simp only [HMi.out]
                      have HR7 := Lib.hid hrow
                      have HZ7 := Lib.hid (HZ6.out.below hb7)
                      have HT7 := Lib.hid (HT6.out.below hb7)
                      have HB7 := Lib.hid (HB6.out.trans (hb7.mono hB6))
                      clear hrow hb7
                      have q0 : w7.cell? ⟨n, 0, none⟩ = some (.int .i64 0) := HZ7.out.c 0
                      have q1 : w7.cell? ⟨n, 1, none⟩ = some (.int .i64 0) := HZ7.out.c 1
                      have q2 : w7.cell? ⟨n, 2, none⟩ = some (.string ⟨#[]⟩) := HZ7.out.c 2
                      have q3 : w7.cell? ⟨n, 3, none⟩ = some (.string ⟨#[]⟩) := HZ7.out.c 3
                      have q4 : w7.cell? ⟨n, 4, none⟩ = some (.slice none 0 0) := HZ7.out.c 4
                      have p0 := HZ7.out.f 0
                      have p1 := HZ7.out.f 1
                      have p2 := HZ7.out.f 2
                      have p3 := HZ7.out.f 3
                      have p4 := HZ7.out.f 4
                      have psh : w7.shape? n = some (35, 5) := HZ7.out.sh
                      have pl : n < w7.heap.size := HZ7.out.lt
                      have t0 : w7.cell? ⟨tb, 0, none⟩ = some (.int .i64 2) := HT7.out.c 0
                      have t1 : w7.cell? ⟨tb, 1, none⟩ = some (.int .i64 (i : Int)) := HT7.out.c 1
                      have t2 : w7.cell? ⟨tb, 2, none⟩ = some (.string nm) := HT7.out.c 2
                      have t3 : w7.cell? ⟨tb, 3, none⟩ = some (.string ⟨#[]⟩) := HT7.out.c 3
                      have t4 : w7.cell? ⟨tb, 4, none⟩ = some (.slice none 0 0) := HT7.out.c 4
                      have t4f := HT7.out.f 4
                      have tsh : w7.shape? tb = some (35, 5) := HT7.out.sh
                      have ttl : tb < w7.heap.size := HT7.out.lt
                      have hnt2 : n ≠ tb := by omega
                      have hnt3 : tb ≠ n := by omega
                      go_wp2_with fail
                      have HZ8 := Lib.hid (HZ7.out.keepX (GrownX.one0 w7 tb 4 (.slice A D.length c)) hnt2)
                      have HB8 := Lib.hid (HB7.out.setCell (p := ⟨tb, 4, none⟩) (show B ≤ tb by omega) (.slice A D.length c))
                      refine tok_done rfl (((((HZ8.out.put 0 _).put 1 _).put 2 _).put 3 _).put 4 _) rfl rfl rfl rfl ?_
                      refine TokAtR.mk (x := (⟨2, i, nm, ⟨#[]⟩, D⟩, .slice A D.length c)) HTk.out (own_low (own_keepX HR7.out (p := fun x => x = tb ∨ x = n) ((((((GrownX.set (GrownX.refl (fun x => x = tb ∨ x = n) w7) (Or.inl (Or.inl rfl)) 4 _).set (Or.inl (Or.inr rfl)) 0 _).set (Or.inl (Or.inr rfl)) 1 _).set (Or.inl (Or.inr rfl)) 2 _).set (Or.inl (Or.inr rfl)) 3 _).set (Or.inl (Or.inr rfl)) 4 _) (fun g hg e => ?_)) hB6) (((((HB8.out.setCell (p := ⟨_, 0, none⟩) hBn _).setCell (p := ⟨_, 1, none⟩) hBn _).setCell (p := ⟨_, 2, none⟩) hBn _).setCell (p := ⟨_, 3, none⟩) hBn _).setCell (p := ⟨_, 4, none⟩) hBn _)
                      rcases e with e | e
                      · exact own_ne_cb HR7.out HT7.out (by decide) (by rw [hg, e])
                      · exact own_ne_cb HR7.out HZ7.out (by decide) (by rw [hg, e])
              | false =>
                have hk4 : kindAt s i ≠ 4 := of_decide_eq_false hv4
                have hkd : kindAt s i = 0 := by
                  cases Nat.decEq (kindAt s i) 0 with
                  | isTrue h => exact h
                  | isFalse h => rcases kind_or h with h9 | h9 | h9 | h9 <;> contradiction
                have HTk := Lib.hid (show tokAt s i = (⟨0, 0, ⟨#[]⟩, ⟨#[]⟩, []⟩, 0) by simp only [tokAt, hkd])
                clear hv4 hk1 hk2 hk3 hk4 hkd
                go_wp2_with fail
                refine tok_done rfl (((((HZ.out.put 0 _).put 1 _).put 2 _).put 3 _).put 4 _) rfl rfl rfl rfl ?_
                exact TokAtR.mk (x := (⟨0, 0, ⟨#[]⟩, ⟨#[]⟩, []⟩, .slice none 0 0)) (nx := 0) HTk.out (World.ownsRow_nil _ _ _ _) (((((HB0.out.setCell (p := ⟨_, 0, none⟩) hBn _).setCell (p := ⟨_, 1, none⟩) hBn _).setCell (p := ⟨_, 2, none⟩) hBn _).setCell (p := ⟨_, 3, none⟩) hBn _).setCell (p := ⟨_, 4, none⟩) hBn _)

end Go.Proofs.YtelelpjhepcmbaaGreat
