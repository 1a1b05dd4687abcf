/-
  Strings sorted, each once: mastref1.Sorted.
-/
import Derived.Test.YtmcelgokchhpfaaGreatDoorEvents
namespace Go.Proofs.YtmcelgokchhpfaaGreatDoor
open Go.RowKit Go.Deep

theorem ones_str {w : World} {B : Nat} {v : Value} {n : Nat} {L : List (List UInt8)} (h : w.ownsRow B 9 1 v n (strCells L)) {j : Nat} {x : List UInt8} (hx : L[j]? = some x) : ∃ (g c : Nat), v = .slice (some ⟨g, 0, none⟩) n c ∧ w.cell? ⟨g, j, none⟩ = some (.string (str0 x)) ∧ c ≤ maxLen ∧ B ≤ g ∧ g < w.heap.size := by
  have hl := h.1
  rw [strCells_len, Nat.mul_one] at hl
  have hj := (List.getElem?_eq_some_iff.1 hx).1
  obtain ⟨A, c, rfl, hc, _, hA⟩ := own_form h
  obtain ⟨g, rfl, hg1, hg2⟩ := hA (by omega)
  exact ⟨g, c, rfl, own_cell h (strCells_get hx), hc, hg1, hg2⟩

def SortedPost (N : Nat) (L : List (List UInt8)) (w : World) (e : Ending) (w' : World) : Prop :=
  ∃ v, e = .returned v ∧ w'.ownsRow N 9 1 v (onceL L L.length).length (strCells (onceL L L.length)) ∧ Below N w w'
theorem onceL_len (L : List (List UInt8)) : ∀ k, (onceL L k).length ≤ k
  | 0 => Nat.le_refl _
  | k + 1 => by
    have ih := onceL_len L k
    rw [onceL]
    split
    · omega
    · split
      · rw [List.length_append]; simp; omega
      · omega
theorem once_yes {L : List (List UInt8)} {k : Nat} {x : List UInt8} (h : L[k]? = some x) (hx : k = 0 ∨ L[k - 1]? ≠ some x) : onceL L (k + 1) = onceL L k ++ [x] := by
  rw [onceL, h]; simp only; rw [if_pos hx]
theorem once_no {L : List (List UInt8)} {k : Nat} {x : List UInt8} (h : L[k]? = some x) (h0 : k ≠ 0) (hx : L[k - 1]? = some x) : onceL L (k + 1) = onceL L k := by
  rw [onceL, h]; simp only; rw [if_neg (by rintro (h1 | h1); exact h0 h1; exact h1 hx)]
theorem str0_ne {a b : List UInt8} (h : a ≠ b) : str0 a ≠ str0 b := fun e => h (by rw [← str0_list a, e]; rfl)

set_option maxRecDepth 100000 in
set_option maxHeartbeats 4000000 in
theorem sorted_q (B : Nat) (v : Value) (L : List (List UInt8)) (w : World) (h : w.ownsRow B 9 1 v L.length (strCells L)) (hl : L.length ≤ 1048576) (hB : B ≤ w.heap.size) :
    Calls Tryz.prog 18 #[v] w (SortedPost B (L.mergeSort fun x y => decide (x ≤ y)) w) := by
  obtain ⟨M, hM⟩ : ∃ M, (L.mergeSort fun x y => decide (x ≤ y)) = M := ⟨_, rfl⟩
  have hML : M.length = L.length := by rw [← hM]; exact List.length_mergeSort _
  obtain ⟨A0, c0, rfl, hc0, hlc, hA0⟩ := own_form h
  have HH := Lib.hid h
  have hs := sortS_q B _ L w h hl
  have HMs := Lib.hid hM
  rw [hM]
  clear h hM
  go_enter Tryz.func18, Tryz.ntmps18
  go_wp2_with fail
  refine hs.mono ?_
  clear hs
  rintro e w1 ⟨rfl, own1, hg1⟩
  rw [HMs.out] at own1
  have HO1 := Lib.hid own1
  have HB1 := Lib.hid (below_of_grown hg1 hB (fun g hg => own_block_ge HH.out g hg))
  have HA0 := Lib.hid hA0
  have HML := Lib.hid hML
  clear own1 hg1 hA0 hML
  obtain ⟨K, hK⟩ : ∃ K, w1.heap.size = K := ⟨_, rfl⟩
  have HK := Lib.hid hK; clear hK
  unfold maxLen at hc0
  have hMl : M.length ≤ 1048576 := by have := HML.out; omega
  have hLM : (L.length : Int) = (M.length : Int) := by have := HML.out; omega
  rw [← HML.out] at hlc HO1 ⊢
  clear hLM
  go_wp2_with fail
  go_loopw [10, 3] (fun t10 t3 wr => ∃ (j n : Nat) (A : Option Addr) (c : Nat), j ≤ M.length ∧ t10 = .int .i64 j ∧ t3 = .slice A n c ∧ Hid (n = (onceL M j).length) ∧ Hid (wr.ownsRow K 9 1 (.slice A n c) n (strCells (onceL M j))) ∧ Hid (Below K w1 wr)) (fun t _ _ => M.length - (intOf t).toNat)
  case atStart => exact ⟨0, 0, none, 0, Nat.zero_le _, rfl, rfl, rfl, World.ownsRow_nil _ _ _ _, Below.refl _ _⟩
  case round =>
    obtain ⟨j, n, A, c, hj, rfl, rfl, HNn, HOw, HBw⟩ := hrel
    by_cases hlt : j < M.length
    · obtain ⟨x, hx⟩ : ∃ x, M[j]? = some x := ⟨_, List.getElem?_eq_getElem hlt⟩
      obtain ⟨g, cg, hv, hcell, _, _, hg2⟩ := ones_str HO1.out hx
      cases hv
      have k0 := (Keeps.of_below (show Below w1.heap.size w1 wr by rw [HK.out]; exact HBw.out)) _ _ hcell
      have HX := Lib.hid hx
      have hnle : n ≤ 1048576 := by have := onceL_len M j; have := HNn.out; omega
      have hKw : K ≤ wr.heap.size := by have := HBw.out.size; have := HK.out; omega
      obtain ⟨sx, hsx⟩ : ∃ s, str0 x = s := ⟨_, rfl⟩
      have HSx := Lib.hid hsx
      rw [hsx] at k0
      clear hcell
      by_cases h0 : j = 0
      · subst h0
        have HY := Lib.hid (once_yes hx (Or.inl rfl))
        clear hx hsx
        go_wp2_with (first | (at_builtin; go_must (refine wpList_push _ rfl (.tmp 26) (.tmp 28) 38 rfl K 9 _ 1 16 Tryz.underlying38 info_strE rfl (by omega) (.slice A n c) n _ rfl (own_alloc HOw.out _) [.string sx] rfl _ rfl (cell_new _ [.string sx] 9 _ rfl) (one_str _) (by omega) (by unfold maxLen; omega) (by simp; omega) ?_); intro g7 c7 w7 own7 hg7 hgg7 hb7; have HO7 := Lib.hid own7; have HB7 := Lib.hid ((HBw.out.alloc hKw (.cells #[.string sx] 9)).trans hb7); clear own7 hg7 hgg7 hb7))
        go_roundw
        case rel => exact ⟨0 + 1, n + 1, _, c7, by omega, by go_num, rfl, by rw [HY.out, List.length_append, ← HNn.out]; rfl, by rw [HY.out, strCells_append, show strCells [x] = [Value.string sx] by rw [← HSx.out]; rfl]; exact HO7.out, HB7.out⟩
        case measure => simp [intOf]; omega
      · obtain ⟨y, hy⟩ : ∃ y, M[j - 1]? = some y := ⟨_, List.getElem?_eq_getElem (by omega)⟩
        obtain ⟨g', cg', hv', hcell', _, _, _⟩ := ones_str HO1.out hy
        cases hv'
        have k1 := (Keeps.of_below (show Below w1.heap.size w1 wr by rw [HK.out]; exact HBw.out)) _ _ hcell'
        obtain ⟨sy, hsy⟩ : ∃ s, str0 y = s := ⟨_, rfl⟩
        rw [hsy] at k1
        have hj0 : ((j : Int) == 0) = false := by simp; omega
        have hj1 : (0 : Int) ≤ (j : Int) - 1 := by omega
        have hj2 : ((j : Int) - 1).toNat = j - 1 := by omega
        have hj3 : (j : Int) - 1 < (M.length : Int) := by omega
        clear hcell'
        by_cases hxy : x = y
        · have HY := Lib.hid (once_no hx h0 (by rw [hy, hxy]))
          subst hxy
          have hss : sy = sx := hsy.symm.trans hsx
          subst hss
          clear hx hy hsx hsy
          go_wp2_with fail
          go_roundw
          case rel => exact ⟨j + 1, n, A, c, by omega, by go_num, rfl, by rw [HY.out]; exact HNn.out, by rw [HY.out]; exact HOw.out, HBw.out⟩
          case measure => simp [intOf]; omega
        · have HY := Lib.hid (once_yes hx (Or.inr (by rw [hy]; exact fun e => hxy (Option.some.inj e).symm)))
          have hss : sx ≠ sy := by rw [← hsx, ← hsy]; exact str0_ne hxy
          have hs1 := str_ne hss
          have hs2 := str_ne2 hss
          clear hx hy hsx hsy hss
          go_wp2_with (first | (at_builtin; go_must (refine wpList_push _ rfl (.tmp 26) (.tmp 28) 38 rfl K 9 _ 1 16 Tryz.underlying38 info_strE rfl (by omega) (.slice A n c) n _ rfl (own_alloc HOw.out _) [.string sx] rfl _ rfl (cell_new _ [.string sx] 9 _ rfl) (one_str _) (by omega) (by unfold maxLen; omega) (by simp; omega) ?_); intro g7 c7 w7 own7 hg7 hgg7 hb7; have HO7 := Lib.hid own7; have HB7 := Lib.hid ((HBw.out.alloc hKw (.cells #[.string sx] 9)).trans hb7); clear own7 hg7 hgg7 hb7))
          go_roundw
          case rel => exact ⟨j + 1, n + 1, _, c7, by omega, by go_num, rfl, by rw [HY.out, List.length_append, ← HNn.out]; rfl, by rw [HY.out, strCells_append, show strCells [x] = [Value.string sx] by rw [← HSx.out]; rfl]; exact HO7.out, HB7.out⟩
          case measure => simp [intOf]; omega
    · obtain rfl : j = M.length := by omega
      go_wp2_with fail
      go_ret
      exact ⟨_, rfl, by rw [← HNn.out]; exact own_baseE HOw.out (by have := HB1.out.size; have := HK.out; omega), HB1.out.trans (HBw.out.mono (by have := HB1.out.size; have := HK.out; omega))⟩

end Go.Proofs.YtmcelgokchhpfaaGreatDoor
