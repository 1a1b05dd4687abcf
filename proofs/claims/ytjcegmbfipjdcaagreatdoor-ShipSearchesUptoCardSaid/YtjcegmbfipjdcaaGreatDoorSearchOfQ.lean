/-
  mastref1.SearchOf.
-/
import Derived.Test.YtjcegmbfipjdcaaGreatDoorHitOwn
import Derived.Test.YtjcegmbfipjdcaaGreatDoorInsSort
import Derived.Test.YtjcegmbfipjdcaaGreatDoorRowSwap
import Derived.Test.YtjcegmbfipjdcaaGreatDoorRowCopy
import Derived.Test.YtjcegmbfipjdcaaGreatDoorSearchQ
import Derived.Test.YtjcegmbfipjdcaaGreatDoorOnceQ
namespace Go.Proofs.YtjcegmbfipjdcaaGreatDoor
open Go.RowKit Go.Deep

/-- what is sorted has smaller addresses than what is to come -/
structure LowS (S C : List HitV) : Prop where
  lt : ∀ y ∈ S, ∀ z ∈ C, hAddr y < hAddr z
  c : C.Pairwise (fun x y => hAddr x < hAddr y)
/-- in the midst of an insertion -/
structure LowX (A : List HitV) (x : HitV) (B C : List HitV) : Prop where
  ab : ∀ y ∈ A ++ B, hAddr y < hAddr x
  low : LowS (A ++ x :: B) C
theorem LowS.nil {C : List HitV} (h : C.Pairwise (fun x y => hAddr x < hAddr y)) : LowS [] C := ⟨(fun y hy => by cases hy), h⟩
theorem LowS.start {S C : List HitV} {x : HitV} (h : LowS S (x :: C)) : LowX S x [] C := by
  have h2 := List.pairwise_cons.1 h.c
  refine ⟨fun y hy => h.lt y (by simpa using hy) x (by simp), ⟨fun y hy z hz => ?_, h2.2⟩⟩
  rcases List.mem_append.1 hy with hy | hy
  · exact h.lt y hy z (by simp [hz])
  · simp only [List.mem_singleton] at hy
    subst hy; exact h2.1 z hz
theorem LowX.down {A B C : List HitV} {x y : HitV} (h : LowX (A ++ [y]) x B C) : LowX A x (y :: B) C := by
  refine ⟨fun z hz => h.ab z (by simpa using hz), ⟨fun z hz u hu => h.low.lt z ?_ u hu, h.low.c⟩⟩
  simp only [List.mem_append, List.mem_cons, List.not_mem_nil, or_false] at hz ⊢
  rcases hz with hz | hz | hz | hz
  · exact Or.inl (Or.inl hz)
  · exact Or.inr (Or.inl hz)
  · exact Or.inl (Or.inr hz)
  · exact Or.inr (Or.inr hz)
theorem LowX.stop {A B C : List HitV} {x y : HitV} (h : LowX (A ++ [y]) x B C) (hs : ¬ x.score > y.score) : HitR y x := by
  by_cases e : y.score = x.score
  · exact Or.inr ⟨e, h.ab y (by simp)⟩
  · exact Or.inl (by omega)
theorem HitR.tr (a b c : HitV) : HitR a b → HitR b c → HitR a c := fun h1 h2 => h1.trans h2

theorem own_hit {w : World} {B g cap n : Nat} {L : List HitV} {j : Nat} {x : HitV} (h : w.ownsRow B 40 2 (.slice (some ⟨g, 0, none⟩) n cap) n (hitsC L)) (hx : L[j]? = some x) :
    w.cell? ⟨g, j * 2, none⟩ = some (.string x.addr) ∧ w.cell? ⟨g, j * 2 + 1, none⟩ = some (.int .i64 x.score) ∧ w.frozen? ⟨g, j * 2, none⟩ = false ∧ w.frozen? ⟨g, j * 2 + 1, none⟩ = false := by
  obtain ⟨cur, hg, hsz, ht, _, _, _⟩ := own_block h
  obtain ⟨k0, k1⟩ := hitsC_at L j x hx
  have hn : L.length = n := by have := h.1; rw [hitsC_len] at this; omega
  have hj := (List.getElem?_eq_some_iff.1 hx).1
  rw [← ht, List.getElem?_take_of_lt (by omega)] at k0 k1
  refine ⟨?_, ?_, frozen_of_row w g _ _ _ hg, frozen_of_row w g _ _ _ hg⟩
  · rw [cell_of_row w g _ _ _ (0, 0) hg]; simpa using k0
  · rw [cell_of_row w g _ _ _ (0, 0) hg]; simpa using k1
theorem hits_swap (A B : List HitV) (y x : HitV) : ((((hitsC (A ++ y :: x :: B)).set ((A.length + 1) * 2) (.string y.addr)).set ((A.length + 1) * 2 + 1) (.int .i64 y.score)).set (A.length * 2) (.string x.addr)).set (A.length * 2 + 1) (.int .i64 x.score) = hitsC (A ++ x :: y :: B) := by
  have h1 : ∀ p q : HitV, hitsC (A ++ p :: q :: B) = hitsC A ++ Value.string p.addr :: Value.int .i64 p.score :: Value.string q.addr :: Value.int .i64 q.score :: hitsC B := fun p q => by rw [hitsC_append]; rfl
  rw [h1, h1]
  have hk : (hitsC A).length = 2 * A.length := by rw [hitsC_len]; omega
  have := swap4 (hitsC A) (hitsC B) (.string y.addr) (.int .i64 y.score) (.string x.addr) (.int .i64 x.score) hk
  rw [Nat.mul_comm A.length 2, Nat.mul_comm (A.length + 1) 2]
  exact this
/-- the first elements of an own row are an own row -/
theorem own_front {w : World} {B m n c k : Nat} {e : TypeId} {A : Option Addr} {xs : List Value} (h : w.ownsRow B e k (.slice A n c) n xs) (hm : m ≤ n) : w.ownsRow B e k (.slice A m c) m (xs.take (m * k)) := by
  obtain ⟨h1, h2⟩ := h
  have hmk : m * k ≤ n * k := Nat.mul_le_mul_right _ hm
  refine ⟨by rw [List.length_take]; omega, ?_⟩
  rcases h2 with ⟨h3, h0⟩ | ⟨g, cap, cur, h3, hB, hg, hnc, hmx, hsz, htake⟩
  · cases h3
    exact Or.inl ⟨by rw [show m = 0 by omega], by omega⟩
  · cases h3
    refine Or.inr ⟨g, c, cur, rfl, hB, hg, by omega, hmx, hsz, ?_⟩
    rw [← htake, List.take_take, Nat.min_eq_left hmk]

/-! ### the terms asked for, one word after the other -/
theorem askT_snoc (T : List TermR) (Q : List (List UInt8)) (s : List UInt8) : askT T (Q ++ [s]) = askT T Q ++ T.filter (fun t => wordOf t == s) := by simp [askT]
theorem askT_len {T : List TermR} (hT : TRise T) {Q : List (List UInt8)} (hQ : Q.Pairwise (· < ·)) : (askT T Q).length ≤ T.length := by
  rw [ask_same hT hQ (fun t => Q.contains (wordOf t)) (fun t => by simp)]
  exact List.length_filter_le _ _
end Go.Proofs.YtjcegmbfipjdcaaGreatDoor

namespace Go.Proofs.YtjcegmbfipjdcaaGreatDoor
open Go.RowKit Go.ChangeShapes Go.WideShapes Go.Deep

def SearchRefPost (N : Nat) (D : List DocR) (S : List Int) (T : List TermR) (q : ByteArray) (mo : Nat) (w : World) (e : Ending) (w' : World) : Prop :=
  Below N w w' ∧ ∃ (v : Value) (R : List HitV), R.Perm (hitsQ D S T q) ∧ R.Pairwise HitR ∧ e = .returned v ∧ w'.ownsRow N 40 2 v (R.take mo).length (hitsC (R.take mo))
theorem SearchRefPost.hits {N N' : Nat} {D : List DocR} {S : List Int} {T : List TermR} {q : ByteArray} {mo n kk : Nat} {w w' : World} {A7 : Option Addr} {c7 : Nat} {Hs R : List HitV} (hq : hitsQ D S T q = Hs) (hp : R.Perm Hs) (hs : R.Pairwise HitR) (hl : Hs.length = n) (hk : kk = min mo n) (hN : N ≤ N')
    (ho : w'.ownsRow N' 40 2 (.slice A7 n c7) n (hitsC R)) (hb : Below N w w') : SearchRefPost N D S T q mo w (.returned (.slice A7 kk c7)) w' := by
  refine ⟨hb, _, R, by rw [hq]; exact hp, hs, rfl, ?_⟩
  have hr : R.length = n := by rw [hp.length_eq, hl]
  have e2 : (R.take mo).length = kk := by rw [List.length_take, hr, hk]
  have e3 : R.take kk = R.take mo := by
    rw [hk, ← hr, ← List.take_take, List.take_length]
  rw [e2, ← e3, ← hitsC_take]
  exact own_low (own_front ho (by omega)) hN

set_option maxRecDepth 100000 in
set_option maxHeartbeats 8000000 in
theorem searchOf_q (D : List DocR) (S : List Int) (T : List TermR) (dv sv tv : Value) (q : ByteArray) (mo : Nat) (w : World) (h : IdxAt w dv sv tv D S T) (hF : idxE D S T = 0) (hw : ∀ t ∈ T, t.word.size ≤ 1048576) (hq : q.size ≤ 200) :
    Calls Tryz.prog 11 #[.agg #[dv, sv, tv], .string q, .int .i64 (mo : Int)] w (SearchRefPost w.heap.size D S T q mo w) := by
  have HI := Lib.hid h
  obtain ⟨⟨A, c, b, o, rfl, hlc1, hc, hA1, hcell1⟩, ⟨A2, c2, b2, o2, rfl, hlc2, hc2, hA2, hcell2⟩, ⟨A3, c3, b3, o3, dvs, mvs, rfl, hlc3, hc3, hA3, hcell3⟩⟩ := h
  unfold maxLen at hc hc2 hc3
  have HA1 := Lib.hid hA1; clear hA1
  have HA2 := Lib.hid hA2; clear hA2
  have HA3 := Lib.hid hA3; clear hA3
  have HC1 := Lib.hid hcell1; clear hcell1
  have HC2 := Lib.hid hcell2; clear hcell2
  have HC3 := Lib.hid hcell3; clear hcell3
  have HW := Lib.hid hw; clear hw
  have HF := Lib.hid hF; clear hF
  obtain ⟨hfs, hD⟩ := front_sizes (idxE_parts HF.out).1
  have HFs := Lib.hid hfs; clear hfs
  have hT4 := idx_terms_le HF.out
  have HTr := Lib.hid (show TRise T from idx_trise HF.out)
  go_enter Tryz.func11, Tryz.ntmps11
  obtain ⟨W0, hW0⟩ : ∃ W0, w.alloc (.cells #[.slice A D.length c, .slice A2 S.length c2, .slice A3 T.length c3] 33) = W0 := ⟨_, rfl⟩
  have HX0 := Lib.hid (show CB W0 w.heap.size 33 #[.slice A D.length c, .slice A2 S.length c2, .slice A3 T.length c3] by rw [← hW0]; exact CB.new _ _ _)
  have HB0 := Lib.hid (show Below w.heap.size w W0 by rw [← hW0]; exact (Below.refl _ _).alloc (Nat.le_refl _) _)
  have hg1 : W0.heap.size = w.heap.size + 1 := by rw [← hW0]; simp
  obtain ⟨nb, hnb⟩ : ∃ nb, w.heap.size = nb := ⟨_, rfl⟩
  have HW0 := Lib.hid hW0
  rw [hnb] at HX0 hg1
  have HNb := Lib.hid hnb
  rw [hnb]
  have bx0 := HX0.out.c 0
  have bx1 := HX0.out.c 1
  have bx2 := HX0.out.c 2
  have bsh := HX0.out.sh
  obtain ⟨i0, hi, hz0, hz1, hz2⟩ := info_parts info_int
  have hnbr : nb ≤ W0.heap.size := by omega
  have HG1 := Lib.hid hg1; clear hg1
  go_wp2_with (at_make; go_must (refine wpList_make_full _ rfl _ _ 30 rfl nb 3 i0 (.int .i64 0) 1 Tryz.underlying30 hi hz0 hz1 .i64 .i64 _ _ D.length rfl rfl rfl rfl (by rw [hz2]; omega) (by unfold maxLen; omega) hnbr ?_); intro w6 own6 hg6; have HO6 := Lib.hid own6; have HG6 := Lib.hid hg6; clear own6 hg6)
  clear hnb hW0
  obtain ⟨g, hg⟩ : ∃ g, W0.heap.size = g := ⟨_, rfl⟩
  have hgn : nb < g := by have := HG1.out; omega
  have HX6 := Lib.hid (HX0.out.other HG6.out (by simp))
  have HSW6 := Lib.hid (show SW w nb g (.slice A D.length c) (.slice A2 S.length c2) (.slice A3 T.length c3) (fun _ => True) (List.replicate D.length 0) w6 from ⟨(show Below nb w w6 by rw [← HNb.out]; exact HB0.out.grown HG6.out (by rw [HNb.out]; omega) (fun k hk => by cases hk)), HX6.out, by
    have := own_blockI (hg ▸ HO6.out)
    rw [Nat.mul_one, show (madeCells (Value.int .i64 0).cells D.length).toList = (scC (List.replicate D.length 0)).toList from by rw [← scC_zero]; rfl] at this
    exact this, trivial, hgn⟩)
  rw [hg]
  clear bx0 bx1 bx2 bsh hi hz0 hz1 hz2 HX6 HX0 hg hnbr HG6 HO6 HB0 HG1 HW0
  obtain ⟨L, hL⟩ : ∃ L, wordsAux q.data.toList [] = L := ⟨_, rfl⟩
  have HLw := Lib.hid (show ∀ x ∈ L, x.length ≤ 30 by rw [← hL]; exact word_le _ _)
  have hLn : L.length ≤ q.size + 1 := by rw [← hL]; have := words_many q.data.toList []; rw [size_toList] at this; exact this
  have hcall := wordsIn_any q w6 (by omega)
  rw [hL] at hcall
  have HL := Lib.hid hL
  clear hL
  refine hcall.mono ?_
  rintro e w3 ⟨v, rfl, ho, hb⟩
  obtain ⟨Aw, cw, bw, ow, rfl, hlw, hcw, hAw, hcellw⟩ := ho
  have hsl : (strCells L).length = L.length := by simp [strCells]
  rw [hsl] at hlw
  rw [hsl]
  unfold maxLen at hcw
  have HAw := Lib.hid hAw
  have HCw := Lib.hid hcellw
  have HXT := Lib.hid (show XK g (fun _ => True) from ⟨fun _ _ _ _ => trivial, fun _ _ _ _ => trivial⟩)
  have HSW3 := Lib.hid (HSW6.out.go HXT.out hb)
  clear hb hAw hcellw hcall HSW6
  obtain ⟨N3, hN3⟩ : ∃ n, w3.heap.size = n := ⟨_, rfl⟩
  have hgN : g < N3 := by rw [← hN3]; exact HSW3.out.sc.lt
  have HN3 := Lib.hid hN3
  clear hN3
  go_wp2_with fail
  go_loopw [8, 30] (fun t8 t30 wr => ∃ (j n ca : Nat) (Aa : Option Addr), j ≤ L.length ∧ t30 = .int .i64 j ∧ t8 = .slice Aa n ca ∧ Hid (n = j) ∧ Hid (wr.ownsRow N3 9 1 (.slice Aa n ca) n (strCells ((L.take j).map stemL))) ∧ Hid (Below N3 w3 wr)) (fun _ t _ => L.length - (intOf t).toNat)
  case atStart => exact ⟨0, 0, 0, none, Nat.zero_le _, rfl, rfl, rfl, World.ownsRow_nil _ _ _ _, Lib.hid (Below.refl _ _)⟩
  case round =>
    obtain ⟨j, n, ca, Aa, hj, rfl, rfl, HNj, HOw, HB⟩ := hrel
    have hn9 : n ≤ 201 := by have := HNj.out; omega
    have hNr : N3 ≤ wr.heap.size := by have := HB.out.size; have := HN3.out; omega
    by_cases hlt : j < L.length
    · obtain ⟨x, hx⟩ : ∃ x, L[j]? = some x := ⟨_, List.getElem?_eq_getElem hlt⟩
      obtain rfl : Aw = some ⟨bw, ow, none⟩ := HAw.out (by intro h0; rw [← List.length_eq_zero_iff, hsl] at h0; omega)
      have kx := (Keeps.of_below (by rw [HN3.out]; exact HB.out) : Keeps w3 wr) _ _ (HCw.out j (.string ⟨x.toArray⟩) (by simp [strCells, hx]))
      have hxl := HLw.out x (List.mem_of_getElem? hx)
      have hxs : (⟨x.toArray⟩ : ByteArray).size ≤ 1048576 := by show x.toArray.size ≤ _; simp; omega
      obtain ⟨xs, hxs0⟩ : ∃ xs : ByteArray, (⟨x.toArray⟩ : ByteArray) = xs := ⟨_, rfl⟩
      rw [hxs0] at kx hxs
      have hst := stemOf_any xs wr hxs
      obtain ⟨y, hy⟩ : ∃ y : ByteArray, (⟨(stemL xs.data.toList).toArray⟩ : ByteArray) = y := ⟨_, rfl⟩
      have HY := Lib.hid (show strCells ((L.take (j + 1)).map stemL) = strCells ((L.take j).map stemL) ++ [.string y] by rw [List.take_add_one, hx, ← hy, ← hxs0]; simp [strCells])
      rw [hy] at hst
      have HST := Lib.hid hst
      clear hst hy hxs0 hx
      go_wp2_with (first
        | (go_at_call 35; go_must (refine HST.out.mono ?_); rintro e w4 ⟨rfl, hb4⟩; have HO4 := Lib.hid (own_keepB2 HOw.out hb4); have HB4 := Lib.hid (HB.out.trans (hb4.mono hNr)); have hz4 : N3 ≤ w4.heap.size := (by have h9 := hb4.size; omega); clear hb4)
        | (at_builtin; go_must (refine wpList_push _ rfl (.tmp 34) (.tmp 37) 54 rfl N3 9 _ 1 16 Tryz.underlying54 info_strE rfl (by omega) (.slice Aa n ca) n _ rfl (own_alloc HO4.out _) [.string y] rfl _ rfl (cell_new _ [.string y] 9 _ rfl) (one_str _) (by omega) (by unfold maxLen; omega) (by simp; omega) ?_); intro g7 c7 w7 own7 hg7 hgg7 hb7; have HO7 := Lib.hid own7; have HB7 := Lib.hid ((HB4.out.alloc hz4 (.cells #[.string y] 9)).trans hb7); clear own7 hg7 hgg7 hb7))
      go_roundw
      case rel => exact ⟨j + 1, n + 1, c7, _, by omega, by go_num, rfl, Lib.hid (by have := HNj.out; omega), by rw [HY.out]; exact HO7, HB7⟩
      case measure => simp [intOf]; omega
    · obtain rfl : j = L.length := by omega
      rw [List.take_length] at HOw
      have hlm : (L.map stemL).length = n := by rw [List.length_map]; have := HNj.out; omega
      have HLm := Lib.hid hlm
      have HO9 := HOw.out
      rw [← hlm] at HO9
      have hso := sorted_q N3 _ (L.map stemL) wr HO9 (by rw [List.length_map]; omega) hNr
      rw [hlm] at hso
      obtain ⟨hq1, hq2⟩ := once_sorted (L.map stemL)
      obtain ⟨M, hM⟩ : ∃ M, ((L.map stemL).mergeSort fun x y => decide (x ≤ y)) = M := ⟨_, rfl⟩
      rw [hM] at hso hq1 hq2
      unfold SortedPost at hso
      obtain ⟨Q, hQ⟩ : ∃ Q, onceL M M.length = Q := ⟨_, rfl⟩
      rw [hQ] at hso hq1 hq2
      have HQl := Lib.hid (show Q.length ≤ 201 by rw [← hQ]; have := onceL_len M M.length; have h9 : M.length = L.length := by rw [← hM, List.length_mergeSort, List.length_map]
                                                  omega)
      have HQ1 := Lib.hid hq1
      have HQ2 := Lib.hid hq2
      have HSo := Lib.hid hso
      clear hso hq1 hq2 hQ hM HO9 hlm
      go_wp2_with fail
      refine HSo.out.mono ?_
      rintro e w8 ⟨v8, rfl, own8, hb8⟩
      have HSW8 := Lib.hid (show SW w nb g (.slice A D.length c) (.slice A2 S.length c2) (.slice A3 T.length c3) (fun W => W.ownsRow N3 9 1 v8 Q.length (strCells Q)) (List.replicate D.length 0) w8 from by
        have h9 := HSW3.out.go HXT.out (show Below w3.heap.size w3 w8 by rw [HN3.out]; exact HB.out.trans hb8)
        exact ⟨h9.below, h9.box, h9.sc, own8, h9.ge⟩)
      have HOS8 := Lib.hid (show OutSc D.length S (askT T (Q.take 0)) (List.replicate D.length 0) from OutSc.zero D.length S)
      obtain ⟨A8, c8, rfl, hc8, hlc8, hA8⟩ := own_form own8
      unfold maxLen at hc8
      have HA8 := Lib.hid hA8
      have HXK := Lib.hid (show XK g (fun W => W.ownsRow N3 9 1 (.slice A8 Q.length c8) Q.length (strCells Q)) from ⟨fun w1 w2 h hb => own_keepB2 h hb, fun w1 i v h => World.ownsRow.kept h (grown_setB _ _ _ _) (by
        rcases hv : (Value.slice A8 Q.length c8).ownBlock with _ | k
        · exact Or.inl rfl
        · refine Or.inr (fun e9 => ?_)
          have h9 := own_block_ge h k hv
          have h8 : k = g := Option.some.inj e9
          omega)⟩)
      have hQl := HQl.out
      clear own8 hb8 HSW3 HB HOw hA8 HSo
      go_wp2_with fail
      go_loopw [43] (fun t43 wv => ∃ (j : Nat) (sc : List Int), j ≤ Q.length ∧ t43 = .int .i64 j ∧ Hid (OutSc D.length S (askT T (Q.take j)) sc) ∧ Hid (SW w nb g (.slice A D.length c) (.slice A2 S.length c2) (.slice A3 T.length c3) (fun W => W.ownsRow N3 9 1 (.slice A8 Q.length c8) Q.length (strCells Q)) sc wv)) (fun t _ => Q.length - (intOf t).toNat)
      case atStart => exact ⟨0, _, Nat.zero_le _, rfl, HOS8, HSW8⟩
      case round =>
        clear HOS8 HSW8
        obtain ⟨j, sc, hj, rfl, HOS, HSW⟩ := hrel
        by_cases hltj : j < Q.length
        · obtain ⟨s, hs⟩ : ∃ s, Q[j]? = some s := ⟨_, List.getElem?_eq_getElem hltj⟩
          obtain ⟨g8, rfl, hg8, hg8l⟩ := HA8.out (by omega)
          have ks : wr.cell? ⟨g8, j, none⟩ = some (.string (str0 s)) := own_cell HSW.out.x (strCells_get hs)
          obtain ⟨sb, hsb⟩ : ∃ sb : ByteArray, str0 s = sb := ⟨_, rfl⟩
          rw [hsb] at ks
          have hsb2 : sb.data.toList = s := by rw [← hsb]; exact str0_list s
          have HSb := Lib.hid hsb2
          have HSn := Lib.hid (show askT T (Q.take (j + 1)) = askT T (Q.take j) ++ T.filter (fun t => wordOf t == s) by rw [← askT_snoc, List.take_add_one, hs]; rfl)
          have HSl := Lib.hid (show (askT T (Q.take (j + 1))).length ≤ T.length from askT_len HTr.out (HQ1.out.sublist (List.take_sublist _ _)))
          rw [HSn.out] at HSl
          have bx0 := HSW.out.box.c 0
          have bx1 := HSW.out.box.c 1
          have bx2 := HSW.out.box.c 2
          have bsh := HSW.out.box.sh
          have HOS9 := Lib.hid (show OutSc D.length S (askT T (Q.take j) ++ (T.take 0).filter (fun t => wordOf t == s)) sc by simpa using HOS.out)
          clear hsb hsb2 hs
          go_wp2_with fail
          clear ks bx0 bx1 bx2 bsh
          go_loopw [50] (fun t50 wv => ∃ (i : Nat) (sc : List Int), i ≤ T.length ∧ t50 = .int .i64 i ∧ Hid (OutSc D.length S (askT T (Q.take j) ++ (T.take i).filter (fun t => wordOf t == s)) sc) ∧ Hid (SW w nb g (.slice A D.length c) (.slice A2 S.length c2) (.slice A3 T.length c3) (fun W => W.ownsRow N3 9 1 (.slice (some ⟨g8, 0, none⟩) Q.length c8) Q.length (strCells Q)) sc wv)) (fun t _ => T.length - (intOf t).toNat)
          case atStart => exact ⟨0, _, Nat.zero_le _, rfl, HOS9, HSW⟩
          case round =>
            clear HOS9 HSW HOS sc
            obtain ⟨i, sc, hi, rfl, HOS, HSW⟩ := hrel
            by_cases hlt : i < T.length
            · have hA3' := HA3.out (by rintro rfl; simp at hlt)
              subst hA3'
              obtain ⟨⟨word, ds, ms⟩, hn⟩ : ∃ n, T[i]? = some n := ⟨_, List.getElem?_eq_getElem hlt⟩
              have HTe := Lib.hid (idx_term HF.out hn)
              have hwz := HW.out _ (List.mem_of_getElem? hn)
              simp only at hwz
              obtain ⟨q0, q1, q2, qd, qm⟩ := (HC3.out i _ hn).keep (Keeps.of_below (by rw [HNb.out]; exact HSW.out.below))
              obtain ⟨dq, hdq⟩ : ∃ dq, dvs i = dq := ⟨_, rfl⟩
              obtain ⟨mq, hmq⟩ : ∃ mq, mvs i = mq := ⟨_, rfl⟩
              rw [hdq] at q1 qd
              rw [hmq] at q2 qm
              simp only at q0 q1 q2 qd qm
              have QD := Lib.hid (hdq ▸ (HC3.out i _ hn).d)
              have QM := Lib.hid (hmq ▸ (HC3.out i _ hn).m)
              clear qd qm
              obtain ⟨Ad, cd, bd, od, e1, hlcd, hcd, hAd, hcelld⟩ := id QD.out
              obtain ⟨Am, cm, bq, oq, e2, hlcm, hcm, hAm, hcellm⟩ := id QM.out
              simp only at e1 e2 hlcd hlcm hAd hAm hcelld hcellm
              unfold maxLen at hcd hcm
              have HCd := Lib.hid hcelld; clear hcelld
              have HCm := Lib.hid hcellm; clear hcellm
              have HAd := Lib.hid hAd; clear hAd
              have HAm := Lib.hid hAm; clear hAm
              have HN := Lib.hid hn
              clear hn hdq hmq
              subst e1 e2
              obtain ⟨W1, hW1⟩ : ∃ W1, wr.alloc (.cells #[.string word, .slice Ad ds.length cd, .slice Am ms.length cm] 71) = W1 := ⟨_, rfl⟩
              have HT1 := Lib.hid (show CB W1 wr.heap.size 71 #[.string word, .slice Ad ds.length cd, .slice Am ms.length cm] by rw [← hW1]; exact CB.new wr _ _)
              have HS1 := Lib.hid (show SW w nb g (.slice A D.length c) (.slice A2 S.length c2) (.slice (some ⟨b3, o3, none⟩) T.length c3) (fun W => W.ownsRow N3 9 1 (.slice (some ⟨g8, 0, none⟩) Q.length c8) Q.length (strCells Q)) sc W1 by rw [← hW1]; exact HSW.out.alloc HXK.out _)
              have HgT := Lib.hid (show g < wr.heap.size from HSW.out.sc.lt)
              have hnt := HT1.out.lt
              obtain ⟨nt, hnt0⟩ : ∃ nt, wr.heap.size = nt := ⟨_, rfl⟩
              rw [hnt0] at HT1 HgT hnt
              have HW1 := Lib.hid hW1
              have HNt := Lib.hid hnt0
              have HGo := Lib.hid (show (T.take (i + 1)).filter (fun t => wordOf t == s) = (T.take i).filter (fun t => wordOf t == s) ++ (if (wordOf ⟨word, ds, ms⟩ == s) = true then [⟨word, ds, ms⟩] else []) by
                rw [List.take_add_one, HN.out, List.filter_append]
                simp [List.filter_cons])
              have tx0 := HT1.out.c 0
              have tx1 := HT1.out.c 1
              have tx2 := HT1.out.c 2
              have tsh := HT1.out.sh
              rw [← hW1] at tx0 tx1 tx2 tsh
              rw [← hnt0] at tx0 tx1 tx2 tsh
              clear hW1 hnt0
              by_cases hask : word = sb
              · subst hask
                have hnw : (wordOf ⟨word, ds, ms⟩ == s) = true := by rw [beq_iff_eq]; exact HSb.out
                rw [hnw, if_pos rfl] at HGo
                clear hnw
                obtain ⟨hdl0, hdlm⟩ := term_lens HTe.out
                have hdl9 := Nat.le_trans (term_short HTe.out) hD
                simp only at hdl0 hdlm hdl9
                have HLm := Lib.hid hdlm; clear hdlm
                have bx0 := HS1.out.box.c 0
                have bx1 := HS1.out.box.c 1
                have bx2 := HS1.out.box.c 2
                have bsh := HS1.out.box.sh
                have tx0 := HT1.out.c 0
                have tx1 := HT1.out.c 1
                have tx2 := HT1.out.c 2
                have tsh := HT1.out.sh
                obtain ⟨M0, hM0⟩ : ∃ M0, D.length / ds.length = M0 := ⟨_, rfl⟩
                have hM9 : M0 ≤ 120 := by rw [← hM0]; exact Nat.le_trans (Nat.div_le_self _ _) hD
                have hdv : (D.length : Int).tdiv (ds.length : Int) = (M0 : Int) := by rw [← hM0, Int.tdiv_eq_ediv_of_nonneg (by omega)]; rfl
                have hdz : ((ds.length : Int) == 0) = false := by rw [beq_eq_false_iff_ne]; omega
                have hdn : ¬ (ds.length : Int) = 0 := by omega
                have hwM : IntKind.i64.wrap (M0 : Int) = (M0 : Int) := IntWalk.i64_in _ (by omega)
                obtain ⟨kw, hkw⟩ : ∃ kw : Nat, bitsN M0 = kw := ⟨_, rfl⟩
                have hk7 : kw ≤ 7 := by rw [← hkw]; exact bitsN_small 7 M0 (by omega)
                have hbt := bits_q M0 W1 (by omega)
                rw [hkw] at hbt
                have HBt := Lib.hid hbt
                have HM0 := Lib.hid hM0
                have HK8 := Lib.hid hkw
                clear hM0 hkw hbt
                have hW1 := HW1.out
                have hnt0 := HNt.out
                go_wp2_with (go_at_call 37; go_must (refine HBt.out.mono ?_); rintro e w5 ⟨rfl, hb5⟩; have HS5 := Lib.hid (HS1.out.go HXK.out hb5); have HT5 := Lib.hid (HT1.out.below hb5); clear hb5; have ty0 := HT5.out.c 0; have ty1 := HT5.out.c 1; have ty2 := HT5.out.c 2; have tshy := HT5.out.sh)
                clear hW1 hnt0 bx0 bx1 bx2 bsh tx0 tx1 tx2 tsh ty0 ty1 ty2 tshy hdv hdz hdn hwM HBt
                obtain ⟨Lt, hLt⟩ : ∃ Lt, askT T (Q.take j) ++ (T.take i).filter (fun t => wordOf t == s) = Lt := ⟨_, rfl⟩
                have hLt9 : Lt.length ≤ 400000 := by
                  rw [← hLt, List.length_append]
                  have h1 := ((List.take_sublist i T).filter (fun t => wordOf t == s)).length_le
                  have h2 := HSl.out
                  rw [List.length_append] at h2
                  omega
                have HLt := Lib.hid hLt
                rw [hLt] at HOS
                clear hLt
                go_loopw [69] (fun t69 wv => ∃ (k : Nat) (sc2 : List Int), k ≤ ds.length ∧ t69 = .int .i64 k ∧ Hid (InSc D.length S Lt ⟨word, ds, ms⟩ k sc2) ∧ Hid (SW w nb g (.slice A D.length c) (.slice A2 S.length c2) (.slice (some ⟨b3, o3, none⟩) T.length c3) (fun W => W.ownsRow N3 9 1 (.slice (some ⟨g8, 0, none⟩) Q.length c8) Q.length (strCells Q)) sc2 wv) ∧ Hid (CB wv nt 71 #[.string word, .slice Ad ds.length cd, .slice Am ms.length cm])) (fun t _ => ds.length - (intOf t).toNat)
                case atStart => exact ⟨0, _, Nat.zero_le _, rfl, HOS.out.start _, HS5, HT5⟩
                case round =>
                  clear HS5 HT5 HOS HSW HS1 HT1
                  obtain ⟨k, sc2, hk9, rfl, HIS, HSx, HTx⟩ := hrel
                  by_cases hlt2 : k < ds.length
                  · obtain ⟨d, hd⟩ : ∃ d, ds[k]? = some d := ⟨_, List.getElem?_eq_getElem hlt2⟩
                    obtain ⟨m9, hm9⟩ : ∃ m, ms[k]? = some m := ⟨_, List.getElem?_eq_getElem (by rw [← HLm.out]; exact hlt2)⟩
                    obtain ⟨hd0, hd1, hmm1, hmm2⟩ := term_post HTe.out hd hm9
                    obtain ⟨dn, rfl⟩ : ∃ dn : Nat, d = (dn : Int) := ⟨d.toNat, by omega⟩
                    obtain ⟨z, hz9⟩ : ∃ z, S[dn]? = some z := ⟨_, List.getElem?_eq_getElem (by rw [HFs.out]; omega)⟩
                    obtain ⟨v, hv9⟩ : ∃ v, sc2[dn]? = some v := ⟨_, List.getElem?_eq_getElem (by rw [HIS.out.len]; omega)⟩
                    obtain ⟨hz0, hz1⟩ := idx_size HF.out hz9
                    obtain ⟨hv0, hv1⟩ := HIS.out.small hLt9 (by omega) hv9
                    have HKp := Lib.hid (Keeps.of_below (w := w) (by rw [HNb.out]; exact HSx.out.below))
                    obtain rfl := HAd.out (by intro h0; subst h0; simp at hlt2)
                    obtain rfl := HAm.out (by intro h0; subst h0; cases hm9)
                    obtain rfl := HA2.out (by intro h0; subst h0; cases hz9)
                    have kd := HKp.out _ _ (HCd.out k _ hd).1
                    have km := HKp.out _ _ (HCm.out k _ hm9).1
                    have kz := HKp.out _ _ (HC2.out dn _ hz9).1
                    have kv := (HSx.out.sc.c dn).trans (scC_get hv9)
                    have kf := HSx.out.sc.f dn
                    obtain ⟨hP0, hP1, hX0, hX1⟩ := add_val (m := m9) (W := (kw : Int)) (z := z) ⟨hmm1, hmm2⟩ (by omega) ⟨hz0, hz1⟩
                    have HNx := Lib.hid (fun h1 h2 => HIS.out.next (dn := dn) (m := m9) (z := z) (v := v) hd hm9 hz9 hv9 h1 h2)
                    simp only at HNx
                    rw [HM0.out, HK8.out] at HNx
                    obtain ⟨P, hP⟩ : ∃ P, m9 * 1000 * (kw : Int) = P := ⟨_, rfl⟩
                    rw [hP] at hP0 hP1 hX0 hX1 HNx
                    obtain ⟨Y, hY⟩ : ∃ Y, z + 10 = Y := ⟨_, rfl⟩
                    have hY0 : 10 ≤ Y := by omega
                    rw [hY] at hX0 hX1 HNx
                    obtain ⟨X, hX⟩ : ∃ X, P.tdiv Y = X := ⟨_, rfl⟩
                    rw [hX] at hX0 hX1 HNx
                    have HNx2 := Lib.hid (HNx.out hX0 hX1)
                    have e1 : IntKind.i64.wrap (m9 * 1000) = m9 * 1000 := IntWalk.i64_in _ (by omega)
                    have e2 : IntKind.i64.wrap P = P := IntWalk.i64_in _ (by omega)
                    have e3 : IntKind.i64.wrap Y = Y := IntWalk.i64_in _ (by omega)
                    have e4 : (Y == 0) = false := by rw [beq_eq_false_iff_ne]; omega
                    have e4b : ¬ Y = 0 := by omega
                    have e5 : IntKind.i64.wrap X = X := IntWalk.i64_in _ (by omega)
                    have e6 : IntKind.i64.wrap (v + X) = v + X := IntWalk.i64_in _ (by omega)
                    have bx0 := HSx.out.box.c 0
                    have bx1 := HSx.out.box.c 1
                    have bx2 := HSx.out.box.c 2
                    have bsh := HSx.out.box.sh
                    have tx0 := HTx.out.c 0
                    have tx1 := HTx.out.c 1
                    have tx2 := HTx.out.c 2
                    have tsh := HTx.out.sh
                    have kf2 : (World.drew wr).frozen? ⟨g, dn, none⟩ = false := kf
                    have hdi : (dn : Int) < (D.length : Int) := by omega
                    have hdi2 : (dn : Int) < (S.length : Int) := by rw [HFs.out]; omega
                    have hii : (k : Int) < (ms.length : Int) := by rw [← HLm.out]; omega
                    have HSd := Lib.hid (HSx.out.drew HXK.out)
                    have HTd := Lib.hid (show CB (World.drew wr) nt 71 #[.string word, .slice (some ⟨bd, od, none⟩) ds.length cd, .slice (some ⟨bq, oq, none⟩) ms.length cm] from HTx.out)
                    clear hd hm9 hz9 hv9 HNx
                    go_wp2_with fail
                    go_still_tail 21, (by kernel_rfl)
                    change wpList _ _ _ _ _ (World.drew wr)
                    go_wp2_with fail
                    go_roundw
                    case rel => exact ⟨k + 1, _, by omega, by go_num, HNx2, Lib.hid (HSx.out.put HXK.out dn _ |>.drew HXK.out), Lib.hid ((HTx.out.other (grown_setB _ _ _ _) (by have := HgT.out; intro e; have := Option.some.inj e; omega)).drew)⟩
                    case measure => simp [intOf]; omega
                  · obtain rfl : k = ds.length := by omega
                    go_wp2_with fail
                    go_roundw
                    case rel => exact ⟨i + 1, sc2, by omega, by go_num, by rw [HGo.out, ← List.append_assoc, HLt.out]; exact Lib.hid (HIS.out.done hdl9), HSx⟩
                    case measure => simp [intOf]; omega
              · have hn1 := str_ne hask
                have hn2 := str_ne2 hask
                have hnw : (wordOf ⟨word, ds, ms⟩ == s) = false := by
                  rw [beq_eq_false_iff_ne]
                  intro e9
                  apply hask
                  have e8 : word.data.toList = sb.data.toList := by rw [HSb.out]; exact e9
                  have e7 : word.data = sb.data := Array.ext' e8
                  cases word; cases sb; simpa using e7
                have HNw := Lib.hid hnw
                clear hnw
                go_wp2_with fail
                rw [HW1.out]
                go_roundw
                case rel => exact ⟨i + 1, sc, by omega, by go_num, by rw [HGo.out, HNw.out]; simpa using HOS, HS1⟩
                case measure => simp [intOf]; omega
            · obtain rfl : i = T.length := by omega
              rw [List.take_length, ← HSn.out] at HOS
              go_wp2_with fail
              go_roundw
              case rel => exact ⟨j + 1, sc, by omega, by go_num, HOS, HSW⟩
              case measure => simp [intOf]; omega
        · obtain rfl : j = Q.length := by omega
          rw [List.take_length] at HOS
          have HAs := Lib.hid (show askT T Q = T.filter (askB (L.map stemL)) from ask_same HTr.out HQ1.out _ (fun t => by unfold askB; rw [List.contains_iff_mem]; exact (HQ2.out _).symm))
          rw [HAs.out] at HOS
          have hscl := HOS.out.len
          have HScl := Lib.hid hscl; clear hscl
          have HSBx := Lib.hid HSW.out.box
          have HSSc := Lib.hid HSW.out.sc
          have HSBl := Lib.hid HSW.out.below
          have HRi := Lib.hid (idx_drise HF.out)
          obtain ⟨N5, hN5⟩ : ∃ n, wr.heap.size = n := ⟨_, rfl⟩
          have hg5 : g < N5 := by rw [← hN5]; exact HSSc.out.lt
          have HN5 := Lib.hid hN5
          have HB5 := Lib.hid (show Below N5 wr wr from Below.refl _ _)
          obtain ⟨wa, hwa⟩ : ∃ wa, wr = wa := ⟨_, rfl⟩
          rw [hwa] at HSBx HSSc HSBl HN5
          have HB5 := Lib.hid (show Below N5 wa wr by rw [← hwa]; exact Below.refl _ _)
          clear hN5 hwa HSW
          go_wp2_with fail
          go_loopw [18, 100] (fun t18 t100 wv => ∃ (i n cc : Nat) (A9 : Option Addr), i ≤ D.length ∧ t100 = .int .i64 i ∧ t18 = .slice A9 n cc ∧ n ≤ i ∧ Hid ((hitsK D sc i).length = n) ∧ Hid (wv.ownsRow N5 40 2 (.slice A9 n cc) n (hitsC (hitsK D sc i))) ∧ Hid (Below N5 wa wv)) (fun _ t _ => D.length - (intOf t).toNat)
          case atStart => exact ⟨0, 0, 0, none, Nat.zero_le _, rfl, rfl, Nat.le_refl _, Lib.hid rfl, Lib.hid (World.ownsRow_nil _ _ _ _), HB5⟩
          case round =>
            clear HB5
            obtain ⟨i, n, cc, A9, hi9, rfl, rfl, hni, HLn, HOw, HB⟩ := hrel
            have hNr : N5 ≤ wr.heap.size := by have := HB.out.size; have := HN5.out; omega
            have HX := Lib.hid (HSBx.out.belowB HB.out (by omega))
            have HSc := Lib.hid (HSSc.out.belowB HB.out (by omega))
            by_cases hlt3 : i < D.length
            · obtain ⟨d, hd⟩ : ∃ d, D[i]? = some d := ⟨_, List.getElem?_eq_getElem hlt3⟩
              obtain ⟨v, hv9⟩ : ∃ v, sc[i]? = some v := ⟨_, List.getElem?_eq_getElem (by rw [HScl.out]; exact hlt3)⟩
              have kv := (HSc.out.c i).trans (scC_get hv9)
              have hii : (i : Int) < (D.length : Int) := by omega
              by_cases hv0 : 0 < v
              · obtain rfl := HA1.out (by intro h0; subst h0; cases hd)
                have kd := ((HC1.out i d hd).keep (Keeps.of_below (by rw [HNb.out]; exact HSBl.out.trans (HB.out.mono (by omega))))).c0
                have bx0 := HX.out.c 0
                have bsh := HX.out.sh
                have HEq := Lib.hid (show hitsK D sc (i + 1) = hitsK D sc i ++ [⟨d.addr, v⟩] by rw [hitsK_succ, List.getD_eq_getElem?_getD, hv9]; simp [hv0, hd])
                obtain ⟨da, hda⟩ : ∃ da, d.addr = da := ⟨_, rfl⟩
                rw [hda] at kd HEq
                clear hda hd hv9
                go_wp2_with (at_builtin; go_must (refine wpList_push _ rfl (.tmp 107) (.tmp 116) 34 rfl N5 40 _ 2 24 Tryz.underlying34 info_hit rfl (by omega) (.slice A9 n cc) n _ rfl (own_alloc HOw.out _) [.string da, .int .i64 v] rfl _ rfl (cell_new _ [.string da, .int .i64 v] 40 _ rfl) (hit_two da v) (by omega) (by unfold maxLen; omega) (by simp; omega) ?_); intro g7 c7 w7 own7 hg7 hgg7 hb7; have HO7 := Lib.hid own7; have HB7 := Lib.hid ((HB.out.alloc hNr (.cells #[.string da, .int .i64 v] 40)).trans hb7); clear own7 hg7 hgg7 hb7)
                go_roundw
                case rel => exact ⟨i + 1, n + 1, c7, _, by omega, by go_num, rfl, by omega, by rw [HEq.out]; exact Lib.hid (by rw [List.length_append, HLn.out]; rfl), by rw [HEq.out, hitsC_snoc]; exact HO7, HB7⟩
                case measure => simp [intOf]; omega
              · have HEq := Lib.hid (show hitsK D sc (i + 1) = hitsK D sc i by rw [hitsK_succ, List.getD_eq_getElem?_getD, hv9]; simp [hv0])
                have hv1 : decide (0 < v) = false := by simpa using hv0
                go_wp2_with fail
                go_roundw
                case rel => exact ⟨i + 1, n, cc, A9, by omega, by go_num, rfl, by omega, by rw [HEq.out]; exact HLn, by rw [HEq.out]; exact HOw, HB⟩
                case measure => simp [intOf]; omega
            · obtain rfl : i = D.length := by omega
              obtain ⟨L0, hL0⟩ : ∃ L0, hitsK D sc D.length = L0 := ⟨_, rfl⟩
              have HQs := Lib.hid (show hitsQ D S T q = L0 by rw [hitsQ, stemsQ, HL.out, ← HOS.out.eq]; exact hL0)
              have HLo := Lib.hid (show L0.Pairwise (fun x y => hAddr x < hAddr y) by rw [← hL0]; exact hitsK_rise HRi.out sc _)
              rw [hL0] at HLn HOw
              obtain ⟨m0, hm0⟩ : ∃ m0, n = m0 := ⟨_, rfl⟩
              subst hm0
              have hm9 : n ≤ 120 := by omega
              have HA9 := Lib.hid (fun h0 => by obtain ⟨A8, c8, h8, _, _, h9⟩ := own_form HOw.out; cases h8; exact h9 h0 : 0 < n → ∃ g, A9 = some ⟨g, 0, none⟩ ∧ N5 ≤ g ∧ g < wr.heap.size)
              have hc7 : cc ≤ maxLen ∧ n ≤ cc := by obtain ⟨A8, c8, h8, h9, h10, _⟩ := own_form HOw.out; cases h8; exact ⟨h9, h10⟩
              obtain ⟨hc7, hc8⟩ := hc7
              unfold maxLen at hc7
              obtain ⟨kk, hkk⟩ : ∃ kk : Nat, min (mo : Int) (n : Int) = (kk : Int) := ⟨min mo n, by omega⟩
              have hkn : kk ≤ n := by omega
              have HKm := Lib.hid (show kk = min mo n by omega)
              have HKk := Lib.hid hkk
              clear hL0 HOS HRi HScl HX HSc hkk
              go_wp2_with fail
              go_loopw [121] (fun t121 wr => ∃ (i : Nat) (S C : List HitV), i ≤ n ∧ t121 = .int .i64 i ∧ Hid (S.length = i) ∧ Hid (S.length + C.length = n) ∧ Hid ((S ++ C).Perm L0) ∧ Hid (S.Pairwise HitR) ∧ Hid (LowS S C) ∧ Hid (wr.ownsRow N5 40 2 (.slice A9 n cc) n (hitsC (S ++ C))) ∧ Hid (Below N5 wa wr)) (fun t _ => n - (intOf t).toNat)
              case atStart => exact ⟨0, [], L0, Nat.zero_le _, rfl, rfl, Lib.hid (by have h9 := HLn.out; simp only [List.length_nil]; omega), Lib.hid (by rw [List.nil_append]), List.Pairwise.nil, LowS.nil HLo.out, HOw, HB⟩
              case round =>
                clear HOw HB hNr
                obtain ⟨i, S2, C, hi, rfl, HSl2, HSc, HPm, HSs, HLw2, HOw, HBw⟩ := hrel
                by_cases hlt : i < n
                · obtain ⟨x, C', rfl⟩ : ∃ x C', C = x :: C' := by
                    cases C with
                    | nil => have h1 := HSc.out; have h2 := HSl2.out; simp at h1; omega
                    | cons x C' => exact ⟨x, C', rfl⟩
                  obtain ⟨gg, rfl, hgg5, hgl⟩ := HA9.out (by omega)
                  have HIn := Lib.hid (InsAt.start HPm.out HSs.out)
                  have HLx := Lib.hid HLw2.out.start
                  have hi64 : (i : Int) < 9223372036854775807 := by omega
                  clear HA9
                  go_wp2_with fail
                  go_loopw [22] (fun t22 wr => ∃ (k : Nat) (A' B : List HitV), k ≤ i ∧ t22 = .int .i64 k ∧ Hid (A'.length = k) ∧ Hid (A'.length + B.length = i) ∧ Hid (InsAt HitR L0 A' x B C') ∧ Hid (LowX A' x B C') ∧ Hid (wr.ownsRow N5 40 2 (.slice (some ⟨gg, 0, none⟩) n cc) n (hitsC (A' ++ x :: (B ++ C')))) ∧ Hid (Below N5 wa wr)) (fun t _ => (intOf t).toNat)
                  case atStart => exact ⟨i, S2, [], Nat.le_refl _, rfl, HSl2, Lib.hid (by have h9 := HSl2.out; simp only [List.length_nil]; omega), HIn, HLx, HOw, HBw⟩
                  case round =>
                    clear HOw HBw HIn HSs HPm HLx HLw2
                    obtain ⟨k, A', B, hk, rfl, HAl, HBl, HIn, HLx, HOw, HBw⟩ := hrel
                    have HQx := Lib.hid (own_hit HOw.out (j := k) (x := x) (by rw [List.getElem?_append_right (by rw [HAl.out]; exact Nat.le_refl _), HAl.out]; simp))
                    have HCl : Hid (i + 1 + C'.length = n) := Lib.hid (by have h1 := HSc.out; have h2 := HSl2.out; simp at h1; omega)
                    by_cases hk0 : k = 0
                    · subst hk0
                      obtain rfl : A' = [] := List.eq_nil_of_length_eq_zero HAl.out
                      have HFi := Lib.hid HIn.out.first
                      have HLf := Lib.hid HLx.out.low
                      clear HQx
                      go_wp2_with fail
                      go_quiet (fail)
                      go_wp2_with fail
                      go_roundw
                      case rel => exact ⟨i + 1, x :: B, C', by omega, by go_num, Lib.hid (by have h9 := HBl.out; simp only [List.length_nil] at h9; simp only [List.length_cons]; omega), Lib.hid (by have h1 := HBl.out; have h2 := HCl.out; simp only [List.length_nil] at h1; simp only [List.length_cons]; omega), HFi.out.2, HFi.out.1, HLf, own_drewN HOw.out _, Below.drewN' HBw.out _⟩
                      case measure => simp [intOf]; omega
                    · obtain ⟨A'', y, rfl⟩ : ∃ A'' y, A' = A'' ++ [y] := by
                        rcases List.eq_nil_or_concat A' with h9 | ⟨a, b, h9⟩
                        · exact absurd (by rw [← HAl.out, h9]; rfl) hk0
                        · exact ⟨a, b, by rw [h9, List.concat_eq_append]⟩
                      have hq1 : A''.length + 1 = k := by have := HAl.out; simpa using this
                      have HQy := Lib.hid (own_hit HOw.out (j := k - 1) (x := y) (by rw [List.append_assoc, List.getElem?_append_right (by omega), show k - 1 - A''.length = 0 by omega]; rfl))
                      have hxp := HQx.out.1
                      have hxb := HQx.out.2.1
                      have hyp := HQy.out.1
                      have hyb := HQy.out.2.1
                      have hk1 : (0 : Int) < (k : Int) := by omega
                      have hk6 : 0 < k := by omega
                      have hk7 : decide (0 < k) = true := by simpa using hk6
                      have hk2 : (0 : Int) ≤ (k : Int) - 1 := by omega
                      have hk3 : ((k : Int) - 1).toNat = k - 1 := by omega
                      have hk4 : (k : Int) - 1 < (n : Int) := by omega
                      have hk5 : (k : Int) < (n : Int) := by omega
                      have HQ1 := Lib.hid hq1
                      clear hq1
                      by_cases hxy : y.score < x.score
                      · have HXY := Lib.hid hxy
                        have hle : decide (y.score < x.score) = true := decide_eq_true hxy
                        go_wp2_with fail
                        go_quiet (fail)
                        go_wp2_with fail
                        have HOq := Lib.hid (own_drewN HOw.out nq)
                        have HBq := Lib.hid (Below.drewN' HBw.out nq)
                        have d0 : (wr.drewN nq).cell? ⟨gg, k * 2, none⟩ = some (.string x.addr) := HQx.out.1
                        have d1 : (wr.drewN nq).cell? ⟨gg, k * 2 + 1, none⟩ = some (.int .i64 x.score) := HQx.out.2.1
                        have d2 : (wr.drewN nq).cell? ⟨gg, (k - 1) * 2, none⟩ = some (.string y.addr) := HQy.out.1
                        have d3 : (wr.drewN nq).cell? ⟨gg, (k - 1) * 2 + 1, none⟩ = some (.int .i64 y.score) := HQy.out.2.1
                        have f0 : (wr.drewN nq).frozen? ⟨gg, k * 2, none⟩ = false := HQx.out.2.2.1
                        have f1 : (wr.drewN nq).frozen? ⟨gg, k * 2 + 1, none⟩ = false := HQx.out.2.2.2
                        have f2 : (wr.drewN nq).frozen? ⟨gg, (k - 1) * 2, none⟩ = false := HQy.out.2.2.1
                        have f3 : (wr.drewN nq).frozen? ⟨gg, (k - 1) * 2 + 1, none⟩ = false := HQy.out.2.2.2
                        generalize wr.drewN nq = wq at HOq HBq d0 d1 d2 d3 f0 f1 f2 f3 ⊢
                        clear hxp hxb hyp hyb HQx HQy hle hxy hk0 HOw HBw
                        go_region
                        go_wp2_with fail
                        go_roundw
                        case rel =>
                          have hq := HQ1.out
                          subst hq
                          refine ⟨A''.length, A'', y :: B, by omega, by rw [show (((A''.length + 1 : Nat) : Int) - 1) = (A''.length : Int) by omega], rfl, Lib.hid (by have h9 := HBl.out; simp only [List.length_append, List.length_cons, List.length_nil] at h9 ⊢; omega), HIn.out.down (Or.inl HXY.out), HLx.out.down, ?_, ?_⟩
                          · have h4 := own_put (own_put (own_put (own_put HOq.out ((A''.length + 1) * 2) (.string y.addr)) ((A''.length + 1) * 2 + 1) (.int .i64 y.score)) ((A''.length + 1 - 1) * 2) (.string x.addr)) ((A''.length + 1 - 1) * 2 + 1) (.int .i64 x.score)
                            rw [show A'' ++ [y] ++ x :: (B ++ C') = A'' ++ y :: x :: (B ++ C') by simp, Nat.add_sub_cancel, hits_swap A'' (B ++ C') y x] at h4
                            rw [Nat.add_sub_cancel]
                            exact own_drew h4
                          · have hgN : N5 ≤ gg := by omega
                            exact ((((HBq.out.setCell hgN _).setCell hgN _).setCell hgN _).setCell hgN _).drew
                        case measure => simp [intOf]; omega
                      · have hle : decide (y.score < x.score) = false := decide_eq_false hxy
                        have HSt := Lib.hid (HIn.out.stop HitR.tr (HLx.out.stop hxy))
                        have HLf := Lib.hid HLx.out.low
                        go_wp2_with fail
                        go_quiet (fail)
                        go_wp2_with fail
                        go_roundw
                        case rel => exact ⟨i + 1, A'' ++ [y] ++ x :: B, C', by omega, by go_num, Lib.hid (by have h9 := HBl.out; simp only [List.length_append, List.length_cons, List.length_nil] at h9 ⊢; omega), Lib.hid (by have h1 := HBl.out; have h2 := HCl.out; simp only [List.length_append, List.length_cons, List.length_nil] at h1 ⊢; omega), HSt.out.2, HSt.out.1, HLf, Lib.hid (by have h9 := own_drewN HOw.out nq; rw [show A'' ++ [y] ++ x :: B ++ C' = A'' ++ [y] ++ x :: (B ++ C') by simp]; exact h9), Below.drewN' HBw.out _⟩
                        case measure => simp [intOf]; omega
                · obtain rfl : i = n := by omega
                  obtain rfl : C = [] := List.eq_nil_of_length_eq_zero (by have h1 := HSc.out; have h2 := HSl2.out; omega)
                  rw [List.append_nil] at HPm HOw
                  have hkk := HKk.out
                  go_wp2_with fail
                  go_ret
                  exact SearchRefPost.hits HQs.out HPm.out HSs.out HLn.out HKm.out (by omega) HOw.out (HSBl.out.trans (HBw.out.mono (by omega)))
end Go.Proofs.YtjcegmbfipjdcaaGreatDoor
