/-
  The headings of a document: mark.headings, mastref1.headings.
-/
import Derived.Test.YtikijmjcmpkkdaaGreatDoorClone
import Derived.Test.YtikijmjcmpkkdaaGreatDoorIdsPlain
import Derived.Laws.AppendOwnNone
namespace Go.Proofs.YtikijmjcmpkkdaaGreatDoor
open Go.RowKit Go.Deep

/-- nodes' cells, each with its Kids' value -/
def hcells (ps : List (Node × Value)) : List Value := ps.flatMap (fun p => nodeVals p.1 p.2)
theorem hcells_len (ps : List (Node × Value)) : (hcells ps).length = ps.length * 6 := by
  induction ps with
  | nil => rfl
  | cons d r ih => simp only [hcells, List.flatMap_cons, List.length_append, List.length_cons, nodeVals, List.length_nil] at ih ⊢; omega
theorem hcells_append (A B : List (Node × Value)) : hcells (A ++ B) = hcells A ++ hcells B := by simp [hcells]
theorem hcells_at : ∀ (l : List (Node × Value)) (i : Nat) (a : Node × Value), l[i]? = some a → ∀ j, j < 6 → (hcells l)[i * 6 + j]? = (nodeVals a.1 a.2)[j]?
  | [], i, a, h => by simp at h
  | b :: r, 0, a, h => by
    simp at h
    subst h
    intro j hj
    rw [show hcells (b :: r) = nodeVals b.1 b.2 ++ hcells r from rfl, Nat.zero_mul, Nat.zero_add, List.getElem?_append_left (by simp [nodeVals]; omega)]
  | b :: r, i + 1, a, h => by
    intro j hj
    have ih := hcells_at r i a (by simpa using h) j hj
    rw [show hcells (b :: r) = nodeVals b.1 b.2 ++ hcells r from rfl, List.getElem?_append_right (by simp [nodeVals]; omega)]
    rw [show (i + 1) * 6 + j - (nodeVals b.1 b.2).length = i * 6 + j by simp [nodeVals]; omega]
    exact ih
/-- a node with its Kids as they lie -/
def HOk (w : World) (p : Node × Value) : Prop := NodeOk p.1 ∧ NodesAt w p.2 p.1.kids
theorem HOk.keep {w w' : World} {p : Node × Value} (h : HOk w p) (k : Keeps w w') : HOk w' p := ⟨h.1, h.2.keep k⟩
theorem hcells_one {w : World} {ps : List (Node × Value)} (h : ∀ p ∈ ps, HOk w p) : ∀ u ∈ hcells ps, u.oneCell' = true := by
  intro u hu
  obtain ⟨p, hp, hu2⟩ := List.mem_flatMap.1 hu
  have h2 := (h p hp).2
  generalize hkv : p.2 = kv at h2 hu2
  cases h2
  exact six_cells p.1 _ rfl u hu2
def HeadPost (w0 : World) (hs : List Node) (w : World) (e : Ending) (w' : World) : Prop :=
  ∃ (A : Option Addr) (c : Nat) (ps : List (Node × Value)), e = .returned (.slice A ps.length c) ∧ ps.map (·.1) = hs ∧ (∀ p ∈ ps, HOk w0 p) ∧ w'.ownsRow w.heap.size 45 6 (.slice A ps.length c) ps.length (hcells ps) ∧ Below w.heap.size w w'
theorem ps_len {ps : List (Node × Value)} {hs : List Node} (h : ps.map (·.1) = hs) : ps.length = hs.length := by rw [← h, List.length_map]

/-- append of another row of the call's own, whatever the size -/
theorem wpList_joinK {P : Program} {ops : Array Oper} {rest : List Oper} {o : Oper} {a : Act} {Q : Exit → Act → World → Prop} (W : World) (hgd : o.guard = none) (s x : Operand) (t : TypeId)
    (ho : o.op = .call { callee := .builtin .append, args := #[s, x], argTypes := #[t, t] })
    (B : Nat) (e : TypeId) (z : Value) (K bytes : Nat) (ht : P.underlying t = some (.slice e)) (hi : (P.info? e).map (fun i => (i.zero, i.size, i.bytes)) = some (some z, K, bytes)) (hzs : z.cells.size = K) (hK : 0 < K)
    (v : Value) (n : Nat) (xs : List Value) (hs : a.eval s = v) (hown : W.ownsRow B e K v n xs)
    (B2 : Nat) (u : Value) (m : Nat) (ys : List Value) (hx : a.eval x = u) (hu : W.ownsRow B2 e K u m ys) (h1 : ∀ y ∈ ys, y.oneCell' = true)
    (hn : (n + m) * bytes ≤ 140737488355328) (hn' : n + m ≤ maxLen) (hB : B ≤ W.heap.size)
    (h : ∀ A c w', w'.ownsRow B e K (.slice A (n + m) c) (n + m) (xs ++ ys) → Below B W w' → W.heap.size ≤ w'.heap.size → wpList P ops Q rest (a.put o.dst (.slice A (n + m) c)) w') :
    wpList P ops Q (o :: rest) a W := by
  obtain ⟨i, hi1, hi2, hi3, hi4⟩ := info_parts hi
  rcases hu.2 with ⟨rfl, hm⟩ | ⟨g, cap, cur, rfl, hBg, hg, hnc, hcm, hcs, htake⟩
  · subst hm
    have hy : ys = [] := List.eq_nil_of_length_eq_zero (by have := hu.1; omega)
    subst hy
    refine wpList_append_own_none hgd s x t ho B e i K ht hi1 v n xs hs hown hx ?_
    obtain ⟨A, c, rfl, _, _, _⟩ := own_form hown
    exact h A c W (by simpa using hown) (Below.refl _ _) (Nat.le_refl _)
  · refine wpList_append_own_at (P := P) W hgd s x t ho B e i z K bytes ht hi1 hi2 hi3 hi4 hzs hK v n xs hs hown ⟨g, 0, none⟩ m cap ys hx hu.1 ?_ h1 hn' hn hB ?_
    · intro j y hj
      have hadd : (⟨g, 0, none⟩ : Addr).add j = ⟨g, j, none⟩ := by unfold Addr.add; split <;> simp_all
      rw [hadd]
      have hjl : j < m * K := by have := (List.getElem?_eq_some_iff.1 hj).1; have := hu.1; omega
      rw [hu.cellAt j hjl, hj]
    · intro v' w' h2 hg2 _ _
      obtain ⟨A, c, rfl, _, _, _⟩ := own_form h2
      exact h A c w' h2 (below_of_grown hg2 hB (own_block_ge hown)) hg2.size
theorem own_belowK {w w' : World} {B K : Nat} {e : TypeId} {v : Value} {n : Nat} {xs : List Value} (h : w.ownsRow B e K v n xs) (hb : Below w.heap.size w w') : w'.ownsRow B e K v n xs := own_agree h fun g hg => hb.block g (h.lt g hg).2

set_option maxRecDepth 100000 in
set_option maxHeartbeats 4000000 in
theorem headings_any (w0 : World) (N : Nat) : ∀ (l : List Node) (v : Value) (w : World), SizeOf.sizeOf l ≤ N → NodesAt w0 v l → Keeps w0 w → total l ≤ 1048576 → Calls Tryz.prog 17 #[v] w (HeadPost w0 (headsL l) w) := by
  induction N with
  | zero =>
    intro l v w hN
    cases l <;> simp at hN
  | succ N ih =>
    intro l v w hN h hw0 ht
    obtain ⟨An, c, bl, o, kv, rfl, hlc, hc, hA, hcell, hkid⟩ := h.inv
    unfold maxLen at hc
    have HCell := Lib.hid hcell; clear hcell
    have HKid := Lib.hid hkid; clear hkid
    have HN := Lib.hid hN; clear hN
    have HI := Lib.hid ih; clear ih
    have HW0 := Lib.hid hw0; clear hw0
    clear h
    go_enter Tryz.func17, Tryz.ntmps17
    go_wp2_with fail
    go_loopw [3, 8] (fun t3 t wr => ∃ (k m : Nat) (Ao : Option Addr) (co : Nat) (ps : List (Node × Value)), k ≤ l.length ∧ t = .int .i64 k ∧ t3 = .slice Ao m co ∧ Hid (ps.length = m) ∧ Hid (ps.map (·.1) = headsL (l.take k)) ∧ Hid (∀ p ∈ ps, HOk w0 p) ∧ Hid (wr.ownsRow w.heap.size 45 6 (.slice Ao m co) m (hcells ps)) ∧ Hid (Below w.heap.size w wr)) (fun _ t _ => l.length - (intOf t).toNat)
    case atStart => exact ⟨0, 0, none, 0, [], Nat.zero_le _, rfl, rfl, rfl, (show _ = _ by rw [List.take_zero, headsL_nil]; rfl), (fun p hp => by cases hp), World.ownsRow_nil _ _ _ _, Below.refl _ _⟩
    case round =>
      obtain ⟨k, m, Ao, co, ps, hk, rfl, rfl, hpl, hpm, hok, hown, hbel⟩ := hrel
      by_cases hlt : k < l.length
      · have hA' := hA (by rintro rfl; simp at hlt)
        subst hA'
        obtain ⟨n, hn⟩ : ∃ n, l[k]? = some n := ⟨_, List.getElem?_eq_getElem hlt⟩
        obtain ⟨p0, p1, p2, p3, p4, p5, q0, q1, q2, q3, q4⟩ := (HCell.out k n hn).keep (HW0.out.trans (Keeps.of_below hbel.out))
        have HOkn := Lib.hid (show NodeOk n from ⟨q0, q1, q2, q3, q4⟩)
        clear q0 q1 q2 q3 q4
        have bb := World.block_lt_of_cell? _ _ p5
        simp only at bb
        have hkid := HKid.out k n hn
        obtain ⟨A3, c3, b3, o3, k3, e3, _, _, _, _, _⟩ := hkid.inv
        rw [e3] at hkid p5
        have HKd := Lib.hid hkid; clear hkid
        have HSz := Lib.hid (size_at HN.out hn)
        have htk := total_take hn
        have htl := total_le l (k + 1)
        have hml : m ≤ total (l.take k) := by rw [← hpl.out, ps_len hpm.out]; exact heads_len _
        have hm2 : m + 1 + total n.kids ≤ 1048576 := by omega
        have hkt : total n.kids ≤ 1048576 := by omega
        have HTk := Lib.hid (headsL_take hn)
        have hB := hbel.out.size
        clear hn hA e3 htk htl hml
        have HX := Lib.hid (heap_alloc_new wr (nodeBox n (.slice A3 n.kids.length c3)))
        have HOwn0 := Lib.hid (own_alloc hown.out (nodeBox n (.slice A3 n.kids.length c3)))
        have HB0 := Lib.hid (hbel.out.alloc hB (nodeBox n (.slice A3 n.kids.length c3)))
        have HOkp := Lib.hid (show HOk w0 (n, .slice A3 n.kids.length c3) from ⟨HOkn.out, HKd.out⟩)
        have HBel1 := HB0
        have HOwn1 := HOwn0
        by_cases hx : n.kind = 1
        · have t1 : (n.kind == 1) = true := by simp; omega
          have HTN := Lib.hid (show headsN n = [n] ++ headsL n.kids by unfold headsN; rw [if_pos hx])
          clear hx HBel1 HOwn1
          go_wp2_with (at_builtin; go_loud (go_must (refine wpList_push _ rfl (.tmp 15) (.tmp 17) 22 rfl w.heap.size 45 _ 6 88 Tryz.underlying22 info_node rfl (by omega) (.slice Ao m co) m _ rfl (own_alloc HOwn0.out _) (nodeVals n (.slice A3 n.kids.length c3)) rfl _ rfl (cell_new _ (nodeVals n (.slice A3 n.kids.length c3)) 45 _ (by simp)) (six_cells _ _ rfl) (by omega) (by unfold maxLen; omega) (by simp; omega) ?_); intro g1 c1 w1 own1 hg1 hgg hb1; have HOwn1 := Lib.hid own1; have HBel1 := Lib.hid ((HB0.out.alloc HB0.out.size _).trans hb1); have hbx := Lib.hid ((hg1.block wr.heap.size (by simp; omega) (fun e => by have := HOwn0.out.lt _ e.symm; have h2 := hown.out.lt _ e.symm; omega)).trans ((Below.heap_alloc _ _ _ (by simp)).trans HX.out)); have R5 := cell_of_row w1 wr.heap.size 5 _ _ _ hbx.out; have R0 := cell_of_row w1 wr.heap.size 0 _ _ _ hbx.out; simp only [List.getElem?_toArray, List.getElem?_cons_zero, List.getElem?_cons_succ] at R5 R0; clear hgg own1 hg1 hb1))
          go_must (refine (HI.out n.kids _ _ HSz.out (HKd.out) (HW0.out.trans (Keeps.of_below HBel1.out)) hkt).mono ?_)
          rintro e w2 ⟨A2, c2, ps2, rfl, hps2, hok2, own2, bel2⟩
          obtain ⟨q, hq⟩ : ∃ q, ps2.length = q := ⟨_, rfl⟩
          rw [hq] at own2
          rw [hq]
          have hq2 : q ≤ total n.kids := by rw [← hq, ps_len hps2]; exact heads_len _
          have HQ := Lib.hid hq; clear hq
          have HPs2 := Lib.hid hok2; have HPm2 := Lib.hid hps2
          clear hok2 hps2
          have HO1 := Lib.hid (own_belowK HOwn1.out bel2)
          have HO2 := Lib.hid own2; clear own2
          have HBel2 := Lib.hid (HBel1.out.trans (bel2.mono HBel1.out.size)); clear bel2
          go_wp2_with (at_builtin; go_loud (go_must (refine wpList_joinK _ rfl (.tmp 19) (.tmp 22) 22 rfl w.heap.size 45 _ 6 88 Tryz.underlying22 info_node rfl (by omega) (.slice (some ⟨g1, 0, none⟩) (m + 1) c1) (m + 1) _ rfl HO1.out _ (.slice A2 q c2) q _ rfl HO2.out (hcells_one HPs2.out) (by omega) (by unfold maxLen; omega) HBel2.out.size ?_); intro A7 c7 w7 own7 bel7 sz7))
          go_roundw
          case rel =>
            refine ⟨k + 1, (m + 1) + q, A7, c7, ps ++ [(n, .slice A3 n.kids.length c3)] ++ ps2, by omega, by go_num, rfl, ?_, ?_, fun p hp => ?_, ?_, Lib.hid (HBel2.out.trans bel7)⟩
            · show _ = _
              rw [List.length_append, List.length_append, hpl.out, HQ.out]; rfl
            · show _ = _
              rw [HTk.out, HTN.out, List.map_append, List.map_append, hpm.out, HPm2.out, List.append_assoc]; rfl
            · rcases List.mem_append.1 hp with h9 | h9
              · rcases List.mem_append.1 h9 with h8 | h8
                · exact hok.out p h8
                · simp only [List.mem_singleton] at h8
                  rw [h8]; exact HOkp.out
              · exact HPs2.out p h9
            · show World.ownsRow _ _ _ _ _ _ _
              rw [hcells_append, hcells_append]
              exact own7
          case measure => simp [intOf]; omega
        · have t1 : (n.kind == 1) = false := by simp; omega
          have HTN := Lib.hid (show headsN n = headsL n.kids by unfold headsN; rw [if_neg hx]; rfl)
          clear hx
          go_wp2_with fail
          go_must (refine (HI.out n.kids _ _ HSz.out (HKd.out) (HW0.out.trans (Keeps.of_below HBel1.out)) hkt).mono ?_)
          rintro e w2 ⟨A2, c2, ps2, rfl, hps2, hok2, own2, bel2⟩
          obtain ⟨q, hq⟩ : ∃ q, ps2.length = q := ⟨_, rfl⟩
          rw [hq] at own2
          rw [hq]
          have hq2 : q ≤ total n.kids := by rw [← hq, ps_len hps2]; exact heads_len _
          have HQ := Lib.hid hq; clear hq
          have HPs2 := Lib.hid hok2; have HPm2 := Lib.hid hps2
          clear hok2 hps2
          have HO1 := Lib.hid (own_belowK HOwn1.out bel2)
          have HO2 := Lib.hid own2; clear own2
          have HBel2 := Lib.hid (HBel1.out.trans (bel2.mono HBel1.out.size)); clear bel2
          go_wp2_with (at_builtin; go_loud (go_must (refine wpList_joinK _ rfl (.tmp 19) (.tmp 22) 22 rfl w.heap.size 45 _ 6 88 Tryz.underlying22 info_node rfl (by omega) (.slice Ao m co) m _ rfl HO1.out _ (.slice A2 q c2) q _ rfl HO2.out (hcells_one HPs2.out) (by omega) (by unfold maxLen; omega) HBel2.out.size ?_); intro A7 c7 w7 own7 bel7 sz7))
          go_roundw
          case rel =>
            refine ⟨k + 1, m + q, A7, c7, ps ++ ps2, by omega, by go_num, rfl, ?_, ?_, fun p hp => ?_, ?_, Lib.hid (HBel2.out.trans bel7)⟩
            · show _ = _
              rw [List.length_append, hpl.out, HQ.out]
            · show _ = _
              rw [HTk.out, HTN.out, List.map_append, hpm.out, HPm2.out]
            · rcases List.mem_append.1 hp with h9 | h9
              · exact hok.out p h9
              · exact HPs2.out p h9
            · show World.ownsRow _ _ _ _ _ _ _
              rw [hcells_append]
              exact own7
          case measure => simp [intOf]; omega
      · have hke : l.take k = l := by rw [List.take_of_length_le (by omega)]
        have hpm2 := hpm.out
        rw [hke] at hpm2
        have HPm := Lib.hid hpm2
        have hm2 := hpl.out
        subst hm2
        clear hke hpm2 hpm hpl
        go_wp2_with fail
        go_ret
        exact ⟨Ao, co, ps, rfl, HPm.out, hok.out, hown.out, hbel.out⟩

set_option maxRecDepth 100000 in
set_option maxHeartbeats 4000000 in
theorem headingsR_any (w0 : World) (N : Nat) : ∀ (l : List Node) (v : Value) (w : World), SizeOf.sizeOf l ≤ N → NodesAt w0 v l → Keeps w0 w → total l ≤ 1048576 → Calls Tryz.prog 21 #[v] w (HeadPost w0 (headsR l) w) := by
  induction N with
  | zero =>
    intro l v w hN
    cases l <;> simp at hN
  | succ N ih =>
    intro l v w hN h hw0 ht
    obtain ⟨An, c, bl, o, kv, rfl, hlc, hc, hA, hcell, hkid⟩ := h.inv
    unfold maxLen at hc
    have HCell := Lib.hid hcell; clear hcell
    have HKid := Lib.hid hkid; clear hkid
    have HN := Lib.hid hN; clear hN
    have HI := Lib.hid ih; clear ih
    have HW0 := Lib.hid hw0; clear hw0
    clear h
    go_enter Tryz.func21, Tryz.ntmps21
    go_wp2_with fail
    go_loopw [3, 8] (fun t3 t wr => ∃ (k m : Nat) (Ao : Option Addr) (co : Nat) (ps : List (Node × Value)), k ≤ l.length ∧ t = .int .i64 k ∧ t3 = .slice Ao m co ∧ Hid (ps.length = m) ∧ Hid (ps.map (·.1) = headsR (l.take k)) ∧ Hid (∀ p ∈ ps, HOk w0 p) ∧ Hid (wr.ownsRow w.heap.size 45 6 (.slice Ao m co) m (hcells ps)) ∧ Hid (Below w.heap.size w wr)) (fun _ t _ => l.length - (intOf t).toNat)
    case atStart => exact ⟨0, 0, none, 0, [], Nat.zero_le _, rfl, rfl, rfl, (show _ = _ by rw [List.take_zero, headsR_nil]; rfl), (fun p hp => by cases hp), World.ownsRow_nil _ _ _ _, Below.refl _ _⟩
    case round =>
      obtain ⟨k, m, Ao, co, ps, hk, rfl, rfl, hpl, hpm, hok, hown, hbel⟩ := hrel
      by_cases hlt : k < l.length
      · have hA' := hA (by rintro rfl; simp at hlt)
        subst hA'
        obtain ⟨n, hn⟩ : ∃ n, l[k]? = some n := ⟨_, List.getElem?_eq_getElem hlt⟩
        obtain ⟨p0, p1, p2, p3, p4, p5, q0, q1, q2, q3, q4⟩ := (HCell.out k n hn).keep (HW0.out.trans (Keeps.of_below hbel.out))
        have HOkn := Lib.hid (show NodeOk n from ⟨q0, q1, q2, q3, q4⟩)
        clear q0 q1 q2 q3 q4
        have bb := World.block_lt_of_cell? _ _ p5
        simp only at bb
        have hkid := HKid.out k n hn
        obtain ⟨A3, c3, b3, o3, k3, e3, _, _, _, _, _⟩ := hkid.inv
        rw [e3] at hkid p5
        have HKd := Lib.hid hkid; clear hkid
        have HSz := Lib.hid (size_at HN.out hn)
        have htk := total_take hn
        have htl := total_le l (k + 1)
        have hml : m ≤ total (l.take k) := by rw [← hpl.out, ps_len hpm.out]; exact headsR_le _
        have hm2 : m + 1 + total n.kids ≤ 1048576 := by omega
        have hkt : total n.kids ≤ 1048576 := by omega
        have HTk := Lib.hid (headsR_take hn)
        have hB := hbel.out.size
        clear hn hA e3 htk htl hml
        have HX := Lib.hid (heap_alloc_new wr (nodeBox n (.slice A3 n.kids.length c3)))
        have HOwn0 := Lib.hid (own_alloc hown.out (nodeBox n (.slice A3 n.kids.length c3)))
        have HB0 := Lib.hid (hbel.out.alloc hB (nodeBox n (.slice A3 n.kids.length c3)))
        have HOkp := Lib.hid (show HOk w0 (n, .slice A3 n.kids.length c3) from ⟨HOkn.out, HKd.out⟩)
        have HBel1 := HB0
        have HOwn1 := HOwn0
        by_cases hx : n.kind = 1
        · have t1 : (n.kind == 1) = true := by simp; omega
          have HTN := Lib.hid (show headsRN n = [n] by unfold headsRN; rw [if_pos hx])
          clear hx HBel1 HOwn1
          go_wp2_with (at_builtin; go_loud (go_must (refine wpList_push _ rfl (.tmp 15) (.tmp 17) 22 rfl w.heap.size 45 _ 6 88 Tryz.underlying22 info_node rfl (by omega) (.slice Ao m co) m _ rfl (own_alloc HOwn0.out _) (nodeVals n (.slice A3 n.kids.length c3)) rfl _ rfl (cell_new _ (nodeVals n (.slice A3 n.kids.length c3)) 45 _ (by simp)) (six_cells _ _ rfl) (by omega) (by unfold maxLen; omega) (by simp; omega) ?_); intro g1 c1 w1 own1 hg1 hgg hb1; have HOwn1 := Lib.hid own1; have HBel1 := Lib.hid ((HB0.out.alloc HB0.out.size _).trans hb1); have hbx := Lib.hid ((hg1.block wr.heap.size (by simp; omega) (fun e => by have := HOwn0.out.lt _ e.symm; have h2 := hown.out.lt _ e.symm; omega)).trans ((Below.heap_alloc _ _ _ (by simp)).trans HX.out)); have R5 := cell_of_row w1 wr.heap.size 5 _ _ _ hbx.out; have R0 := cell_of_row w1 wr.heap.size 0 _ _ _ hbx.out; simp only [List.getElem?_toArray, List.getElem?_cons_zero, List.getElem?_cons_succ] at R5 R0; clear hgg own1 hg1 hb1))
          go_roundw
          case rel =>
            refine ⟨k + 1, m + 1, _, c1, ps ++ [(n, .slice A3 n.kids.length c3)], by omega, by go_num, rfl, ?_, ?_, fun p hp => ?_, ?_, HBel1⟩
            · show _ = _
              rw [List.length_append, hpl.out]; rfl
            · show _ = _
              rw [HTk.out, HTN.out, List.map_append, hpm.out]; rfl
            · rcases List.mem_append.1 hp with h8 | h8
              · exact hok.out p h8
              · simp only [List.mem_singleton] at h8
                rw [h8]; exact HOkp.out
            · show World.ownsRow _ _ _ _ _ _ _
              rw [hcells_append]
              exact HOwn1.out
          case measure => simp [intOf]; omega
        · have t1 : (n.kind == 1) = false := by simp; omega
          cases hb : isBlockB n.kind with
          | true =>
            have HTN := Lib.hid (show headsRN n = headsR n.kids by unfold headsRN; rw [if_neg hx, if_pos hb])
            clear hx
            go_wp2_with (go_at_call 41; refine (isBlock_r _ _).mono ?_; rintro e w9 ⟨rfl, rfl⟩)
            go_must (refine (HI.out n.kids _ _ HSz.out (HKd.out) (HW0.out.trans (Keeps.of_below HBel1.out)) hkt).mono ?_)
            rintro e w2 ⟨A2, c2, ps2, rfl, hps2, hok2, own2, bel2⟩
            obtain ⟨q, hq⟩ : ∃ q, ps2.length = q := ⟨_, rfl⟩
            rw [hq] at own2
            rw [hq]
            have hq2 : q ≤ total n.kids := by rw [← hq, ps_len hps2]; exact headsR_le _
            have HQ := Lib.hid hq; clear hq
            have HPs2 := Lib.hid hok2; have HPm2 := Lib.hid hps2
            clear hok2 hps2
            have HO1 := Lib.hid (own_belowK HOwn1.out bel2)
            have HO2 := Lib.hid own2; clear own2
            have HBel2 := Lib.hid (HBel1.out.trans (bel2.mono HBel1.out.size)); clear bel2
            go_wp2_with (at_builtin; go_loud (go_must (refine wpList_joinK _ rfl (.tmp 22) (.tmp 25) 22 rfl w.heap.size 45 _ 6 88 Tryz.underlying22 info_node rfl (by omega) (.slice Ao m co) m _ rfl HO1.out _ (.slice A2 q c2) q _ rfl HO2.out (hcells_one HPs2.out) (by omega) (by unfold maxLen; omega) HBel2.out.size ?_); intro A7 c7 w7 own7 bel7 sz7))
            go_roundw
            case rel =>
              refine ⟨k + 1, m + q, A7, c7, ps ++ ps2, by omega, by go_num, rfl, ?_, ?_, fun p hp => ?_, ?_, Lib.hid (HBel2.out.trans bel7)⟩
              · show _ = _
                rw [List.length_append, hpl.out, HQ.out]
              · show _ = _
                rw [HTk.out, HTN.out, List.map_append, hpm.out, HPm2.out]
              · rcases List.mem_append.1 hp with h9 | h9
                · exact hok.out p h9
                · exact HPs2.out p h9
              · show World.ownsRow _ _ _ _ _ _ _
                rw [hcells_append]
                exact own7
            case measure => simp [intOf]; omega
          | false =>
            have HTN := Lib.hid (show headsRN n = [] by unfold headsRN; rw [if_neg hx, if_neg (by rw [hb]; simp)])
            clear hx
            go_wp2_with (go_at_call 41; refine (isBlock_r _ _).mono ?_; rintro e w9 ⟨rfl, rfl⟩)
            go_roundw
            case rel => exact ⟨k + 1, m, Ao, co, ps, by omega, by go_num, rfl, hpl, Lib.hid (by rw [HTk.out, HTN.out, hpm.out, List.append_nil]), hok, HOwn0, HB0⟩
            case measure => simp [intOf]; omega
      · have hke : l.take k = l := by rw [List.take_of_length_le (by omega)]
        have hpm2 := hpm.out
        rw [hke] at hpm2
        have HPm := Lib.hid hpm2
        have hm2 := hpl.out
        subst hm2
        clear hke hpm2 hpm hpl
        go_wp2_with fail
        go_ret
        exact ⟨Ao, co, ps, rfl, HPm.out, hok.out, hown.out, hbel.out⟩

end Go.Proofs.YtikijmjcmpkkdaaGreatDoor
