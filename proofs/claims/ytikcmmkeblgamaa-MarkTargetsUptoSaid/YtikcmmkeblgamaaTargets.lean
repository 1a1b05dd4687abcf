/-
  The addresses of links and images: mark.targets, mastref1.TargetsOf.
-/
import Derived.Test.YtikcmmkeblgamaaTree
import Derived.Test.YtikcmmkeblgamaaCheck7
import Derived.Laws.AppendOwnNone
namespace Go.Proofs.Ytikcmmkeblgamaa
open Go.RowKit Go.Deep

theorem info_str : (Try.prog.info? 9).map (fun i => (i.zero, i.size, i.bytes)) = some (some (.string ⟨#[]⟩), 1, 16) := by kernel_rfl

/-- a link or an image -/
def linkB (k : Int) : Bool := decide (k = 17 ∨ k = 18)
/-- the addresses of a document -/
def targetsL : List Node → List ByteArray
  | [] => []
  | .mk k _ _ d _ ks :: r => (if linkB k = true then [d] else []) ++ targetsL ks ++ targetsL r
/-- a node's own and its Kids' -/
def targetsN (n : Node) : List ByteArray := (if linkB n.kind = true then [n.dest] else []) ++ targetsL n.kids

theorem targetsL_nil : targetsL [] = [] := by rw [targetsL]
theorem targetsL_cons (n : Node) (r : List Node) : targetsL (n :: r) = targetsN n ++ targetsL r := by cases n; rw [targetsL]; rfl
theorem targetsL_append (a b : List Node) : targetsL (a ++ b) = targetsL a ++ targetsL b := by
  induction a with
  | nil => rw [targetsL_nil]; rfl
  | cons n r ih => rw [List.cons_append, targetsL_cons, targetsL_cons, ih, List.append_assoc]
theorem targetsL_take {l : List Node} {k : Nat} {n : Node} (h : l[k]? = some n) : targetsL (l.take (k + 1)) = targetsL (l.take k) ++ targetsN n := by
  obtain ⟨hk, rfl⟩ := List.getElem?_eq_some_iff.1 h
  rw [List.take_succ_eq_append_getElem hk, targetsL_append, targetsL_cons, targetsL_nil, List.append_nil]
theorem targetsL_len : ∀ (N : Nat) (l : List Node), SizeOf.sizeOf l ≤ N → (targetsL l).length ≤ total l
  | 0, l, h => by cases l <;> simp at h
  | N + 1, [], _ => by rw [targetsL_nil]; simp
  | N + 1, n :: r, h => by
    rw [targetsL_cons, total_cons, List.length_append]
    have h1 := n.kids_lt
    simp only [List.cons.sizeOf_spec] at h
    have a := targetsL_len N n.kids (by omega)
    have b := targetsL_len N r (by omega)
    have c : (targetsN n).length ≤ 1 + (targetsL n.kids).length := by unfold targetsN; split <;> simp <;> omega
    omega
theorem targets_len (l : List Node) : (targetsL l).length ≤ total l := targetsL_len _ l (Nat.le_refl _)

/-- strings as cells -/
def strs (l : List ByteArray) : List Value := l.map Value.string
theorem strs_append (a b : List ByteArray) : strs (a ++ b) = strs a ++ strs b := by simp [strs]
theorem strs_one (l : List ByteArray) : ∀ u ∈ strs l, u.oneCell' = true := by
  intro u hu
  simp only [strs, List.mem_map] at hu
  obtain ⟨s, _, rfl⟩ := hu
  rfl

/-- append of another row of the call's own -/
theorem wpList_join {P : Program} {ops : Array Oper} {rest : List Oper} {o : Oper} {a : Act} {Q : Exit → Act → World → Prop} (W : World) (hgd : o.guard = none) (s x : Operand) (t : TypeId)
    (ho : o.op = .call { callee := .builtin .append, args := #[s, x], argTypes := #[t, t] })
    (B : Nat) (e : TypeId) (z : Value) (bytes : Nat) (ht : P.underlying t = some (.slice e)) (hi : (P.info? e).map (fun i => (i.zero, i.size, i.bytes)) = some (some z, 1, bytes)) (hzs : z.cells.size = 1)
    (v : Value) (n : Nat) (xs : List Value) (hs : a.eval s = v) (hown : W.ownsRow B e 1 v n xs)
    (B2 : Nat) (u : Value) (m : Nat) (ys : List Value) (hx : a.eval x = u) (hu : W.ownsRow B2 e 1 u m ys) (h1 : ∀ y ∈ ys, y.oneCell' = true)
    (hn : (n + m) * bytes ≤ 140737488355328) (hn' : n + m ≤ maxLen) (hB : B ≤ W.heap.size)
    (h : ∀ A c w', w'.ownsRow B e 1 (.slice A (n + m) c) (n + m) (xs ++ ys) → Below B W w' → W.heap.size ≤ w'.heap.size → wpList P ops Q rest (a.put o.dst (.slice A (n + m) c)) w') :
    wpList P ops Q (o :: rest) a W := by
  obtain ⟨i, hi1, hi2, hi3, hi4⟩ := info_parts hi
  rcases hu.2 with ⟨rfl, hm⟩ | ⟨g, cap, cur, rfl, hBg, hg, hnc, hcm, hcs, htake⟩
  · subst hm
    have hy : ys = [] := List.eq_nil_of_length_eq_zero (by have := hu.1; omega)
    subst hy
    refine wpList_append_own_none hgd s x t ho B e i 1 ht hi1 v n xs hs hown hx ?_
    obtain ⟨A, c, rfl, _, _, _⟩ := own_form hown
    exact h A c W (by simpa using hown) (Below.refl _ _) (Nat.le_refl _)
  · refine wpList_append_own_at (P := P) W hgd s x t ho B e i z 1 bytes ht hi1 hi2 hi3 hi4 hzs (by omega) v n xs hs hown ⟨g, 0, none⟩ m cap ys hx hu.1 ?_ h1 hn' hn hB ?_
    · intro j y hj
      have hadd : (⟨g, 0, none⟩ : Addr).add j = ⟨g, j, none⟩ := by unfold Addr.add; split <;> simp_all
      rw [hadd]
      exact own_cell hu hj
    · intro v' w' h2 hg2 _ _
      obtain ⟨A, c, rfl, _, _, _⟩ := own_form h2
      exact h A c w' h2 (below_of_grown hg2 hB (own_block_ge hown)) hg2.size

/-- a row of strings of the call's own -/
def StrRow (w : World) (l : List ByteArray) (e : Ending) (w' : World) : Prop := ∃ A c, e = .returned (.slice A l.length c) ∧ w'.ownsRow w.heap.size 9 1 (.slice A l.length c) l.length (strs l) ∧ Below w.heap.size w w'

theorem own_below {w w' : World} {B e : Nat} {v : Value} {n : Nat} {xs : List Value} (h : w.ownsRow B e 1 v n xs) (hb : Below w.heap.size w w') : w'.ownsRow B e 1 v n xs := own_agree h fun g hg => hb.block g (h.lt g hg).2


set_option maxRecDepth 100000 in
set_option maxHeartbeats 2000000 in
theorem targets_any (N : Nat) : ∀ (l : List Node) (v : Value) (w : World), SizeOf.sizeOf l ≤ N → NodesAt w v l → total l ≤ 1073741824 → Calls Try.prog 45 #[v] w (StrRow w (targetsL l)) := by
  induction N with
  | zero =>
    intro l v w hN
    cases l <;> simp at hN
  | succ N ih =>
    intro l v w hN h ht
    obtain ⟨An, c, bl, o, kv, rfl, hlc, hc, hA, hcell, hkid⟩ := h.inv
    unfold maxLen at hc
    have HCell := Lib.hid hcell; clear hcell
    have HKid := Lib.hid hkid; clear hkid
    have HN := Lib.hid hN; clear hN
    have HI := Lib.hid ih; clear ih
    clear h
    go_enter Try.func45, Try.ntmps45
    go_wp2_with fail
    go_loopw [3, 8] (fun t3 t wr => ∃ (k m : Nat) (Ao : Option Addr) (co : Nat), k ≤ l.length ∧ t = .int .i64 k ∧ t3 = .slice Ao m co ∧ Hid (m = (targetsL (l.take k)).length) ∧ Hid (wr.ownsRow w.heap.size 9 1 (.slice Ao m co) m (strs (targetsL (l.take k)))) ∧ Hid (Below w.heap.size w wr)) (fun _ t _ => l.length - (intOf t).toNat)
    case atStart => exact ⟨0, 0, none, 0, Nat.zero_le _, rfl, rfl, (show 0 = _ by rw [List.take_zero, targetsL_nil]; rfl), (show World.ownsRow _ _ _ _ _ _ _ by rw [List.take_zero, targetsL_nil]; exact World.ownsRow_nil _ _ _ _), Below.refl _ _⟩
    case round =>
      obtain ⟨k, m, Ao, co, hk, rfl, rfl, hm, hown, hbel⟩ := hrel
      by_cases hlt : k < l.length
      · have hA' := hA (by rintro rfl; simp at hlt)
        subst hA'
        obtain ⟨n, hn⟩ : ∃ n, l[k]? = some n := ⟨_, List.getElem?_eq_getElem hlt⟩
        obtain ⟨p0, p1, p2, p3, p4, p5, _, _, _, _, _⟩ := (HCell.out k n hn).keep (Keeps.of_below hbel.out)
        have bb := World.block_lt_of_cell? _ _ p5
        simp only at bb
        have hkid := HKid.out k n hn
        obtain ⟨A3, c3, b3, o3, k3, e3, _, _, _, _, _⟩ := hkid.inv
        rw [e3] at hkid p5
        have HKd9 := Lib.hid hkid
        have HKd := Lib.hid ((hkid.keep (Keeps.of_below hbel.out)).keep (Keeps.alloc _ (nodeBox n (.slice A3 n.kids.length c3)))); clear hkid
        have HSz := Lib.hid (size_at HN.out hn)
        have htk := total_take hn
        have htl := total_le l (k + 1)
        have hml : m ≤ total (l.take k) := by rw [hm.out]; exact targets_len _
        have hm2 : m + 1 + total n.kids ≤ 1073741824 := by omega
        have hkt : total n.kids ≤ 1073741824 := by omega
        have HTn := Lib.hid (targets_len n.kids)
        have HTk := Lib.hid (targetsL_take hn)
        have hB := hbel.out.size
        clear hn hA e3 htk htl hml
        have HX := Lib.hid (heap_alloc_new wr (nodeBox n (.slice A3 n.kids.length c3)))
        have HOwn0 := Lib.hid (own_alloc hown.out (nodeBox n (.slice A3 n.kids.length c3)))
        have HB0 := Lib.hid (hbel.out.alloc hB (nodeBox n (.slice A3 n.kids.length c3)))
        have hx : n.kind = 17 ∨ n.kind = 18 ∨ (n.kind ≠ 17 ∧ n.kind ≠ 18) := by omega
        rcases hx with hx | hx | hx
        · have hlk : linkB n.kind = true := by unfold linkB; simp; omega
          have t17 : (n.kind == 17) = true := by simp; omega
          have t18 : (n.kind == 18) = false := by simp; omega
          have HTN := Lib.hid (show targetsN n = [n.dest] ++ targetsL n.kids by unfold targetsN; rw [hlk]; rfl)
          clear hx hlk
          go_wp2_with (at_builtin; have hh := own_alloc HOwn0.out (.cells #[.string n.dest] 9); have k1 : (m + 1) * 16 ≤ 140737488355328 := (by omega); have k2 : m + 1 ≤ maxLen := (by unfold maxLen; omega); have k3 : w.heap.size ≤ ((wr.alloc (nodeBox n (.slice A3 n.kids.length c3))).alloc (.cells #[.string n.dest] 9)).heap.size := (by simp; omega); have k4 := cell_new (wr.alloc (nodeBox n (.slice A3 n.kids.length c3))) [.string n.dest] 9 (wr.heap.size + 1) (by simp); go_must (refine wpList_push _ rfl (.tmp 20) (.tmp 23) 47 rfl w.heap.size 9 (.string ⟨#[]⟩) 1 16 Try.underlying47 info_str rfl (by omega) (.slice Ao m co) m _ rfl hh [.string n.dest] rfl _ rfl k4 (one_str _) k1 k2 k3 ?_); clear hh k1 k2 k3 k4; intro g1 c1 w1 own1 hg1 hgg hb1; clear hgg; have hbx := (hg1.block wr.heap.size (by simp; omega) (fun e => by have := HOwn0.out.lt _ e.symm; have h2 := hown.out.lt _ e.symm; omega)).trans ((Below.heap_alloc _ _ _ (by simp)).trans HX.out); have R5 := cell_of_row w1 wr.heap.size 5 _ _ _ hbx; simp only [List.getElem?_toArray, List.getElem?_cons_zero, List.getElem?_cons_succ] at R5; clear hbx)
          have HBel1 := Lib.hid ((HB0.out.alloc HB0.out.size _).trans hb1)
          have HOwn1 := Lib.hid own1
          clear hg1 own1 hb1
          have HKd0 := Lib.hid (show NodesAt w1 (.slice A3 n.kids.length c3) n.kids from HKd9.out.keep (Keeps.of_below HBel1.out))
          go_must (refine (HI.out n.kids _ _ HSz.out HKd0.out hkt).mono ?_)
          rintro e w2 ⟨A2, c2, rfl, own2, bel2⟩
          obtain ⟨q, hq⟩ : ∃ q, (targetsL n.kids).length = q := ⟨_, rfl⟩
          rw [hq] at own2
          rw [hq]
          have hq2 : q ≤ total n.kids := by rw [← hq]; exact HTn.out
          have HQ := Lib.hid hq; clear hq
          have HO1 := Lib.hid (own_below HOwn1.out bel2)
          have HO2 := Lib.hid own2; clear own2
          have HBel2 := Lib.hid (HBel1.out.trans (bel2.mono HBel1.out.size)); clear bel2
          go_wp2_with (at_builtin; have hh := HO1.out; have hh2 := HO2.out; have k1 : ((m + 1) + q) * 16 ≤ 140737488355328 := (by omega); have k2 : (m + 1) + q ≤ maxLen := (by unfold maxLen; omega); have k3 := HBel2.out.size; go_must (refine wpList_join _ rfl (.tmp 25) (.tmp 28) 47 rfl w.heap.size 9 (.string ⟨#[]⟩) 16 Try.underlying47 info_str rfl (.slice (some ⟨g1, 0, none⟩) (m + 1) c1) (m + 1) _ rfl hh _ (.slice A2 q c2) q _ rfl hh2 (strs_one _) k1 k2 k3 ?_); clear hh hh2 k1 k2 k3; intro A7 c7 w7 own7 bel7 sz7)
          go_roundw
          case rel =>
            refine ⟨k + 1, (m + 1) + q, A7, c7, by omega, by go_num, rfl, ?_, ?_, Lib.hid (HBel2.out.trans bel7)⟩
            · show _ = _
              rw [HTk.out, HTN.out, ← HQ.out, hm.out]
              simp only [List.length_append, List.length_cons, List.length_nil]; omega
            · show World.ownsRow _ _ _ _ _ _ _
              rw [HTk.out, HTN.out, strs_append]
              rw [strs_append, ← List.append_assoc]
              exact own7
          case measure => simp [intOf]; omega
        · have hlk : linkB n.kind = true := by unfold linkB; simp; omega
          have t17 : (n.kind == 17) = false := by simp; omega
          have t18 : (n.kind == 18) = true := by simp; omega
          have HTN := Lib.hid (show targetsN n = [n.dest] ++ targetsL n.kids by unfold targetsN; rw [hlk]; rfl)
          clear hx hlk
          go_wp2_with (at_builtin; have hh := own_alloc HOwn0.out (.cells #[.string n.dest] 9); have k1 : (m + 1) * 16 ≤ 140737488355328 := (by omega); have k2 : m + 1 ≤ maxLen := (by unfold maxLen; omega); have k3 : w.heap.size ≤ ((wr.alloc (nodeBox n (.slice A3 n.kids.length c3))).alloc (.cells #[.string n.dest] 9)).heap.size := (by simp; omega); have k4 := cell_new (wr.alloc (nodeBox n (.slice A3 n.kids.length c3))) [.string n.dest] 9 (wr.heap.size + 1) (by simp); go_must (refine wpList_push _ rfl (.tmp 20) (.tmp 23) 47 rfl w.heap.size 9 (.string ⟨#[]⟩) 1 16 Try.underlying47 info_str rfl (by omega) (.slice Ao m co) m _ rfl hh [.string n.dest] rfl _ rfl k4 (one_str _) k1 k2 k3 ?_); clear hh k1 k2 k3 k4; intro g1 c1 w1 own1 hg1 hgg hb1; clear hgg; have hbx := (hg1.block wr.heap.size (by simp; omega) (fun e => by have := HOwn0.out.lt _ e.symm; have h2 := hown.out.lt _ e.symm; omega)).trans ((Below.heap_alloc _ _ _ (by simp)).trans HX.out); have R5 := cell_of_row w1 wr.heap.size 5 _ _ _ hbx; simp only [List.getElem?_toArray, List.getElem?_cons_zero, List.getElem?_cons_succ] at R5; clear hbx)
          have HBel1 := Lib.hid ((HB0.out.alloc HB0.out.size _).trans hb1)
          have HOwn1 := Lib.hid own1
          clear hg1 own1 hb1
          have HKd0 := Lib.hid (show NodesAt w1 (.slice A3 n.kids.length c3) n.kids from HKd9.out.keep (Keeps.of_below HBel1.out))
          go_must (refine (HI.out n.kids _ _ HSz.out HKd0.out hkt).mono ?_)
          rintro e w2 ⟨A2, c2, rfl, own2, bel2⟩
          obtain ⟨q, hq⟩ : ∃ q, (targetsL n.kids).length = q := ⟨_, rfl⟩
          rw [hq] at own2
          rw [hq]
          have hq2 : q ≤ total n.kids := by rw [← hq]; exact HTn.out
          have HQ := Lib.hid hq; clear hq
          have HO1 := Lib.hid (own_below HOwn1.out bel2)
          have HO2 := Lib.hid own2; clear own2
          have HBel2 := Lib.hid (HBel1.out.trans (bel2.mono HBel1.out.size)); clear bel2
          go_wp2_with (at_builtin; have hh := HO1.out; have hh2 := HO2.out; have k1 : ((m + 1) + q) * 16 ≤ 140737488355328 := (by omega); have k2 : (m + 1) + q ≤ maxLen := (by unfold maxLen; omega); have k3 := HBel2.out.size; go_must (refine wpList_join _ rfl (.tmp 25) (.tmp 28) 47 rfl w.heap.size 9 (.string ⟨#[]⟩) 16 Try.underlying47 info_str rfl (.slice (some ⟨g1, 0, none⟩) (m + 1) c1) (m + 1) _ rfl hh _ (.slice A2 q c2) q _ rfl hh2 (strs_one _) k1 k2 k3 ?_); clear hh hh2 k1 k2 k3; intro A7 c7 w7 own7 bel7 sz7)
          go_roundw
          case rel =>
            refine ⟨k + 1, (m + 1) + q, A7, c7, by omega, by go_num, rfl, ?_, ?_, Lib.hid (HBel2.out.trans bel7)⟩
            · show _ = _
              rw [HTk.out, HTN.out, ← HQ.out, hm.out]
              simp only [List.length_append, List.length_cons, List.length_nil]; omega
            · show World.ownsRow _ _ _ _ _ _ _
              rw [HTk.out, HTN.out, strs_append]
              rw [strs_append, ← List.append_assoc]
              exact own7
          case measure => simp [intOf]; omega
        · have hlk : linkB n.kind = false := by unfold linkB; simp; omega
          have t17 : (n.kind == 17) = false := by simp; omega
          have t18 : (n.kind == 18) = false := by simp; omega
          have HTN := Lib.hid (show targetsN n = targetsL n.kids by unfold targetsN; rw [hlk]; rfl)
          clear hx hlk
          have HBel1 := HB0
          have HOwn1 := HOwn0
          go_wp2_with fail
          go_must (refine (HI.out n.kids _ _ HSz.out HKd.out hkt).mono ?_)
          rintro e w2 ⟨A2, c2, rfl, own2, bel2⟩
          obtain ⟨q, hq⟩ : ∃ q, (targetsL n.kids).length = q := ⟨_, rfl⟩
          rw [hq] at own2
          rw [hq]
          have hq2 : q ≤ total n.kids := by rw [← hq]; exact HTn.out
          have HQ := Lib.hid hq; clear hq
          have HO1 := Lib.hid (own_below HOwn1.out bel2)
          have HO2 := Lib.hid own2; clear own2
          have HBel2 := Lib.hid (HBel1.out.trans (bel2.mono HBel1.out.size)); clear bel2
          go_wp2_with (at_builtin; have hh := HO1.out; have hh2 := HO2.out; have k1 : (m + q) * 16 ≤ 140737488355328 := (by omega); have k2 : m + q ≤ maxLen := (by unfold maxLen; omega); have k3 := HBel2.out.size; go_must (refine wpList_join _ rfl (.tmp 25) (.tmp 28) 47 rfl w.heap.size 9 (.string ⟨#[]⟩) 16 Try.underlying47 info_str rfl (.slice Ao m co) m _ rfl hh _ (.slice A2 q c2) q _ rfl hh2 (strs_one _) k1 k2 k3 ?_); clear hh hh2 k1 k2 k3; intro A7 c7 w7 own7 bel7 sz7)
          go_roundw
          case rel =>
            refine ⟨k + 1, m + q, A7, c7, by omega, by go_num, rfl, ?_, ?_, Lib.hid (HBel2.out.trans bel7)⟩
            · show _ = _
              rw [HTk.out, HTN.out, ← HQ.out, hm.out]
              simp only [List.length_append]
            · show World.ownsRow _ _ _ _ _ _ _
              rw [HTk.out, HTN.out, strs_append]
              exact own7
          case measure => simp [intOf]; omega
      · have hke : l.take k = l := by rw [List.take_of_length_le (by omega)]
        have hown2 := hown.out
        have hm2 := hm.out
        rw [hke] at hown2 hm2
        subst hm2
        have HO := Lib.hid hown2; clear hown2 hown hm
        clear hke
        go_wp2_with fail
        go_ret
        exact ⟨Ao, co, rfl, HO.out, hbel.out⟩


set_option maxRecDepth 100000 in
set_option maxHeartbeats 2000000 in
theorem targetsOf_any (N : Nat) : ∀ (l : List Node) (v : Value) (w : World), SizeOf.sizeOf l ≤ N → NodesAt w v l → total l ≤ 1073741824 → Calls Try.prog 22 #[v] w (StrRow w (targetsL l)) := by
  induction N with
  | zero =>
    intro l v w hN
    cases l <;> simp at hN
  | succ N ih =>
    intro l v w hN h ht
    obtain ⟨An, c, bl, o, kv, rfl, hlc, hc, hA, hcell, hkid⟩ := h.inv
    unfold maxLen at hc
    have HCell := Lib.hid hcell; clear hcell
    have HKid := Lib.hid hkid; clear hkid
    have HN := Lib.hid hN; clear hN
    have HI := Lib.hid ih; clear ih
    clear h
    go_enter Try.func22, Try.ntmps22
    go_wp2_with fail
    go_loopw [3, 8] (fun t3 t wr => ∃ (k m : Nat) (Ao : Option Addr) (co : Nat), k ≤ l.length ∧ t = .int .i64 k ∧ t3 = .slice Ao m co ∧ Hid (m = (targetsL (l.take k)).length) ∧ Hid (wr.ownsRow w.heap.size 9 1 (.slice Ao m co) m (strs (targetsL (l.take k)))) ∧ Hid (Below w.heap.size w wr)) (fun _ t _ => l.length - (intOf t).toNat)
    case atStart => exact ⟨0, 0, none, 0, Nat.zero_le _, rfl, rfl, (show 0 = _ by rw [List.take_zero, targetsL_nil]; rfl), (show World.ownsRow _ _ _ _ _ _ _ by rw [List.take_zero, targetsL_nil]; exact World.ownsRow_nil _ _ _ _), Below.refl _ _⟩
    case round =>
      obtain ⟨k, m, Ao, co, hk, rfl, rfl, hm, hown, hbel⟩ := hrel
      by_cases hlt : k < l.length
      · have hA' := hA (by rintro rfl; simp at hlt)
        subst hA'
        obtain ⟨n, hn⟩ : ∃ n, l[k]? = some n := ⟨_, List.getElem?_eq_getElem hlt⟩
        obtain ⟨p0, p1, p2, p3, p4, p5, _, _, _, _, _⟩ := (HCell.out k n hn).keep (Keeps.of_below hbel.out)
        have bb := World.block_lt_of_cell? _ _ p5
        simp only at bb
        have hkid := HKid.out k n hn
        obtain ⟨A3, c3, b3, o3, k3, e3, _, _, _, _, _⟩ := hkid.inv
        rw [e3] at hkid p5
        have HKd9 := Lib.hid hkid
        have HKd := Lib.hid ((hkid.keep (Keeps.of_below hbel.out)).keep (Keeps.alloc _ (nodeBox n (.slice A3 n.kids.length c3)))); clear hkid
        have HSz := Lib.hid (size_at HN.out hn)
        have htk := total_take hn
        have htl := total_le l (k + 1)
        have hml : m ≤ total (l.take k) := by rw [hm.out]; exact targets_len _
        have hm2 : m + 1 + total n.kids ≤ 1073741824 := by omega
        have hkt : total n.kids ≤ 1073741824 := by omega
        have HTn := Lib.hid (targets_len n.kids)
        have HTk := Lib.hid (targetsL_take hn)
        have hB := hbel.out.size
        clear hn hA e3 htk htl hml
        have HX := Lib.hid (heap_alloc_new wr (nodeBox n (.slice A3 n.kids.length c3)))
        have HOwn0 := Lib.hid (own_alloc hown.out (nodeBox n (.slice A3 n.kids.length c3)))
        have HB0 := Lib.hid (hbel.out.alloc hB (nodeBox n (.slice A3 n.kids.length c3)))
        have hx : n.kind = 17 ∨ n.kind = 18 ∨ (n.kind ≠ 17 ∧ n.kind ≠ 18) := by omega
        rcases hx with hx | hx | hx
        · have hlk : linkB n.kind = true := by unfold linkB; simp; omega
          have t17 : (n.kind == 17) = true := by simp; omega
          have t18 : (n.kind == 18) = false := by simp; omega
          have HTN := Lib.hid (show targetsN n = [n.dest] ++ targetsL n.kids by unfold targetsN; rw [hlk]; rfl)
          clear hx hlk
          go_wp2_with (at_builtin; have hh := own_alloc HOwn0.out (.cells #[.string n.dest] 9); have k1 : (m + 1) * 16 ≤ 140737488355328 := (by omega); have k2 : m + 1 ≤ maxLen := (by unfold maxLen; omega); have k3 : w.heap.size ≤ ((wr.alloc (nodeBox n (.slice A3 n.kids.length c3))).alloc (.cells #[.string n.dest] 9)).heap.size := (by simp; omega); have k4 := cell_new (wr.alloc (nodeBox n (.slice A3 n.kids.length c3))) [.string n.dest] 9 (wr.heap.size + 1) (by simp); go_must (refine wpList_push _ rfl (.tmp 20) (.tmp 23) 47 rfl w.heap.size 9 (.string ⟨#[]⟩) 1 16 Try.underlying47 info_str rfl (by omega) (.slice Ao m co) m _ rfl hh [.string n.dest] rfl _ rfl k4 (one_str _) k1 k2 k3 ?_); clear hh k1 k2 k3 k4; intro g1 c1 w1 own1 hg1 hgg hb1; clear hgg; have hbx := (hg1.block wr.heap.size (by simp; omega) (fun e => by have := HOwn0.out.lt _ e.symm; have h2 := hown.out.lt _ e.symm; omega)).trans ((Below.heap_alloc _ _ _ (by simp)).trans HX.out); have R5 := cell_of_row w1 wr.heap.size 5 _ _ _ hbx; simp only [List.getElem?_toArray, List.getElem?_cons_zero, List.getElem?_cons_succ] at R5; clear hbx)
          have HBel1 := Lib.hid ((HB0.out.alloc HB0.out.size _).trans hb1)
          have HOwn1 := Lib.hid own1
          clear hg1 own1 hb1
          have HKd0 := Lib.hid (show NodesAt w1 (.slice A3 n.kids.length c3) n.kids from HKd9.out.keep (Keeps.of_below HBel1.out))
          go_must (refine (HI.out n.kids _ _ HSz.out HKd0.out hkt).mono ?_)
          rintro e w2 ⟨A2, c2, rfl, own2, bel2⟩
          obtain ⟨q, hq⟩ : ∃ q, (targetsL n.kids).length = q := ⟨_, rfl⟩
          rw [hq] at own2
          rw [hq]
          have hq2 : q ≤ total n.kids := by rw [← hq]; exact HTn.out
          have HQ := Lib.hid hq; clear hq
          have HO1 := Lib.hid (own_below HOwn1.out bel2)
          have HO2 := Lib.hid own2; clear own2
          have HBel2 := Lib.hid (HBel1.out.trans (bel2.mono HBel1.out.size)); clear bel2
          go_wp2_with (at_builtin; have hh := HO1.out; have hh2 := HO2.out; have k1 : ((m + 1) + q) * 16 ≤ 140737488355328 := (by omega); have k2 : (m + 1) + q ≤ maxLen := (by unfold maxLen; omega); have k3 := HBel2.out.size; go_must (refine wpList_join _ rfl (.tmp 25) (.tmp 28) 47 rfl w.heap.size 9 (.string ⟨#[]⟩) 16 Try.underlying47 info_str rfl (.slice (some ⟨g1, 0, none⟩) (m + 1) c1) (m + 1) _ rfl hh _ (.slice A2 q c2) q _ rfl hh2 (strs_one _) k1 k2 k3 ?_); clear hh hh2 k1 k2 k3; intro A7 c7 w7 own7 bel7 sz7)
          go_roundw
          case rel =>
            refine ⟨k + 1, (m + 1) + q, A7, c7, by omega, by go_num, rfl, ?_, ?_, Lib.hid (HBel2.out.trans bel7)⟩
            · show _ = _
              rw [HTk.out, HTN.out, ← HQ.out, hm.out]
              simp only [List.length_append, List.length_cons, List.length_nil]; omega
            · show World.ownsRow _ _ _ _ _ _ _
              rw [HTk.out, HTN.out, strs_append]
              rw [strs_append, ← List.append_assoc]
              exact own7
          case measure => simp [intOf]; omega
        · have hlk : linkB n.kind = true := by unfold linkB; simp; omega
          have t17 : (n.kind == 17) = false := by simp; omega
          have t18 : (n.kind == 18) = true := by simp; omega
          have HTN := Lib.hid (show targetsN n = [n.dest] ++ targetsL n.kids by unfold targetsN; rw [hlk]; rfl)
          clear hx hlk
          go_wp2_with (at_builtin; have hh := own_alloc HOwn0.out (.cells #[.string n.dest] 9); have k1 : (m + 1) * 16 ≤ 140737488355328 := (by omega); have k2 : m + 1 ≤ maxLen := (by unfold maxLen; omega); have k3 : w.heap.size ≤ ((wr.alloc (nodeBox n (.slice A3 n.kids.length c3))).alloc (.cells #[.string n.dest] 9)).heap.size := (by simp; omega); have k4 := cell_new (wr.alloc (nodeBox n (.slice A3 n.kids.length c3))) [.string n.dest] 9 (wr.heap.size + 1) (by simp); go_must (refine wpList_push _ rfl (.tmp 20) (.tmp 23) 47 rfl w.heap.size 9 (.string ⟨#[]⟩) 1 16 Try.underlying47 info_str rfl (by omega) (.slice Ao m co) m _ rfl hh [.string n.dest] rfl _ rfl k4 (one_str _) k1 k2 k3 ?_); clear hh k1 k2 k3 k4; intro g1 c1 w1 own1 hg1 hgg hb1; clear hgg; have hbx := (hg1.block wr.heap.size (by simp; omega) (fun e => by have := HOwn0.out.lt _ e.symm; have h2 := hown.out.lt _ e.symm; omega)).trans ((Below.heap_alloc _ _ _ (by simp)).trans HX.out); have R5 := cell_of_row w1 wr.heap.size 5 _ _ _ hbx; simp only [List.getElem?_toArray, List.getElem?_cons_zero, List.getElem?_cons_succ] at R5; clear hbx)
          have HBel1 := Lib.hid ((HB0.out.alloc HB0.out.size _).trans hb1)
          have HOwn1 := Lib.hid own1
          clear hg1 own1 hb1
          have HKd0 := Lib.hid (show NodesAt w1 (.slice A3 n.kids.length c3) n.kids from HKd9.out.keep (Keeps.of_below HBel1.out))
          go_must (refine (HI.out n.kids _ _ HSz.out HKd0.out hkt).mono ?_)
          rintro e w2 ⟨A2, c2, rfl, own2, bel2⟩
          obtain ⟨q, hq⟩ : ∃ q, (targetsL n.kids).length = q := ⟨_, rfl⟩
          rw [hq] at own2
          rw [hq]
          have hq2 : q ≤ total n.kids := by rw [← hq]; exact HTn.out
          have HQ := Lib.hid hq; clear hq
          have HO1 := Lib.hid (own_below HOwn1.out bel2)
          have HO2 := Lib.hid own2; clear own2
          have HBel2 := Lib.hid (HBel1.out.trans (bel2.mono HBel1.out.size)); clear bel2
          go_wp2_with (at_builtin; have hh := HO1.out; have hh2 := HO2.out; have k1 : ((m + 1) + q) * 16 ≤ 140737488355328 := (by omega); have k2 : (m + 1) + q ≤ maxLen := (by unfold maxLen; omega); have k3 := HBel2.out.size; go_must (refine wpList_join _ rfl (.tmp 25) (.tmp 28) 47 rfl w.heap.size 9 (.string ⟨#[]⟩) 16 Try.underlying47 info_str rfl (.slice (some ⟨g1, 0, none⟩) (m + 1) c1) (m + 1) _ rfl hh _ (.slice A2 q c2) q _ rfl hh2 (strs_one _) k1 k2 k3 ?_); clear hh hh2 k1 k2 k3; intro A7 c7 w7 own7 bel7 sz7)
          go_roundw
          case rel =>
            refine ⟨k + 1, (m + 1) + q, A7, c7, by omega, by go_num, rfl, ?_, ?_, Lib.hid (HBel2.out.trans bel7)⟩
            · show _ = _
              rw [HTk.out, HTN.out, ← HQ.out, hm.out]
              simp only [List.length_append, List.length_cons, List.length_nil]; omega
            · show World.ownsRow _ _ _ _ _ _ _
              rw [HTk.out, HTN.out, strs_append]
              rw [strs_append, ← List.append_assoc]
              exact own7
          case measure => simp [intOf]; omega
        · have hlk : linkB n.kind = false := by unfold linkB; simp; omega
          have t17 : (n.kind == 17) = false := by simp; omega
          have t18 : (n.kind == 18) = false := by simp; omega
          have HTN := Lib.hid (show targetsN n = targetsL n.kids by unfold targetsN; rw [hlk]; rfl)
          clear hx hlk
          have HBel1 := HB0
          have HOwn1 := HOwn0
          go_wp2_with fail
          go_must (refine (HI.out n.kids _ _ HSz.out HKd.out hkt).mono ?_)
          rintro e w2 ⟨A2, c2, rfl, own2, bel2⟩
          obtain ⟨q, hq⟩ : ∃ q, (targetsL n.kids).length = q := ⟨_, rfl⟩
          rw [hq] at own2
          rw [hq]
          have hq2 : q ≤ total n.kids := by rw [← hq]; exact HTn.out
          have HQ := Lib.hid hq; clear hq
          have HO1 := Lib.hid (own_below HOwn1.out bel2)
          have HO2 := Lib.hid own2; clear own2
          have HBel2 := Lib.hid (HBel1.out.trans (bel2.mono HBel1.out.size)); clear bel2
          go_wp2_with (at_builtin; have hh := HO1.out; have hh2 := HO2.out; have k1 : (m + q) * 16 ≤ 140737488355328 := (by omega); have k2 : m + q ≤ maxLen := (by unfold maxLen; omega); have k3 := HBel2.out.size; go_must (refine wpList_join _ rfl (.tmp 25) (.tmp 28) 47 rfl w.heap.size 9 (.string ⟨#[]⟩) 16 Try.underlying47 info_str rfl (.slice Ao m co) m _ rfl hh _ (.slice A2 q c2) q _ rfl hh2 (strs_one _) k1 k2 k3 ?_); clear hh hh2 k1 k2 k3; intro A7 c7 w7 own7 bel7 sz7)
          go_roundw
          case rel =>
            refine ⟨k + 1, m + q, A7, c7, by omega, by go_num, rfl, ?_, ?_, Lib.hid (HBel2.out.trans bel7)⟩
            · show _ = _
              rw [HTk.out, HTN.out, ← HQ.out, hm.out]
              simp only [List.length_append]
            · show World.ownsRow _ _ _ _ _ _ _
              rw [HTk.out, HTN.out, strs_append]
              exact own7
          case measure => simp [intOf]; omega
      · have hke : l.take k = l := by rw [List.take_of_length_le (by omega)]
        have hown2 := hown.out
        have hm2 := hm.out
        rw [hke] at hown2 hm2
        subst hm2
        have HO := Lib.hid hown2; clear hown2 hown hm
        clear hke
        go_wp2_with fail
        go_ret
        exact ⟨Ao, co, rfl, HO.out, hbel.out⟩

end Go.Proofs.Ytikcmmkeblgamaa
