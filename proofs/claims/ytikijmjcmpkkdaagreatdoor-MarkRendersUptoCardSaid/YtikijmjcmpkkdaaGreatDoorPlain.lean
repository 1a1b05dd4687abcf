/-
  Plain texts: mark.plainInto, mastref1.PlainOf.
-/
import Derived.Test.YtikijmjcmpkkdaaGreatDoorCheck7
import Derived.Test.YtikijmjcmpkkdaaGreatDoorTree
import Derived.Test.YtikijmjcmpkkdaaGreatDoorBytes
import Derived.Lib.AppendStr
namespace Go.Proofs.YtikijmjcmpkkdaaGreatDoor
open Go.RowKit Go.Deep

theorem info_byte : (Tryz.prog.info? 5).map (fun i => (i.zero, i.size, i.bytes)) = some (some (.int .u8 0), 1, 1) := by kernel_rfl

/-- what stands ahead of a node's Kids, and behind them -/
def headB (i : Nat) (k : Int) (t : List UInt8) : List UInt8 := if k = 11 ∨ k = 16 ∨ k = 18 ∨ k = 3 then t else if k = 12 ∨ k = 13 then [32] else if k = 10 ∧ 0 < i then [9] else []
def tailB (k : Int) : List UInt8 := if k = 1 ∨ k = 2 ∨ k = 3 ∨ k = 9 ∨ k = 7 then [10] else []

/-- the plain text of nodes, the first of which has the number i -/
def plainL : Nat → List Node → List UInt8
  | _, [] => []
  | i, .mk k _ t _ _ ks :: r => headB i k t.data.toList ++ plainL 0 ks ++ tailB k ++ plainL (i + 1) r

/-- a node's own -/
def plainN (i : Nat) (n : Node) : List UInt8 := headB i n.kind n.text.data.toList ++ plainL 0 n.kids ++ tailB n.kind

theorem plainL_cons (i : Nat) (n : Node) (r : List Node) : plainL i (n :: r) = plainN i n ++ plainL (i + 1) r := by cases n; rw [plainL]; rfl
theorem plainL_nil (i : Nat) : plainL i [] = [] := by rw [plainL]

theorem plainL_append (a b : List Node) : ∀ i, plainL i (a ++ b) = plainL i a ++ plainL (i + a.length) b := by
  induction a with
  | nil => intro i; rw [plainL_nil, List.nil_append, List.nil_append, List.length_nil, Nat.add_zero]
  | cons n r ih => intro i; rw [List.cons_append, plainL_cons, plainL_cons, ih, List.append_assoc, List.length_cons, show i + 1 + r.length = i + (r.length + 1) by omega]

theorem plainL_take {l : List Node} {k : Nat} {n : Node} (h : l[k]? = some n) : plainL 0 (l.take (k + 1)) = plainL 0 (l.take k) ++ plainN k n := by
  obtain ⟨hk, rfl⟩ := List.getElem?_eq_some_iff.1 h
  rw [List.take_succ_eq_append_getElem hk, plainL_append, plainL_cons, plainL_nil, List.append_nil]
  simp [Nat.min_eq_left (Nat.le_of_lt hk)]

theorem headTail_le (i : Nat) (k : Int) (t : List UInt8) : (headB i k t).length + (tailB k).length ≤ t.length + 1 := by
  unfold headB tailB
  by_cases h1 : k = 11 ∨ k = 16 ∨ k = 18 ∨ k = 3
  · rw [if_pos h1]; split <;> simp
  · rw [if_neg h1]
    by_cases h2 : k = 12 ∨ k = 13
    · rw [if_pos h2, if_neg (by omega)]; simp
    · rw [if_neg h2]
      by_cases h3 : k = 10 ∧ 0 < i
      · rw [if_pos h3, if_neg (by omega)]; simp
      · rw [if_neg h3]; split <;> simp

theorem plainL_len : ∀ (N : Nat) (l : List Node) (i : Nat), SizeOf.sizeOf l ≤ N → (plainL i l).length ≤ weight l
  | 0, l, _, h => by cases l <;> simp at h
  | N + 1, [], i, _ => by rw [plainL_nil]; simp
  | N + 1, n :: r, i, h => by
    rw [plainL_cons, weight_cons, List.length_append]
    have h1 := n.kids_lt
    simp only [List.cons.sizeOf_spec] at h
    have a := plainL_len N n.kids 0 (by omega)
    have b := plainL_len N r (i + 1) (by omega)
    have c := headTail_le i n.kind n.text.data.toList
    have e : n.text.data.toList.length = n.text.size := size_toList _
    simp only [plainN, List.length_append]
    omega
theorem plain_len (l : List Node) (i : Nat) : (plainL i l).length ≤ weight l := plainL_len _ l i (Nat.le_refl _)

theorem weight_take {l : List Node} {k : Nat} {n : Node} (h : l[k]? = some n) : weight (l.take k) + (n.text.size + n.dest.size + n.title.size + weight n.kids + 1) ≤ weight l := by
  obtain ⟨hk, rfl⟩ := List.getElem?_eq_some_iff.1 h
  have h1 : l = l.take k ++ l[k] :: l.drop (k + 1) := by rw [← List.drop_eq_getElem_cons hk, List.take_append_drop]
  have h2 : ∀ a b : List Node, weight (a ++ b) = weight a + weight b := by
    intro a b
    rw [weight_sum, weight_sum, weight_sum, sumBy_append]
  have h3 := congrArg weight h1
  rw [h2, weight_cons] at h3
  omega

/-- what is no row of bytes stays -/
def KeepsT (w w' : World) : Prop := w.heap.size ≤ w'.heap.size ∧ ∀ (b : Nat) (cs : Array Value) (t : TypeId) (fz : Nat × Nat), w.heap[b]? = some (.cells cs t fz) → t ≠ 5 → w'.heap[b]? = some (.cells cs t fz)
theorem KeepsT.refl (w : World) : KeepsT w w := ⟨Nat.le_refl _, fun _ _ _ _ h _ => h⟩
theorem KeepsT.trans {a b c : World} (h : KeepsT a b) (k : KeepsT b c) : KeepsT a c := ⟨Nat.le_trans h.1 k.1, fun x cs t fz hx ht => k.2 x cs t fz (h.2 x cs t fz hx ht) ht⟩
theorem KeepsT.alloc (w : World) (o : Obj) : KeepsT w (w.alloc o) := ⟨by simp, fun b cs t fz h _ => by
  rw [Below.heap_alloc w o b (Array.getElem?_eq_some_iff.1 h).1]; exact h⟩
theorem KeepsT.grown {w w' : World} {B : Nat} {v : Value} {n : Nat} {xs : List Value} (h : w.ownsRow B 5 1 v n xs) (hg : w.grownBy w' v.ownBlock) : KeepsT w w' := by
  refine ⟨hg.size, fun b cs t fz hb ht => ?_⟩
  rw [hg.block b (Array.getElem?_eq_some_iff.1 hb).1 ?_]
  · exact hb
  · intro e
    rcases h.2 with ⟨rfl, _⟩ | ⟨g, cap, cur, rfl, _, hgg, _⟩
    · simp [Value.ownBlock] at e
    · simp only [Value.ownBlock, Option.some.injEq] at e
      subst e
      rw [hgg] at hb
      cases hb
      exact ht rfl

/-- m bytes in a row of the call's own -/
abbrev OwnM (B : Nat) (w : World) (v : Value) (m : Nat) (bs : List UInt8) : Prop := w.ownsRow B 5 1 v m (byteCells bs)

theorem ownM_len {B : Nat} {w : World} {v : Value} {m : Nat} {bs : List UInt8} (h : OwnM B w v m bs) : bs.length = m := by
  have := h.1
  simpa [byteCells] using this
theorem ownM_more {B : Nat} {w : World} {v : Value} {m : Nat} {bs cs : List UInt8} {xs : List Value} (h : w.ownsRow B 5 1 v m (byteCells bs ++ xs)) (hx : xs = byteCells cs) : OwnM B w v m (bs ++ cs) := by
  subst hx
  have : byteCells (bs ++ cs) = byteCells bs ++ byteCells cs := by simp [byteCells]
  unfold OwnM
  rw [this]
  exact h

theorem box_cells {w w1 : World} {b : Nat} {k lv t d ti kv : Value} {fz : Nat × Nat} (h : w.heap[b]? = some (.cells #[k, lv, t, d, ti, kv] 45 fz)) (hk : KeepsT w w1) : w1.cell? ⟨b, 0, none⟩ = some k ∧ w1.cell? ⟨b, 5, none⟩ = some kv := by
  have h1 := hk.2 _ _ _ _ h (by decide)
  exact ⟨cell_of_row w1 b 0 _ _ fz h1, cell_of_row w1 b 5 _ _ fz h1⟩

/-- more bytes in a row of the call's own -/
def More (w0 : World) (bs : List UInt8) (w : World) (e : Ending) (w' : World) : Prop := ∃ A m c, e = .returned (.slice A m c) ∧ OwnM w0.heap.size w' (.slice A m c) m bs ∧ Below w0.heap.size w0 w' ∧ KeepsT w w'

theorem node_ne : (45 : TypeId) ≠ 5 := by decide


set_option maxRecDepth 100000 in
set_option maxHeartbeats 4000000 in
theorem plainInto_any (w0 : World) (N : Nat) : ∀ (l : List Node) (u : Value) (bs : List UInt8) (A : Option Addr) (m0 cp : Nat) (w : World), SizeOf.sizeOf l ≤ N → NodesAt w0 u l → Below w0.heap.size w0 w → OwnM w0.heap.size w (.slice A m0 cp) m0 bs → m0 + weight l ≤ 1073741824 →
    Calls Tryz.prog 65 #[.slice A m0 cp, u] w (More w0 (bs ++ plainL 0 l) w) := by
  induction N with
  | zero =>
    intro l u bs A m0 cp w hN
    cases l <;> simp at hN
  | succ N ih =>
    intro l u bs A m0 cp w hN h hw hown ht
    obtain ⟨An, c, bl, o, kv, rfl, hlc, hc, hA, hcell, hkid⟩ := h.inv
    unfold maxLen at hc
    have HCell := Lib.hid hcell; clear hcell
    have HKid := Lib.hid hkid; clear hkid
    have HN := Lib.hid hN; clear hN
    have HI := Lib.hid ih; clear ih
    have HOwn := Lib.hid hown; clear hown
    have HW := Lib.hid hw; clear hw
    obtain ⟨i0, hi, hz0, hz1, hz2⟩ := info_parts info_byte
    have HI0 := Lib.hid hi; clear hi
    have HZ0 := Lib.hid hz0; clear hz0
    have HZ1 := Lib.hid hz1; clear hz1
    have HZ2 := Lib.hid hz2; clear hz2
    clear h
    go_enter Tryz.func65, Tryz.ntmps65
    go_wp2_with fail
    go_loopw [0, 9] (fun t0 t wr => ∃ (k : Nat) (Ao : Option Addr) (m co : Nat) (cs : List UInt8), k ≤ l.length ∧ t = .int .i64 k ∧ t0 = .slice Ao m co ∧ Hid (cs = bs ++ plainL 0 (l.take k)) ∧ Hid (OwnM w0.heap.size wr (.slice Ao m co) m cs) ∧ Hid (Below w0.heap.size w0 wr) ∧ Hid (KeepsT w wr)) (fun _ t _ => l.length - (intOf t).toNat)
    case atStart => exact ⟨0, A, m0, cp, bs, Nat.zero_le _, rfl, rfl, (show bs = _ by rw [List.take_zero, plainL_nil, List.append_nil]), HOwn.out, HW.out, KeepsT.refl _⟩
    case round =>
      obtain ⟨k, Ao, m, co, cs, hk, rfl, rfl, hcs, hown, hbel, hkt⟩ := hrel
      by_cases hlt : k < l.length
      · have hA' := hA (by rintro rfl; simp at hlt)
        subst hA'
        obtain ⟨n, hn⟩ : ∃ n, l[k]? = some n := ⟨_, List.getElem?_eq_getElem hlt⟩
        obtain ⟨p0, p1, p2, p3, p4, p5, _, _, q2, _, _⟩ := (HCell.out k n hn).keep (Keeps.of_below hbel.out)
        have bb := World.block_lt_of_cell? _ _ p5
        simp only at bb
        have hkid := HKid.out k n hn
        obtain ⟨A3, c3, b3, o3, k3, e3, _, _, _, _, _⟩ := hkid.inv
        rw [e3] at hkid p5
        have HKd := Lib.hid hkid; clear hkid
        have HSz := Lib.hid (size_at HN.out hn)
        have hwt := weight_take hn
        have hm : m ≤ m0 + weight (l.take k) := by
          have h1 := ownM_len hown.out; have h2 := plain_len (l.take k) 0; have h3 := ownM_len HOwn.out; rw [hcs.out, List.length_append] at h1; omega
        have hcl2 : m + n.text.size + weight n.kids + 1 ≤ 1073741824 := by omega
        have HTk := Lib.hid (show bs ++ plainL 0 (l.take (k + 1)) = cs ++ plainN k n by rw [plainL_take hn, ← List.append_assoc, ← hcs.out])
        have HTs := Lib.hid (show n.text.data.toList.length = n.text.size from size_toList _)
        have HPl := Lib.hid (plain_len n.kids 0)
        have hB := hbel.out.size
        clear hn hA e3 hwt hm
        have HX := Lib.hid (heap_alloc_new wr (nodeBox n (.slice A3 n.kids.length c3)))
        have HOwn0 := Lib.hid (own_alloc hown.out (nodeBox n (.slice A3 n.kids.length c3)))
        have HB0 := Lib.hid (hbel.out.alloc hB (nodeBox n (.slice A3 n.kids.length c3)))
        have HK0 := Lib.hid (hkt.out.trans (KeepsT.alloc wr (nodeBox n (.slice A3 n.kids.length c3))))
        have hx : n.kind = 11 ∨ n.kind = 16 ∨ n.kind = 18 ∨ n.kind = 3 ∨ n.kind = 12 ∨ n.kind = 13 ∨ (n.kind = 10 ∧ 0 < k) ∨ (n.kind = 10 ∧ ¬ 0 < k) ∨ n.kind = 1 ∨ n.kind = 2 ∨ n.kind = 9 ∨ n.kind = 7 ∨ (n.kind ≠ 11 ∧ n.kind ≠ 16 ∧ n.kind ≠ 18 ∧ n.kind ≠ 3 ∧ n.kind ≠ 12 ∧ n.kind ≠ 13 ∧ n.kind ≠ 10 ∧ n.kind ≠ 1 ∧ n.kind ≠ 2 ∧ n.kind ≠ 9 ∧ n.kind ≠ 7) := by omega
        rcases hx with hx | hx | hx | hx | hx | hx | hx | hx | hx | hx | hx | hx | hx
        · have hhd : headB k n.kind n.text.data.toList = n.text.data.toList := by unfold headB; rw [if_pos (by omega)]
          have htl : tailB n.kind = [] := by unfold tailB; rw [if_neg (by omega)]
          have t11 : (n.kind == 11) = true := by simp; omega
          have t16 : (n.kind == 16) = false := by simp; omega
          have t18 : (n.kind == 18) = false := by simp; omega
          have t3 : (n.kind == 3) = false := by simp; omega
          have t12 : (n.kind == 12) = false := by simp; omega
          have t13 : (n.kind == 13) = false := by simp; omega
          have t10 : (n.kind == 10) = false := by simp; omega
          have t1 : (n.kind == 1) = false := by simp; omega
          have t2 : (n.kind == 2) = false := by simp; omega
          have t9 : (n.kind == 9) = false := by simp; omega
          have t7 : (n.kind == 7) = false := by simp; omega
          clear hx
          have HPN := Lib.hid (show cs ++ plainN k n = (cs ++ n.text.data.toList) ++ plainL 0 n.kids ++ [] by unfold plainN; rw [hhd, htl]; simp only [List.append_assoc])
          clear hhd htl
          go_wp2_with (at_builtin; have hh := HOwn0.out; have k1 : m + n.text.size ≤ maxLen := (by unfold maxLen; omega); have k2 : m + n.text.size ≤ 140737488355328 := (by omega); have k3 := HB0.out.size; go_must (refine Lib.wpList_append_own_string _ rfl (.tmp 21) (.tmp 23) 53 9 rfl w0.heap.size 5 i0 Tryz.underlying53 Tryz.underlying9 HI0.out HZ0.out HZ1.out HZ2.out (.slice Ao m co) m _ rfl hh n.text rfl k1 k2 k3 ?_); clear hh k1 k2 k3; intro v1 w1 own1 hg1 hnil; clear hnil; obtain ⟨R0, R5⟩ := box_cells HX.out (KeepsT.grown HOwn0.out hg1); obtain ⟨A1, c1, hv1, u1, u2, u3⟩ := own_form own1; subst hv1; clear u1 u2 u3)
          have HKt1 := Lib.hid (KeepsT.grown HOwn0.out hg1)
          have HBel1 := Lib.hid (HB0.out.grown hg1 HB0.out.size (fun g hg => (HOwn0.out.lt g hg).1))
          have HOwn1 := Lib.hid (ownM_more (cs := n.text.data.toList) own1 (by simp [Lib.strCells, byteCells]))
          clear hg1 own1
          go_must (refine (HI.out n.kids _ (cs ++ n.text.data.toList) A1 (m + n.text.size) c1 _ HSz.out HKd.out HBel1.out HOwn1.out (by omega)).mono ?_)
          rintro e w2 ⟨A2, m2, c2, rfl, own2, bel2, kt2⟩
          obtain ⟨S0, S5⟩ := box_cells HX.out (HKt1.out.trans kt2)
          have HOwn2 := Lib.hid own2; clear own2
          have HBel2 := Lib.hid bel2; clear bel2
          have HKt2 := Lib.hid (HK0.out.trans (HKt1.out.trans kt2)); clear kt2
          go_wp2_with fail
          go_roundw
          case rel => exact ⟨k + 1, A2, m2, c2, (cs ++ n.text.data.toList) ++ plainL 0 n.kids, by omega, by go_num, rfl, Lib.hid ((HTk.out.trans HPN.out).trans (List.append_nil _)).symm, HOwn2, HBel2, HKt2⟩
          case measure => simp [intOf]; omega
        · have hhd : headB k n.kind n.text.data.toList = n.text.data.toList := by unfold headB; rw [if_pos (by omega)]
          have htl : tailB n.kind = [] := by unfold tailB; rw [if_neg (by omega)]
          have t11 : (n.kind == 11) = false := by simp; omega
          have t16 : (n.kind == 16) = true := by simp; omega
          have t18 : (n.kind == 18) = false := by simp; omega
          have t3 : (n.kind == 3) = false := by simp; omega
          have t12 : (n.kind == 12) = false := by simp; omega
          have t13 : (n.kind == 13) = false := by simp; omega
          have t10 : (n.kind == 10) = false := by simp; omega
          have t1 : (n.kind == 1) = false := by simp; omega
          have t2 : (n.kind == 2) = false := by simp; omega
          have t9 : (n.kind == 9) = false := by simp; omega
          have t7 : (n.kind == 7) = false := by simp; omega
          clear hx
          have HPN := Lib.hid (show cs ++ plainN k n = (cs ++ n.text.data.toList) ++ plainL 0 n.kids ++ [] by unfold plainN; rw [hhd, htl]; simp only [List.append_assoc])
          clear hhd htl
          go_wp2_with (at_builtin; have hh := HOwn0.out; have k1 : m + n.text.size ≤ maxLen := (by unfold maxLen; omega); have k2 : m + n.text.size ≤ 140737488355328 := (by omega); have k3 := HB0.out.size; go_must (refine Lib.wpList_append_own_string _ rfl (.tmp 21) (.tmp 23) 53 9 rfl w0.heap.size 5 i0 Tryz.underlying53 Tryz.underlying9 HI0.out HZ0.out HZ1.out HZ2.out (.slice Ao m co) m _ rfl hh n.text rfl k1 k2 k3 ?_); clear hh k1 k2 k3; intro v1 w1 own1 hg1 hnil; clear hnil; obtain ⟨R0, R5⟩ := box_cells HX.out (KeepsT.grown HOwn0.out hg1); obtain ⟨A1, c1, hv1, u1, u2, u3⟩ := own_form own1; subst hv1; clear u1 u2 u3)
          have HKt1 := Lib.hid (KeepsT.grown HOwn0.out hg1)
          have HBel1 := Lib.hid (HB0.out.grown hg1 HB0.out.size (fun g hg => (HOwn0.out.lt g hg).1))
          have HOwn1 := Lib.hid (ownM_more (cs := n.text.data.toList) own1 (by simp [Lib.strCells, byteCells]))
          clear hg1 own1
          go_must (refine (HI.out n.kids _ (cs ++ n.text.data.toList) A1 (m + n.text.size) c1 _ HSz.out HKd.out HBel1.out HOwn1.out (by omega)).mono ?_)
          rintro e w2 ⟨A2, m2, c2, rfl, own2, bel2, kt2⟩
          obtain ⟨S0, S5⟩ := box_cells HX.out (HKt1.out.trans kt2)
          have HOwn2 := Lib.hid own2; clear own2
          have HBel2 := Lib.hid bel2; clear bel2
          have HKt2 := Lib.hid (HK0.out.trans (HKt1.out.trans kt2)); clear kt2
          go_wp2_with fail
          go_roundw
          case rel => exact ⟨k + 1, A2, m2, c2, (cs ++ n.text.data.toList) ++ plainL 0 n.kids, by omega, by go_num, rfl, Lib.hid ((HTk.out.trans HPN.out).trans (List.append_nil _)).symm, HOwn2, HBel2, HKt2⟩
          case measure => simp [intOf]; omega
        · have hhd : headB k n.kind n.text.data.toList = n.text.data.toList := by unfold headB; rw [if_pos (by omega)]
          have htl : tailB n.kind = [] := by unfold tailB; rw [if_neg (by omega)]
          have t11 : (n.kind == 11) = false := by simp; omega
          have t16 : (n.kind == 16) = false := by simp; omega
          have t18 : (n.kind == 18) = true := by simp; omega
          have t3 : (n.kind == 3) = false := by simp; omega
          have t12 : (n.kind == 12) = false := by simp; omega
          have t13 : (n.kind == 13) = false := by simp; omega
          have t10 : (n.kind == 10) = false := by simp; omega
          have t1 : (n.kind == 1) = false := by simp; omega
          have t2 : (n.kind == 2) = false := by simp; omega
          have t9 : (n.kind == 9) = false := by simp; omega
          have t7 : (n.kind == 7) = false := by simp; omega
          clear hx
          have HPN := Lib.hid (show cs ++ plainN k n = (cs ++ n.text.data.toList) ++ plainL 0 n.kids ++ [] by unfold plainN; rw [hhd, htl]; simp only [List.append_assoc])
          clear hhd htl
          go_wp2_with (at_builtin; have hh := HOwn0.out; have k1 : m + n.text.size ≤ maxLen := (by unfold maxLen; omega); have k2 : m + n.text.size ≤ 140737488355328 := (by omega); have k3 := HB0.out.size; go_must (refine Lib.wpList_append_own_string _ rfl (.tmp 21) (.tmp 23) 53 9 rfl w0.heap.size 5 i0 Tryz.underlying53 Tryz.underlying9 HI0.out HZ0.out HZ1.out HZ2.out (.slice Ao m co) m _ rfl hh n.text rfl k1 k2 k3 ?_); clear hh k1 k2 k3; intro v1 w1 own1 hg1 hnil; clear hnil; obtain ⟨R0, R5⟩ := box_cells HX.out (KeepsT.grown HOwn0.out hg1); obtain ⟨A1, c1, hv1, u1, u2, u3⟩ := own_form own1; subst hv1; clear u1 u2 u3)
          have HKt1 := Lib.hid (KeepsT.grown HOwn0.out hg1)
          have HBel1 := Lib.hid (HB0.out.grown hg1 HB0.out.size (fun g hg => (HOwn0.out.lt g hg).1))
          have HOwn1 := Lib.hid (ownM_more (cs := n.text.data.toList) own1 (by simp [Lib.strCells, byteCells]))
          clear hg1 own1
          go_must (refine (HI.out n.kids _ (cs ++ n.text.data.toList) A1 (m + n.text.size) c1 _ HSz.out HKd.out HBel1.out HOwn1.out (by omega)).mono ?_)
          rintro e w2 ⟨A2, m2, c2, rfl, own2, bel2, kt2⟩
          obtain ⟨S0, S5⟩ := box_cells HX.out (HKt1.out.trans kt2)
          have HOwn2 := Lib.hid own2; clear own2
          have HBel2 := Lib.hid bel2; clear bel2
          have HKt2 := Lib.hid (HK0.out.trans (HKt1.out.trans kt2)); clear kt2
          go_wp2_with fail
          go_roundw
          case rel => exact ⟨k + 1, A2, m2, c2, (cs ++ n.text.data.toList) ++ plainL 0 n.kids, by omega, by go_num, rfl, Lib.hid ((HTk.out.trans HPN.out).trans (List.append_nil _)).symm, HOwn2, HBel2, HKt2⟩
          case measure => simp [intOf]; omega
        · have hhd : headB k n.kind n.text.data.toList = n.text.data.toList := by unfold headB; rw [if_pos (by omega)]
          have htl : tailB n.kind = [10] := by unfold tailB; rw [if_pos (by omega)]
          have t11 : (n.kind == 11) = false := by simp; omega
          have t16 : (n.kind == 16) = false := by simp; omega
          have t18 : (n.kind == 18) = false := by simp; omega
          have t3 : (n.kind == 3) = true := by simp; omega
          have t12 : (n.kind == 12) = false := by simp; omega
          have t13 : (n.kind == 13) = false := by simp; omega
          have t10 : (n.kind == 10) = false := by simp; omega
          have t1 : (n.kind == 1) = false := by simp; omega
          have t2 : (n.kind == 2) = false := by simp; omega
          have t9 : (n.kind == 9) = false := by simp; omega
          have t7 : (n.kind == 7) = false := by simp; omega
          clear hx
          have HPN := Lib.hid (show cs ++ plainN k n = (cs ++ n.text.data.toList) ++ plainL 0 n.kids ++ [10] by unfold plainN; rw [hhd, htl]; simp only [List.append_assoc])
          clear hhd htl
          go_wp2_with (at_builtin; have hh := HOwn0.out; have k1 : m + n.text.size ≤ maxLen := (by unfold maxLen; omega); have k2 : m + n.text.size ≤ 140737488355328 := (by omega); have k3 := HB0.out.size; go_must (refine Lib.wpList_append_own_string _ rfl (.tmp 21) (.tmp 23) 53 9 rfl w0.heap.size 5 i0 Tryz.underlying53 Tryz.underlying9 HI0.out HZ0.out HZ1.out HZ2.out (.slice Ao m co) m _ rfl hh n.text rfl k1 k2 k3 ?_); clear hh k1 k2 k3; intro v1 w1 own1 hg1 hnil; clear hnil; obtain ⟨R0, R5⟩ := box_cells HX.out (KeepsT.grown HOwn0.out hg1); obtain ⟨A1, c1, hv1, u1, u2, u3⟩ := own_form own1; subst hv1; clear u1 u2 u3)
          have HKt1 := Lib.hid (KeepsT.grown HOwn0.out hg1)
          have HBel1 := Lib.hid (HB0.out.grown hg1 HB0.out.size (fun g hg => (HOwn0.out.lt g hg).1))
          have HOwn1 := Lib.hid (ownM_more (cs := n.text.data.toList) own1 (by simp [Lib.strCells, byteCells]))
          clear hg1 own1
          go_must (refine (HI.out n.kids _ (cs ++ n.text.data.toList) A1 (m + n.text.size) c1 _ HSz.out HKd.out HBel1.out HOwn1.out (by omega)).mono ?_)
          rintro e w2 ⟨A2, m2, c2, rfl, own2, bel2, kt2⟩
          obtain ⟨S0, S5⟩ := box_cells HX.out (HKt1.out.trans kt2)
          have hm2 : m2 + 1 ≤ 1073741824 := by have h1 := ownM_len own2; have h2 := ownM_len HOwn1.out; have h3 := HPl.out; rw [List.length_append, h2] at h1; omega
          have HOwn2 := Lib.hid own2; clear own2
          have HBel2 := Lib.hid bel2; clear bel2
          have HKt2 := Lib.hid (HK0.out.trans (HKt1.out.trans kt2)); clear kt2
          have hB2 := HBel2.out.size
          go_wp2_with (at_builtin; have hh := own_alloc HOwn2.out (.cells #[.int .u8 10] 5); have k1 : (m2 + 1) * 1 ≤ 140737488355328 := (by omega); have k2 : m2 + 1 ≤ maxLen := (by unfold maxLen; omega); have k3 : w0.heap.size ≤ (w2.alloc (.cells #[.int .u8 10] 5)).heap.size := (by simp; omega); have k4 := cell_new w2 [.int .u8 10] 5 w2.heap.size rfl; go_must (refine wpList_push _ rfl (.tmp 50) (.tmp 51) 53 rfl w0.heap.size 5 (.int .u8 0) 1 1 Tryz.underlying53 info_byte rfl (by omega) (.slice A2 m2 c2) m2 _ rfl hh [.int .u8 10] rfl _ rfl k4 (one_int _ _) k1 k2 k3 ?_); clear hh k1 k2 k3 k4; intro g5 c5 w5 own5 hg5 hgg hb5)
          go_roundw
          case rel => exact ⟨k + 1, some ⟨g5, 0, none⟩, m2 + 1, c5, (cs ++ n.text.data.toList) ++ plainL 0 n.kids ++ [10], by omega, by go_num, rfl, (HTk.out.trans HPN.out).symm, Lib.hid (ownM_more own5 rfl), Lib.hid ((HBel2.out.alloc HBel2.out.size _).trans hb5), Lib.hid (HKt2.out.trans ((KeepsT.alloc _ _).trans (KeepsT.grown (own_alloc HOwn2.out _) hg5)))⟩
          case measure => simp [intOf]; omega
        · have hhd : headB k n.kind n.text.data.toList = [32] := by unfold headB; rw [if_neg (by omega), if_pos (by omega)]
          have htl : tailB n.kind = [] := by unfold tailB; rw [if_neg (by omega)]
          have t11 : (n.kind == 11) = false := by simp; omega
          have t16 : (n.kind == 16) = false := by simp; omega
          have t18 : (n.kind == 18) = false := by simp; omega
          have t3 : (n.kind == 3) = false := by simp; omega
          have t12 : (n.kind == 12) = true := by simp; omega
          have t13 : (n.kind == 13) = false := by simp; omega
          have t10 : (n.kind == 10) = false := by simp; omega
          have t1 : (n.kind == 1) = false := by simp; omega
          have t2 : (n.kind == 2) = false := by simp; omega
          have t9 : (n.kind == 9) = false := by simp; omega
          have t7 : (n.kind == 7) = false := by simp; omega
          clear hx
          have HPN := Lib.hid (show cs ++ plainN k n = (cs ++ [32]) ++ plainL 0 n.kids ++ [] by unfold plainN; rw [hhd, htl]; simp only [List.append_assoc])
          clear hhd htl
          go_wp2_with (at_builtin; have hh := own_alloc HOwn0.out (.cells #[.int .u8 32] 5); have k1 : (m + 1) * 1 ≤ 140737488355328 := (by omega); have k2 : m + 1 ≤ maxLen := (by unfold maxLen; omega); have k3 : w0.heap.size ≤ ((wr.alloc (nodeBox n (.slice A3 n.kids.length c3))).alloc (.cells #[.int .u8 32] 5)).heap.size := (by simp; omega); have k4 := cell_new (wr.alloc (nodeBox n (.slice A3 n.kids.length c3))) [.int .u8 32] 5 (wr.heap.size + 1) (by simp); go_must (refine wpList_push _ rfl (.tmp 28) (.tmp 29) 53 rfl w0.heap.size 5 (.int .u8 0) 1 1 Tryz.underlying53 info_byte rfl (by omega) (.slice Ao m co) m _ rfl hh [.int .u8 32] rfl _ rfl k4 (one_int _ _) k1 k2 k3 ?_); clear hh k1 k2 k3 k4; intro g1 c1 w1 own1 hg1 hgg hb1; clear hgg; obtain ⟨R0, R5⟩ := box_cells HX.out ((KeepsT.alloc _ _).trans (KeepsT.grown (own_alloc HOwn0.out _) hg1)))
          have HKt1 := Lib.hid ((KeepsT.alloc _ _).trans (KeepsT.grown (own_alloc HOwn0.out _) hg1))
          have HBel1 := Lib.hid ((HB0.out.alloc HB0.out.size _).trans hb1)
          have HOwn1 := Lib.hid (ownM_more (cs := [32]) own1 rfl)
          clear hg1 own1 hb1
          go_must (refine (HI.out n.kids _ (cs ++ [32]) (some ⟨g1, 0, none⟩) (m + 1) c1 _ HSz.out HKd.out HBel1.out HOwn1.out (by omega)).mono ?_)
          rintro e w2 ⟨A2, m2, c2, rfl, own2, bel2, kt2⟩
          obtain ⟨S0, S5⟩ := box_cells HX.out (HKt1.out.trans kt2)
          have HOwn2 := Lib.hid own2; clear own2
          have HBel2 := Lib.hid bel2; clear bel2
          have HKt2 := Lib.hid (HK0.out.trans (HKt1.out.trans kt2)); clear kt2
          go_wp2_with fail
          go_roundw
          case rel => exact ⟨k + 1, A2, m2, c2, (cs ++ [32]) ++ plainL 0 n.kids, by omega, by go_num, rfl, Lib.hid ((HTk.out.trans HPN.out).trans (List.append_nil _)).symm, HOwn2, HBel2, HKt2⟩
          case measure => simp [intOf]; omega
        · have hhd : headB k n.kind n.text.data.toList = [32] := by unfold headB; rw [if_neg (by omega), if_pos (by omega)]
          have htl : tailB n.kind = [] := by unfold tailB; rw [if_neg (by omega)]
          have t11 : (n.kind == 11) = false := by simp; omega
          have t16 : (n.kind == 16) = false := by simp; omega
          have t18 : (n.kind == 18) = false := by simp; omega
          have t3 : (n.kind == 3) = false := by simp; omega
          have t12 : (n.kind == 12) = false := by simp; omega
          have t13 : (n.kind == 13) = true := by simp; omega
          have t10 : (n.kind == 10) = false := by simp; omega
          have t1 : (n.kind == 1) = false := by simp; omega
          have t2 : (n.kind == 2) = false := by simp; omega
          have t9 : (n.kind == 9) = false := by simp; omega
          have t7 : (n.kind == 7) = false := by simp; omega
          clear hx
          have HPN := Lib.hid (show cs ++ plainN k n = (cs ++ [32]) ++ plainL 0 n.kids ++ [] by unfold plainN; rw [hhd, htl]; simp only [List.append_assoc])
          clear hhd htl
          go_wp2_with (at_builtin; have hh := own_alloc HOwn0.out (.cells #[.int .u8 32] 5); have k1 : (m + 1) * 1 ≤ 140737488355328 := (by omega); have k2 : m + 1 ≤ maxLen := (by unfold maxLen; omega); have k3 : w0.heap.size ≤ ((wr.alloc (nodeBox n (.slice A3 n.kids.length c3))).alloc (.cells #[.int .u8 32] 5)).heap.size := (by simp; omega); have k4 := cell_new (wr.alloc (nodeBox n (.slice A3 n.kids.length c3))) [.int .u8 32] 5 (wr.heap.size + 1) (by simp); go_must (refine wpList_push _ rfl (.tmp 28) (.tmp 29) 53 rfl w0.heap.size 5 (.int .u8 0) 1 1 Tryz.underlying53 info_byte rfl (by omega) (.slice Ao m co) m _ rfl hh [.int .u8 32] rfl _ rfl k4 (one_int _ _) k1 k2 k3 ?_); clear hh k1 k2 k3 k4; intro g1 c1 w1 own1 hg1 hgg hb1; clear hgg; obtain ⟨R0, R5⟩ := box_cells HX.out ((KeepsT.alloc _ _).trans (KeepsT.grown (own_alloc HOwn0.out _) hg1)))
          have HKt1 := Lib.hid ((KeepsT.alloc _ _).trans (KeepsT.grown (own_alloc HOwn0.out _) hg1))
          have HBel1 := Lib.hid ((HB0.out.alloc HB0.out.size _).trans hb1)
          have HOwn1 := Lib.hid (ownM_more (cs := [32]) own1 rfl)
          clear hg1 own1 hb1
          go_must (refine (HI.out n.kids _ (cs ++ [32]) (some ⟨g1, 0, none⟩) (m + 1) c1 _ HSz.out HKd.out HBel1.out HOwn1.out (by omega)).mono ?_)
          rintro e w2 ⟨A2, m2, c2, rfl, own2, bel2, kt2⟩
          obtain ⟨S0, S5⟩ := box_cells HX.out (HKt1.out.trans kt2)
          have HOwn2 := Lib.hid own2; clear own2
          have HBel2 := Lib.hid bel2; clear bel2
          have HKt2 := Lib.hid (HK0.out.trans (HKt1.out.trans kt2)); clear kt2
          go_wp2_with fail
          go_roundw
          case rel => exact ⟨k + 1, A2, m2, c2, (cs ++ [32]) ++ plainL 0 n.kids, by omega, by go_num, rfl, Lib.hid ((HTk.out.trans HPN.out).trans (List.append_nil _)).symm, HOwn2, HBel2, HKt2⟩
          case measure => simp [intOf]; omega
        · have hhd : headB k n.kind n.text.data.toList = [9] := by unfold headB; rw [if_neg (by omega), if_neg (by omega), if_pos (by omega)]
          have htl : tailB n.kind = [] := by unfold tailB; rw [if_neg (by omega)]
          have t11 : (n.kind == 11) = false := by simp; omega
          have t16 : (n.kind == 16) = false := by simp; omega
          have t18 : (n.kind == 18) = false := by simp; omega
          have t3 : (n.kind == 3) = false := by simp; omega
          have t12 : (n.kind == 12) = false := by simp; omega
          have t13 : (n.kind == 13) = false := by simp; omega
          have t10 : (n.kind == 10) = true := by simp; omega
          have t1 : (n.kind == 1) = false := by simp; omega
          have t2 : (n.kind == 2) = false := by simp; omega
          have t9 : (n.kind == 9) = false := by simp; omega
          have t7 : (n.kind == 7) = false := by simp; omega
          have t0 : decide (0 < k) = true := by simp; omega
          clear hx
          have HPN := Lib.hid (show cs ++ plainN k n = (cs ++ [9]) ++ plainL 0 n.kids ++ [] by unfold plainN; rw [hhd, htl]; simp only [List.append_assoc])
          clear hhd htl
          go_wp2_with (at_builtin; have hh := own_alloc HOwn0.out (.cells #[.int .u8 9] 5); have k1 : (m + 1) * 1 ≤ 140737488355328 := (by omega); have k2 : m + 1 ≤ maxLen := (by unfold maxLen; omega); have k3 : w0.heap.size ≤ ((wr.alloc (nodeBox n (.slice A3 n.kids.length c3))).alloc (.cells #[.int .u8 9] 5)).heap.size := (by simp; omega); have k4 := cell_new (wr.alloc (nodeBox n (.slice A3 n.kids.length c3))) [.int .u8 9] 5 (wr.heap.size + 1) (by simp); go_must (refine wpList_push _ rfl (.tmp 35) (.tmp 36) 53 rfl w0.heap.size 5 (.int .u8 0) 1 1 Tryz.underlying53 info_byte rfl (by omega) (.slice Ao m co) m _ rfl hh [.int .u8 9] rfl _ rfl k4 (one_int _ _) k1 k2 k3 ?_); clear hh k1 k2 k3 k4; intro g1 c1 w1 own1 hg1 hgg hb1; clear hgg; obtain ⟨R0, R5⟩ := box_cells HX.out ((KeepsT.alloc _ _).trans (KeepsT.grown (own_alloc HOwn0.out _) hg1)))
          have HKt1 := Lib.hid ((KeepsT.alloc _ _).trans (KeepsT.grown (own_alloc HOwn0.out _) hg1))
          have HBel1 := Lib.hid ((HB0.out.alloc HB0.out.size _).trans hb1)
          have HOwn1 := Lib.hid (ownM_more (cs := [9]) own1 rfl)
          clear hg1 own1 hb1
          go_must (refine (HI.out n.kids _ (cs ++ [9]) (some ⟨g1, 0, none⟩) (m + 1) c1 _ HSz.out HKd.out HBel1.out HOwn1.out (by omega)).mono ?_)
          rintro e w2 ⟨A2, m2, c2, rfl, own2, bel2, kt2⟩
          obtain ⟨S0, S5⟩ := box_cells HX.out (HKt1.out.trans kt2)
          have HOwn2 := Lib.hid own2; clear own2
          have HBel2 := Lib.hid bel2; clear bel2
          have HKt2 := Lib.hid (HK0.out.trans (HKt1.out.trans kt2)); clear kt2
          go_wp2_with fail
          go_roundw
          case rel => exact ⟨k + 1, A2, m2, c2, (cs ++ [9]) ++ plainL 0 n.kids, by omega, by go_num, rfl, Lib.hid ((HTk.out.trans HPN.out).trans (List.append_nil _)).symm, HOwn2, HBel2, HKt2⟩
          case measure => simp [intOf]; omega
        · have hhd : headB k n.kind n.text.data.toList = [] := by unfold headB; rw [if_neg (by omega), if_neg (by omega), if_neg (by omega)]
          have htl : tailB n.kind = [] := by unfold tailB; rw [if_neg (by omega)]
          have t11 : (n.kind == 11) = false := by simp; omega
          have t16 : (n.kind == 16) = false := by simp; omega
          have t18 : (n.kind == 18) = false := by simp; omega
          have t3 : (n.kind == 3) = false := by simp; omega
          have t12 : (n.kind == 12) = false := by simp; omega
          have t13 : (n.kind == 13) = false := by simp; omega
          have t10 : (n.kind == 10) = true := by simp; omega
          have t1 : (n.kind == 1) = false := by simp; omega
          have t2 : (n.kind == 2) = false := by simp; omega
          have t9 : (n.kind == 9) = false := by simp; omega
          have t7 : (n.kind == 7) = false := by simp; omega
          have t0 : decide (0 < k) = false := by simp; omega
          clear hx
          have HPN := Lib.hid (show cs ++ plainN k n = (cs ++ []) ++ plainL 0 n.kids ++ [] by unfold plainN; rw [hhd, htl]; simp only [List.append_assoc])
          clear hhd htl
          have HKt1 := Lib.hid (KeepsT.refl (wr.alloc (nodeBox n (.slice A3 n.kids.length c3))))
          have HBel1 := HB0
          have HOwn1 := Lib.hid (show OwnM w0.heap.size (wr.alloc (nodeBox n (.slice A3 n.kids.length c3))) (.slice Ao m co) m (cs ++ []) by rw [List.append_nil]; exact HOwn0.out)
          go_wp2_with fail
          go_must (refine (HI.out n.kids _ (cs ++ []) Ao m co _ HSz.out HKd.out HBel1.out HOwn1.out (by omega)).mono ?_)
          rintro e w2 ⟨A2, m2, c2, rfl, own2, bel2, kt2⟩
          obtain ⟨S0, S5⟩ := box_cells HX.out (HKt1.out.trans kt2)
          have HOwn2 := Lib.hid own2; clear own2
          have HBel2 := Lib.hid bel2; clear bel2
          have HKt2 := Lib.hid (HK0.out.trans (HKt1.out.trans kt2)); clear kt2
          go_wp2_with fail
          go_roundw
          case rel => exact ⟨k + 1, A2, m2, c2, (cs ++ []) ++ plainL 0 n.kids, by omega, by go_num, rfl, Lib.hid ((HTk.out.trans HPN.out).trans (List.append_nil _)).symm, HOwn2, HBel2, HKt2⟩
          case measure => simp [intOf]; omega
        · have hhd : headB k n.kind n.text.data.toList = [] := by unfold headB; rw [if_neg (by omega), if_neg (by omega), if_neg (by omega)]
          have htl : tailB n.kind = [10] := by unfold tailB; rw [if_pos (by omega)]
          have t11 : (n.kind == 11) = false := by simp; omega
          have t16 : (n.kind == 16) = false := by simp; omega
          have t18 : (n.kind == 18) = false := by simp; omega
          have t3 : (n.kind == 3) = false := by simp; omega
          have t12 : (n.kind == 12) = false := by simp; omega
          have t13 : (n.kind == 13) = false := by simp; omega
          have t10 : (n.kind == 10) = false := by simp; omega
          have t1 : (n.kind == 1) = true := by simp; omega
          have t2 : (n.kind == 2) = false := by simp; omega
          have t9 : (n.kind == 9) = false := by simp; omega
          have t7 : (n.kind == 7) = false := by simp; omega
          clear hx
          have HPN := Lib.hid (show cs ++ plainN k n = (cs ++ []) ++ plainL 0 n.kids ++ [10] by unfold plainN; rw [hhd, htl]; simp only [List.append_assoc])
          clear hhd htl
          have HKt1 := Lib.hid (KeepsT.refl (wr.alloc (nodeBox n (.slice A3 n.kids.length c3))))
          have HBel1 := HB0
          have HOwn1 := Lib.hid (show OwnM w0.heap.size (wr.alloc (nodeBox n (.slice A3 n.kids.length c3))) (.slice Ao m co) m (cs ++ []) by rw [List.append_nil]; exact HOwn0.out)
          go_wp2_with fail
          go_must (refine (HI.out n.kids _ (cs ++ []) Ao m co _ HSz.out HKd.out HBel1.out HOwn1.out (by omega)).mono ?_)
          rintro e w2 ⟨A2, m2, c2, rfl, own2, bel2, kt2⟩
          obtain ⟨S0, S5⟩ := box_cells HX.out (HKt1.out.trans kt2)
          have hm2 : m2 + 1 ≤ 1073741824 := by have h1 := ownM_len own2; have h2 := ownM_len HOwn1.out; have h3 := HPl.out; rw [List.length_append, h2] at h1; omega
          have HOwn2 := Lib.hid own2; clear own2
          have HBel2 := Lib.hid bel2; clear bel2
          have HKt2 := Lib.hid (HK0.out.trans (HKt1.out.trans kt2)); clear kt2
          have hB2 := HBel2.out.size
          go_wp2_with (at_builtin; have hh := own_alloc HOwn2.out (.cells #[.int .u8 10] 5); have k1 : (m2 + 1) * 1 ≤ 140737488355328 := (by omega); have k2 : m2 + 1 ≤ maxLen := (by unfold maxLen; omega); have k3 : w0.heap.size ≤ (w2.alloc (.cells #[.int .u8 10] 5)).heap.size := (by simp; omega); have k4 := cell_new w2 [.int .u8 10] 5 w2.heap.size rfl; go_must (refine wpList_push _ rfl (.tmp 50) (.tmp 51) 53 rfl w0.heap.size 5 (.int .u8 0) 1 1 Tryz.underlying53 info_byte rfl (by omega) (.slice A2 m2 c2) m2 _ rfl hh [.int .u8 10] rfl _ rfl k4 (one_int _ _) k1 k2 k3 ?_); clear hh k1 k2 k3 k4; intro g5 c5 w5 own5 hg5 hgg hb5)
          go_roundw
          case rel => exact ⟨k + 1, some ⟨g5, 0, none⟩, m2 + 1, c5, (cs ++ []) ++ plainL 0 n.kids ++ [10], by omega, by go_num, rfl, (HTk.out.trans HPN.out).symm, Lib.hid (ownM_more own5 rfl), Lib.hid ((HBel2.out.alloc HBel2.out.size _).trans hb5), Lib.hid (HKt2.out.trans ((KeepsT.alloc _ _).trans (KeepsT.grown (own_alloc HOwn2.out _) hg5)))⟩
          case measure => simp [intOf]; omega
        · have hhd : headB k n.kind n.text.data.toList = [] := by unfold headB; rw [if_neg (by omega), if_neg (by omega), if_neg (by omega)]
          have htl : tailB n.kind = [10] := by unfold tailB; rw [if_pos (by omega)]
          have t11 : (n.kind == 11) = false := by simp; omega
          have t16 : (n.kind == 16) = false := by simp; omega
          have t18 : (n.kind == 18) = false := by simp; omega
          have t3 : (n.kind == 3) = false := by simp; omega
          have t12 : (n.kind == 12) = false := by simp; omega
          have t13 : (n.kind == 13) = false := by simp; omega
          have t10 : (n.kind == 10) = false := by simp; omega
          have t1 : (n.kind == 1) = false := by simp; omega
          have t2 : (n.kind == 2) = true := by simp; omega
          have t9 : (n.kind == 9) = false := by simp; omega
          have t7 : (n.kind == 7) = false := by simp; omega
          clear hx
          have HPN := Lib.hid (show cs ++ plainN k n = (cs ++ []) ++ plainL 0 n.kids ++ [10] by unfold plainN; rw [hhd, htl]; simp only [List.append_assoc])
          clear hhd htl
          have HKt1 := Lib.hid (KeepsT.refl (wr.alloc (nodeBox n (.slice A3 n.kids.length c3))))
          have HBel1 := HB0
          have HOwn1 := Lib.hid (show OwnM w0.heap.size (wr.alloc (nodeBox n (.slice A3 n.kids.length c3))) (.slice Ao m co) m (cs ++ []) by rw [List.append_nil]; exact HOwn0.out)
          go_wp2_with fail
          go_must (refine (HI.out n.kids _ (cs ++ []) Ao m co _ HSz.out HKd.out HBel1.out HOwn1.out (by omega)).mono ?_)
          rintro e w2 ⟨A2, m2, c2, rfl, own2, bel2, kt2⟩
          obtain ⟨S0, S5⟩ := box_cells HX.out (HKt1.out.trans kt2)
          have hm2 : m2 + 1 ≤ 1073741824 := by have h1 := ownM_len own2; have h2 := ownM_len HOwn1.out; have h3 := HPl.out; rw [List.length_append, h2] at h1; omega
          have HOwn2 := Lib.hid own2; clear own2
          have HBel2 := Lib.hid bel2; clear bel2
          have HKt2 := Lib.hid (HK0.out.trans (HKt1.out.trans kt2)); clear kt2
          have hB2 := HBel2.out.size
          go_wp2_with (at_builtin; have hh := own_alloc HOwn2.out (.cells #[.int .u8 10] 5); have k1 : (m2 + 1) * 1 ≤ 140737488355328 := (by omega); have k2 : m2 + 1 ≤ maxLen := (by unfold maxLen; omega); have k3 : w0.heap.size ≤ (w2.alloc (.cells #[.int .u8 10] 5)).heap.size := (by simp; omega); have k4 := cell_new w2 [.int .u8 10] 5 w2.heap.size rfl; go_must (refine wpList_push _ rfl (.tmp 50) (.tmp 51) 53 rfl w0.heap.size 5 (.int .u8 0) 1 1 Tryz.underlying53 info_byte rfl (by omega) (.slice A2 m2 c2) m2 _ rfl hh [.int .u8 10] rfl _ rfl k4 (one_int _ _) k1 k2 k3 ?_); clear hh k1 k2 k3 k4; intro g5 c5 w5 own5 hg5 hgg hb5)
          go_roundw
          case rel => exact ⟨k + 1, some ⟨g5, 0, none⟩, m2 + 1, c5, (cs ++ []) ++ plainL 0 n.kids ++ [10], by omega, by go_num, rfl, (HTk.out.trans HPN.out).symm, Lib.hid (ownM_more own5 rfl), Lib.hid ((HBel2.out.alloc HBel2.out.size _).trans hb5), Lib.hid (HKt2.out.trans ((KeepsT.alloc _ _).trans (KeepsT.grown (own_alloc HOwn2.out _) hg5)))⟩
          case measure => simp [intOf]; omega
        · have hhd : headB k n.kind n.text.data.toList = [] := by unfold headB; rw [if_neg (by omega), if_neg (by omega), if_neg (by omega)]
          have htl : tailB n.kind = [10] := by unfold tailB; rw [if_pos (by omega)]
          have t11 : (n.kind == 11) = false := by simp; omega
          have t16 : (n.kind == 16) = false := by simp; omega
          have t18 : (n.kind == 18) = false := by simp; omega
          have t3 : (n.kind == 3) = false := by simp; omega
          have t12 : (n.kind == 12) = false := by simp; omega
          have t13 : (n.kind == 13) = false := by simp; omega
          have t10 : (n.kind == 10) = false := by simp; omega
          have t1 : (n.kind == 1) = false := by simp; omega
          have t2 : (n.kind == 2) = false := by simp; omega
          have t9 : (n.kind == 9) = true := by simp; omega
          have t7 : (n.kind == 7) = false := by simp; omega
          clear hx
          have HPN := Lib.hid (show cs ++ plainN k n = (cs ++ []) ++ plainL 0 n.kids ++ [10] by unfold plainN; rw [hhd, htl]; simp only [List.append_assoc])
          clear hhd htl
          have HKt1 := Lib.hid (KeepsT.refl (wr.alloc (nodeBox n (.slice A3 n.kids.length c3))))
          have HBel1 := HB0
          have HOwn1 := Lib.hid (show OwnM w0.heap.size (wr.alloc (nodeBox n (.slice A3 n.kids.length c3))) (.slice Ao m co) m (cs ++ []) by rw [List.append_nil]; exact HOwn0.out)
          go_wp2_with fail
          go_must (refine (HI.out n.kids _ (cs ++ []) Ao m co _ HSz.out HKd.out HBel1.out HOwn1.out (by omega)).mono ?_)
          rintro e w2 ⟨A2, m2, c2, rfl, own2, bel2, kt2⟩
          obtain ⟨S0, S5⟩ := box_cells HX.out (HKt1.out.trans kt2)
          have hm2 : m2 + 1 ≤ 1073741824 := by have h1 := ownM_len own2; have h2 := ownM_len HOwn1.out; have h3 := HPl.out; rw [List.length_append, h2] at h1; omega
          have HOwn2 := Lib.hid own2; clear own2
          have HBel2 := Lib.hid bel2; clear bel2
          have HKt2 := Lib.hid (HK0.out.trans (HKt1.out.trans kt2)); clear kt2
          have hB2 := HBel2.out.size
          go_wp2_with (at_builtin; have hh := own_alloc HOwn2.out (.cells #[.int .u8 10] 5); have k1 : (m2 + 1) * 1 ≤ 140737488355328 := (by omega); have k2 : m2 + 1 ≤ maxLen := (by unfold maxLen; omega); have k3 : w0.heap.size ≤ (w2.alloc (.cells #[.int .u8 10] 5)).heap.size := (by simp; omega); have k4 := cell_new w2 [.int .u8 10] 5 w2.heap.size rfl; go_must (refine wpList_push _ rfl (.tmp 50) (.tmp 51) 53 rfl w0.heap.size 5 (.int .u8 0) 1 1 Tryz.underlying53 info_byte rfl (by omega) (.slice A2 m2 c2) m2 _ rfl hh [.int .u8 10] rfl _ rfl k4 (one_int _ _) k1 k2 k3 ?_); clear hh k1 k2 k3 k4; intro g5 c5 w5 own5 hg5 hgg hb5)
          go_roundw
          case rel => exact ⟨k + 1, some ⟨g5, 0, none⟩, m2 + 1, c5, (cs ++ []) ++ plainL 0 n.kids ++ [10], by omega, by go_num, rfl, (HTk.out.trans HPN.out).symm, Lib.hid (ownM_more own5 rfl), Lib.hid ((HBel2.out.alloc HBel2.out.size _).trans hb5), Lib.hid (HKt2.out.trans ((KeepsT.alloc _ _).trans (KeepsT.grown (own_alloc HOwn2.out _) hg5)))⟩
          case measure => simp [intOf]; omega
        · have hhd : headB k n.kind n.text.data.toList = [] := by unfold headB; rw [if_neg (by omega), if_neg (by omega), if_neg (by omega)]
          have htl : tailB n.kind = [10] := by unfold tailB; rw [if_pos (by omega)]
          have t11 : (n.kind == 11) = false := by simp; omega
          have t16 : (n.kind == 16) = false := by simp; omega
          have t18 : (n.kind == 18) = false := by simp; omega
          have t3 : (n.kind == 3) = false := by simp; omega
          have t12 : (n.kind == 12) = false := by simp; omega
          have t13 : (n.kind == 13) = false := by simp; omega
          have t10 : (n.kind == 10) = false := by simp; omega
          have t1 : (n.kind == 1) = false := by simp; omega
          have t2 : (n.kind == 2) = false := by simp; omega
          have t9 : (n.kind == 9) = false := by simp; omega
          have t7 : (n.kind == 7) = true := by simp; omega
          clear hx
          have HPN := Lib.hid (show cs ++ plainN k n = (cs ++ []) ++ plainL 0 n.kids ++ [10] by unfold plainN; rw [hhd, htl]; simp only [List.append_assoc])
          clear hhd htl
          have HKt1 := Lib.hid (KeepsT.refl (wr.alloc (nodeBox n (.slice A3 n.kids.length c3))))
          have HBel1 := HB0
          have HOwn1 := Lib.hid (show OwnM w0.heap.size (wr.alloc (nodeBox n (.slice A3 n.kids.length c3))) (.slice Ao m co) m (cs ++ []) by rw [List.append_nil]; exact HOwn0.out)
          go_wp2_with fail
          go_must (refine (HI.out n.kids _ (cs ++ []) Ao m co _ HSz.out HKd.out HBel1.out HOwn1.out (by omega)).mono ?_)
          rintro e w2 ⟨A2, m2, c2, rfl, own2, bel2, kt2⟩
          obtain ⟨S0, S5⟩ := box_cells HX.out (HKt1.out.trans kt2)
          have hm2 : m2 + 1 ≤ 1073741824 := by have h1 := ownM_len own2; have h2 := ownM_len HOwn1.out; have h3 := HPl.out; rw [List.length_append, h2] at h1; omega
          have HOwn2 := Lib.hid own2; clear own2
          have HBel2 := Lib.hid bel2; clear bel2
          have HKt2 := Lib.hid (HK0.out.trans (HKt1.out.trans kt2)); clear kt2
          have hB2 := HBel2.out.size
          go_wp2_with (at_builtin; have hh := own_alloc HOwn2.out (.cells #[.int .u8 10] 5); have k1 : (m2 + 1) * 1 ≤ 140737488355328 := (by omega); have k2 : m2 + 1 ≤ maxLen := (by unfold maxLen; omega); have k3 : w0.heap.size ≤ (w2.alloc (.cells #[.int .u8 10] 5)).heap.size := (by simp; omega); have k4 := cell_new w2 [.int .u8 10] 5 w2.heap.size rfl; go_must (refine wpList_push _ rfl (.tmp 50) (.tmp 51) 53 rfl w0.heap.size 5 (.int .u8 0) 1 1 Tryz.underlying53 info_byte rfl (by omega) (.slice A2 m2 c2) m2 _ rfl hh [.int .u8 10] rfl _ rfl k4 (one_int _ _) k1 k2 k3 ?_); clear hh k1 k2 k3 k4; intro g5 c5 w5 own5 hg5 hgg hb5)
          go_roundw
          case rel => exact ⟨k + 1, some ⟨g5, 0, none⟩, m2 + 1, c5, (cs ++ []) ++ plainL 0 n.kids ++ [10], by omega, by go_num, rfl, (HTk.out.trans HPN.out).symm, Lib.hid (ownM_more own5 rfl), Lib.hid ((HBel2.out.alloc HBel2.out.size _).trans hb5), Lib.hid (HKt2.out.trans ((KeepsT.alloc _ _).trans (KeepsT.grown (own_alloc HOwn2.out _) hg5)))⟩
          case measure => simp [intOf]; omega
        · have hhd : headB k n.kind n.text.data.toList = [] := by unfold headB; rw [if_neg (by omega), if_neg (by omega), if_neg (by omega)]
          have htl : tailB n.kind = [] := by unfold tailB; rw [if_neg (by omega)]
          have t11 : (n.kind == 11) = false := by simp; omega
          have t16 : (n.kind == 16) = false := by simp; omega
          have t18 : (n.kind == 18) = false := by simp; omega
          have t3 : (n.kind == 3) = false := by simp; omega
          have t12 : (n.kind == 12) = false := by simp; omega
          have t13 : (n.kind == 13) = false := by simp; omega
          have t10 : (n.kind == 10) = false := by simp; omega
          have t1 : (n.kind == 1) = false := by simp; omega
          have t2 : (n.kind == 2) = false := by simp; omega
          have t9 : (n.kind == 9) = false := by simp; omega
          have t7 : (n.kind == 7) = false := by simp; omega
          clear hx
          have HPN := Lib.hid (show cs ++ plainN k n = (cs ++ []) ++ plainL 0 n.kids ++ [] by unfold plainN; rw [hhd, htl]; simp only [List.append_assoc])
          clear hhd htl
          have HKt1 := Lib.hid (KeepsT.refl (wr.alloc (nodeBox n (.slice A3 n.kids.length c3))))
          have HBel1 := HB0
          have HOwn1 := Lib.hid (show OwnM w0.heap.size (wr.alloc (nodeBox n (.slice A3 n.kids.length c3))) (.slice Ao m co) m (cs ++ []) by rw [List.append_nil]; exact HOwn0.out)
          go_wp2_with fail
          go_must (refine (HI.out n.kids _ (cs ++ []) Ao m co _ HSz.out HKd.out HBel1.out HOwn1.out (by omega)).mono ?_)
          rintro e w2 ⟨A2, m2, c2, rfl, own2, bel2, kt2⟩
          obtain ⟨S0, S5⟩ := box_cells HX.out (HKt1.out.trans kt2)
          have HOwn2 := Lib.hid own2; clear own2
          have HBel2 := Lib.hid bel2; clear bel2
          have HKt2 := Lib.hid (HK0.out.trans (HKt1.out.trans kt2)); clear kt2
          go_wp2_with fail
          go_roundw
          case rel => exact ⟨k + 1, A2, m2, c2, (cs ++ []) ++ plainL 0 n.kids, by omega, by go_num, rfl, Lib.hid ((HTk.out.trans HPN.out).trans (List.append_nil _)).symm, HOwn2, HBel2, HKt2⟩
          case measure => simp [intOf]; omega
      · have hke : l.take k = l := by rw [List.take_of_length_le (by omega)]
        have HF := Lib.hid (hcs.out.trans (by rw [hke])); clear hke
        go_wp2_with fail
        go_ret
        refine ⟨Ao, m, co, rfl, ?_, hbel.out, hkt.out⟩
        rw [← HF.out]
        exact hown.out

end Go.Proofs.YtikijmjcmpkkdaaGreatDoor
