/-
  Plain texts: mark.plainInto, mastref1.PlainOf.
-/
import Derived.Test.YtphmhhonbkcajaaDoorCheck7
import Derived.Test.YtphmhhonbkcajaaDoorTree
import Derived.Test.YtphmhhonbkcajaaDoorBytes
import Derived.Lib.AppendStr
namespace Go.Proofs.YtphmhhonbkcajaaDoor
open Go.RowKit Go.Deep

theorem info_byte : (Tryd.prog.info? 5).map (fun i => (i.zero, i.size, i.bytes)) = some (some (.int .u8 0), 1, 1) := by kernel_rfl

/-- what stands ahead of a node's Kids, and behind them -/
def headB (i : Nat) (k : Int) (t : List UInt8) : List UInt8 := if k = 11 ∨ k = 16 ∨ k = 18 ∨ k = 3 then t else if k = 12 ∨ k = 13 then [32] else if k = 10 ∧ 0 < i then [9] else []
def tailB (k : Int) : List UInt8 := if k = 1 ∨ k = 2 ∨ k = 3 ∨ k = 9 ∨ k = 7 then [10] else []

/-- the plain text of nodes, the first of which has the number i -/
def plainL : Nat → List Node → List UInt8
  | _, [] => []
  | i, .mk k _ t _ _ ks :: r => headB i k t.data.toList ++ plainL 0 ks ++ tailB k ++ plainL (i + 1) r

/-- a node's own -/
def plainN (i : Nat) (n : Node) : List UInt8 := headB i n.kind n.text.data.toList ++ plainL 0 n.kids ++ tailB n.kind

theorem plainL_cons (i : Nat) (n : Node) (r : List Node) : plainL i (n :: r) = plainN i n ++ plainL (i + 1) r := by cases n; rw [plainL]; rfl
theorem plainL_nil (i : Nat) : plainL i [] = [] := by rw [plainL]

theorem plainL_append (a b : List Node) : ∀ i, plainL i (a ++ b) = plainL i a ++ plainL (i + a.length) b := by
  induction a with
  | nil => intro i; rw [plainL_nil, List.nil_append, List.nil_append, List.length_nil, Nat.add_zero]
  | cons n r ih => intro i; rw [List.cons_append, plainL_cons, plainL_cons, ih, List.append_assoc, List.length_cons, show i + 1 + r.length = i + (r.length + 1) by omega]

theorem plainL_take {l : List Node} {k : Nat} {n : Node} (h : l[k]? = some n) : plainL 0 (l.take (k + 1)) = plainL 0 (l.take k) ++ plainN k n := by
  obtain ⟨hk, rfl⟩ := List.getElem?_eq_some_iff.1 h
  rw [List.take_succ_eq_append_getElem hk, plainL_append, plainL_cons, plainL_nil, List.append_nil]
  simp [Nat.min_eq_left (Nat.le_of_lt hk)]

theorem headTail_le (i : Nat) (k : Int) (t : List UInt8) : (headB i k t).length + (tailB k).length ≤ t.length + 1 := by
  unfold headB tailB
  by_cases h1 : k = 11 ∨ k = 16 ∨ k = 18 ∨ k = 3
  · rw [if_pos h1]; split <;> simp
  · rw [if_neg h1]
    by_cases h2 : k = 12 ∨ k = 13
    · rw [if_pos h2, if_neg (by omega)]; simp
    · rw [if_neg h2]
      by_cases h3 : k = 10 ∧ 0 < i
      · rw [if_pos h3, if_neg (by omega)]; simp
      · rw [if_neg h3]; split <;> simp

theorem plainL_len : ∀ (N : Nat) (l : List Node) (i : Nat), SizeOf.sizeOf l ≤ N → (plainL i l).length ≤ weight l
  | 0, l, _, h => by cases l <;> simp at h
  | N + 1, [], i, _ => by rw [plainL_nil]; simp
  | N + 1, n :: r, i, h => by
    rw [plainL_cons, weight_cons, List.length_append]
    have h1 := n.kids_lt
    simp only [List.cons.sizeOf_spec] at h
    have a := plainL_len N n.kids 0 (by omega)
    have b := plainL_len N r (i + 1) (by omega)
    have c := headTail_le i n.kind n.text.data.toList
    have e : n.text.data.toList.length = n.text.size := size_toList _
    simp only [plainN, List.length_append]
    omega
theorem plain_len (l : List Node) (i : Nat) : (plainL i l).length ≤ weight l := plainL_len _ l i (Nat.le_refl _)

theorem weight_take {l : List Node} {k : Nat} {n : Node} (h : l[k]? = some n) : weight (l.take k) + (n.text.size + n.dest.size + n.title.size + weight n.kids + 1) ≤ weight l := by
  obtain ⟨hk, rfl⟩ := List.getElem?_eq_some_iff.1 h
  have h1 : l = l.take k ++ l[k] :: l.drop (k + 1) := by rw [← List.drop_eq_getElem_cons hk, List.take_append_drop]
  have h2 : ∀ a b : List Node, weight (a ++ b) = weight a + weight b := by
    intro a b
    rw [weight_sum, weight_sum, weight_sum, sumBy_append]
  have h3 := congrArg weight h1
  rw [h2, weight_cons] at h3
  omega

/-- what is no row of bytes stays -/
def KeepsT (w w' : World) : Prop := w.heap.size ≤ w'.heap.size ∧ ∀ (b : Nat) (cs : Array Value) (t : TypeId) (fz : Nat × Nat), w.heap[b]? = some (.cells cs t fz) → t ≠ 5 → w'.heap[b]? = some (.cells cs t fz)
theorem KeepsT.refl (w : World) : KeepsT w w := ⟨Nat.le_refl _, fun _ _ _ _ h _ => h⟩
theorem KeepsT.trans {a b c : World} (h : KeepsT a b) (k : KeepsT b c) : KeepsT a c := ⟨Nat.le_trans h.1 k.1, fun x cs t fz hx ht => k.2 x cs t fz (h.2 x cs t fz hx ht) ht⟩
theorem KeepsT.alloc (w : World) (o : Obj) : KeepsT w (w.alloc o) := ⟨by simp, fun b cs t fz h _ => by
  rw [Below.heap_alloc w o b (Array.getElem?_eq_some_iff.1 h).1]; exact h⟩
theorem KeepsT.grown {w w' : World} {B : Nat} {v : Value} {n : Nat} {xs : List Value} (h : w.ownsRow B 5 1 v n xs) (hg : w.grownBy w' v.ownBlock) : KeepsT w w' := by
  refine ⟨hg.size, fun b cs t fz hb ht => ?_⟩
  rw [hg.block b (Array.getElem?_eq_some_iff.1 hb).1 ?_]
  · exact hb
  · intro e
    rcases h.2 with ⟨rfl, _⟩ | ⟨g, cap, cur, rfl, _, hgg, _⟩
    · simp [Value.ownBlock] at e
    · simp only [Value.ownBlock, Option.some.injEq] at e
      subst e
      rw [hgg] at hb
      cases hb
      exact ht rfl

/-- m bytes in a row of the call's own -/
abbrev OwnM (B : Nat) (w : World) (v : Value) (m : Nat) (bs : List UInt8) : Prop := w.ownsRow B 5 1 v m (byteCells bs)

theorem ownM_len {B : Nat} {w : World} {v : Value} {m : Nat} {bs : List UInt8} (h : OwnM B w v m bs) : bs.length = m := by
  have := h.1
  simpa [byteCells] using this
theorem ownM_more {B : Nat} {w : World} {v : Value} {m : Nat} {bs cs : List UInt8} {xs : List Value} (h : w.ownsRow B 5 1 v m (byteCells bs ++ xs)) (hx : xs = byteCells cs) : OwnM B w v m (bs ++ cs) := by
  subst hx
  have : byteCells (bs ++ cs) = byteCells bs ++ byteCells cs := by simp [byteCells]
  unfold OwnM
  rw [this]
  exact h

theorem box_cells {w w1 : World} {b : Nat} {k lv t d ti kv : Value} {fz : Nat × Nat} (h : w.heap[b]? = some (.cells #[k, lv, t, d, ti, kv] 28 fz)) (hk : KeepsT w w1) : w1.cell? ⟨b, 0, none⟩ = some k ∧ w1.cell? ⟨b, 5, none⟩ = some kv := by
  have h1 := hk.2 _ _ _ _ h (by decide)
  exact ⟨cell_of_row w1 b 0 _ _ fz h1, cell_of_row w1 b 5 _ _ fz h1⟩

/-- more bytes in a row of the call's own -/
def More (w0 : World) (bs : List UInt8) (w : World) (e : Ending) (w' : World) : Prop := ∃ A m c, e = .returned (.slice A m c) ∧ OwnM w0.heap.size w' (.slice A m c) m bs ∧ Below w0.heap.size w0 w' ∧ KeepsT w w'

theorem node_ne : (28 : TypeId) ≠ 5 := by decide


end Go.Proofs.YtphmhhonbkcajaaDoor
