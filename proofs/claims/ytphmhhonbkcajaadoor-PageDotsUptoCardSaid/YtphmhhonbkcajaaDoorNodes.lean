/-
  Documents (lists of nodes) as they lie in memory, and how an argument that is read as data is opened into them.
-/
import Derived.Test.YtphmhhonbkcajaaDoorBase
import Derived.Test.YtphmhhonbkcajaaDoorRows
import Derived.ProofKit
import Derived.Deep.Slices
import Derived.Deep.Fields
import Derived.ChangeSame
namespace Go.Proofs.YtphmhhonbkcajaaDoor
open Go.RowKit Go.ChangeShapes Go.WideShapes Go.Deep

/-- a node of a document -/
inductive Node where
  | mk (kind level : Int) (text dest title : ByteArray) (kids : List Node)
namespace Node
def kind : Node → Int | .mk k _ _ _ _ _ => k
def level : Node → Int | .mk _ k _ _ _ _ => k
def text : Node → ByteArray | .mk _ _ k _ _ _ => k
def dest : Node → ByteArray | .mk _ _ _ k _ _ => k
def title : Node → ByteArray | .mk _ _ _ _ k _ => k
def kids : Node → List Node | .mk _ _ _ _ _ k => k
theorem kids_lt (n : Node) : SizeOf.sizeOf n.kids < SizeOf.sizeOf n := by
  cases n; simp [kids]; omega
end Node

/-- one node's cells at an address; kv: the value of its Kids -/
structure NodeCells (w : World) (b o : Nat) (n : Node) (kv : Value) : Prop where
  c0 : w.cell? ⟨b, o, none⟩ = some (.int .i64 n.kind)
  c1 : w.cell? ⟨b, o + 1, none⟩ = some (.int .i64 n.level)
  c2 : w.cell? ⟨b, o + 2, none⟩ = some (.string n.text)
  c3 : w.cell? ⟨b, o + 3, none⟩ = some (.string n.dest)
  c4 : w.cell? ⟨b, o + 4, none⟩ = some (.string n.title)
  c5 : w.cell? ⟨b, o + 5, none⟩ = some kv
  k0 : I64 n.kind
  k1 : I64 n.level
  s2 : n.text.size ≤ maxLen
  s3 : n.dest.size ≤ maxLen
  s4 : n.title.size ≤ maxLen

theorem NodeCells.keep {w w' : World} {b o : Nat} {n : Node} {kv : Value} (h : NodeCells w b o n kv) (k : Keeps w w') : NodeCells w' b o n kv :=
  ⟨k _ _ h.c0, k _ _ h.c1, k _ _ h.c2, k _ _ h.c3, k _ _ h.c4, k _ _ h.c5, h.k0, h.k1, h.s2, h.s3, h.s4⟩

/-- a slice of nodes -/
inductive NodesAt (w : World) : Value → List Node → Prop
  | mk (A : Option Addr) (c : Nat) (l : List Node) (b o : Nat) (kv : Nat → Value) (hlc : l.length ≤ c) (hc : c ≤ maxLen)
      (hA : l ≠ [] → A = some ⟨b, o, none⟩) (hcell : ∀ i n, l[i]? = some n → NodeCells w b (o + i * 6) n (kv i))
      (hkids : ∀ i n, l[i]? = some n → NodesAt w (kv i) n.kids) : NodesAt w (.slice A l.length c) l

theorem NodesAt.keep {w w' : World} {v : Value} {l : List Node} (h : NodesAt w v l) (k : Keeps w w') : NodesAt w' v l := by
  induction h with
  | mk A c l b o kv hlc hc hA hcell hkids ih =>
    exact .mk A c l b o kv hlc hc hA (fun i n hi => (hcell i n hi).keep k) ih

/-- the value is a slice; each element has its cells and its Kids -/
theorem NodesAt.inv {w : World} {v : Value} {l : List Node} (h : NodesAt w v l) :
    ∃ (A : Option Addr) (c b o : Nat) (kv : Nat → Value), v = .slice A l.length c ∧ l.length ≤ c ∧ c ≤ maxLen ∧ (l ≠ [] → A = some ⟨b, o, none⟩) ∧
      (∀ i n, l[i]? = some n → NodeCells w b (o + i * 6) n (kv i)) ∧ (∀ i n, l[i]? = some n → NodesAt w (kv i) n.kids) := by
  cases h with
  | mk A c _ b o kv hlc hc hA hcell hkids => exact ⟨A, c, b, o, kv, rfl, hlc, hc, hA, hcell, hkids⟩

theorem NodesAt.nil (w : World) : NodesAt w (.slice none 0 0) [] :=
  .mk none 0 [] 0 0 (fun _ => .slice none 0 0) (Nat.le_refl _) (by simp [maxLen]) (fun h => absurd rfl h) (fun i n h => by simp at h) (fun i n h => by simp at h)

/-- how much a document holds -/
def weight : List Node → Nat
  | [] => 0
  | .mk _ _ t d ti ks :: r => t.size + d.size + ti.size + weight ks + 1 + weight r

theorem weight_cons (n : Node) (r : List Node) : weight (n :: r) = n.text.size + n.dest.size + n.title.size + weight n.kids + 1 + weight r := by
  cases n; simp [weight, Node.text, Node.dest, Node.title, Node.kids]

theorem weight_sum (l : List Node) : weight l = sumBy (fun n => n.text.size + n.dest.size + n.title.size + weight n.kids + 1) l := by
  induction l with
  | nil => simp [weight, sumBy]
  | cons n r ih => rw [weight_cons, ih]; rfl

theorem cells_node : Tryd.prog.cellsOf 28 = 6 := by kernel_rfl

section
variable {H : Type} {enc : TypeId × Value → H} {w : World} {base : Nat} {spare : Nat → Bool} {held : Bool}

theorem open_nodes : ∀ (fuel : Nat) (cs : List Value) (x : DataW H × List MemPlace), DataW.trod enc Tryd.prog w base spare held fuel 26 cs = some x →
    ∃ (v : Value) (l : List Node), cs = [v] ∧ NodesAt w v l ∧ weight l + 1 ≤ Rows.uptoBulk x.1 := by
  intro fuel
  induction fuel using Nat.strongRecOn with
  | _ fuel ih =>
    intro cs x h
    obtain ⟨A, len, cap, m, b, o, hm, rfl, hlc, hc, hA, hD, hel⟩ := open_cells Tryd.underlying26 cells_node (by omega) h
    have key : ∀ i, i < len → ∃ nk : Node × Value, NodeCells w b (o + i * 6) nk.1 nk.2 ∧ NodesAt w nk.2 nk.1.kids ∧
        ∃ d, (elemsOf x.1)[i]? = some d ∧ nk.1.text.size + nk.1.dest.size + nk.1.title.size + weight nk.1.kids + 1 ≤ Rows.uptoBulk d := by
      intro i hi
      obtain ⟨cs', y, hl', hat, hdi, hy⟩ := hel i hi
      obtain ⟨m', ys, hm', hyl, hyd, _, hf⟩ := open_fields Tryd.underlying28 (by kernel_rfl) (by kernel_rfl) hy
      obtain ⟨v0, y0, hv0, hy0, t0⟩ := hf 0 _ rfl
      obtain ⟨v1, y1, hv1, hy1, t1⟩ := hf 1 _ rfl
      obtain ⟨v2, y2, hv2, hy2, t2⟩ := hf 2 _ rfl
      obtain ⟨v3, y3, hv3, hy3, t3⟩ := hf 3 _ rfl
      obtain ⟨v4, y4, hv4, hy4, t4⟩ := hf 4 _ rfl
      obtain ⟨v5, y5, hv5, hy5, t5⟩ := hf 5 _ rfl
      obtain ⟨k, e0, z0, w0⟩ := DataW.trod_int Tryd.underlying3 t0
      obtain ⟨lv, e1, z1, w1⟩ := DataW.trod_int Tryd.underlying3 t1
      obtain ⟨tx, e2, z2, w2⟩ := DataW.trod_string Tryd.underlying9 t2
      obtain ⟨ds, e3, z3, w3⟩ := DataW.trod_string Tryd.underlying9 t3
      obtain ⟨ti, e4, z4, w4⟩ := DataW.trod_string Tryd.underlying9 t4
      obtain ⟨kv, ks, e5, hks, hw5⟩ := ih m' (by omega) _ _ t5
      simp only [List.cons.injEq, and_true] at e0 e1 e2 e3 e4 e5
      subst e0 e1 e2 e3 e4 e5
      refine ⟨(.mk k lv tx ds ti ks, v5), ⟨(hat 0 (by omega)).trans hv0, (hat 1 (by omega)).trans hv1, (hat 2 (by omega)).trans hv2, (hat 3 (by omega)).trans hv3, (hat 4 (by omega)).trans hv4, (hat 5 (by omega)).trans hv5,
        I64.of_wf w0, I64.of_wf w1, w2, w3, w4⟩, hks, _, hdi, ?_⟩
      match ys, hyl with
      | [a0, a1, a2, a3, a4, a5], _ =>
        simp only [List.getElem?_cons_zero, List.getElem?_cons_succ, Option.some.injEq] at hy0 hy1 hy2 hy3 hy4 hy5
        subst hy0 hy1 hy2 hy3 hy4 hy5
        have hs2 : tx.data.toList.length = tx.size := by rw [Array.length_toList]; rfl
        have hs3 : ds.data.toList.length = ds.size := by rw [Array.length_toList]; rfl
        have hs4 : ti.data.toList.length = ti.size := by rw [Array.length_toList]; rfl
        rw [hyd]
        simp only [List.map_cons, List.map_nil, Rows.uptoBulk, Rows.uptoBulkAll, z0, z1, z2, z3, z4, Node.text, Node.dest, Node.title, Node.kids, hs2, hs3, hs4]
        omega
    obtain ⟨l, hll, hp⟩ := exists_list key
    have hw : weight (l.map (·.1)) ≤ Rows.uptoBulkAll (elemsOf x.1) := by
      rw [weight_sum]
      refine sumBy_le_bulk (by rw [List.length_map, hll, hD]) (fun i a d ha hd => ?_)
      rw [List.getElem?_map, Option.map_eq_some_iff] at ha
      obtain ⟨nk, h1, rfl⟩ := ha
      obtain ⟨_, _, d', h2, h3⟩ := hp i nk h1
      rw [h2] at hd
      injection hd with hd
      subst hd
      exact h3
    have hb := bulk_elems x.1
    have hlen : (l.map (·.1)).length = len := by rw [List.length_map, hll]
    refine ⟨_, l.map (·.1), rfl, ?_, by omega⟩
    have := NodesAt.mk (w := w) A cap (l.map (·.1)) b o (fun i => (l[i]?.map (·.2)).getD (.slice none 0 0)) (by omega) hc (fun hne => hA (by
      rcases Nat.eq_zero_or_pos len with h0 | h0
      · exact absurd (List.eq_nil_of_length_eq_zero (by omega)) hne
      · exact h0)) (fun i n hi => ?_) (fun i n hi => ?_)
    · rw [hlen] at this; exact this
    · rw [List.getElem?_map, Option.map_eq_some_iff] at hi
      obtain ⟨nk, h1, rfl⟩ := hi
      simpa [h1] using (hp i nk h1).1
    · rw [List.getElem?_map, Option.map_eq_some_iff] at hi
      obtain ⟨nk, h1, rfl⟩ := hi
      simpa [h1] using (hp i nk h1).2.1
end

end Go.Proofs.YtphmhhonbkcajaaDoor
