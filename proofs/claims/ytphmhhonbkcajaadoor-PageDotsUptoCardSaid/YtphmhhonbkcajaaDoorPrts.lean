/-
  Parts of a body and sets of templates as they lie in memory, and how an argument is opened into them.
-/
import Derived.Test.YtphmhhonbkcajaaDoorNamesPlain
namespace Go.Proofs.YtphmhhonbkcajaaDoor
open Go.RowKit Go.ChangeShapes Go.WideShapes Go.Deep

/-- one part's cells at an address; av, iv: its Args, its Inner -/
structure PrtCells (w : World) (b o : Nat) (p : Prt) (tx : ByteArray) (av : Value) (en : Bool) (iv : Value) : Prop where
  c0 : w.cell? ⟨b, o, none⟩ = some (.string tx)
  c1 : w.cell? ⟨b, o + 1, none⟩ = some (.string ⟨p.name.toArray⟩)
  c2 : w.cell? ⟨b, o + 2, none⟩ = some av
  c3 : w.cell? ⟨b, o + 3, none⟩ = some (.bool en)
  c4 : w.cell? ⟨b, o + 4, none⟩ = some iv
  sl : ∃ A n c, av = .slice A n c
  s1 : p.name.length ≤ maxLen
theorem PrtCells.keep {w w' : World} {b o : Nat} {p : Prt} {tx : ByteArray} {av : Value} {en : Bool} {iv : Value} (h : PrtCells w b o p tx av en iv) (k : Keeps w w') : PrtCells w' b o p tx av en iv :=
  ⟨k _ _ h.c0, k _ _ h.c1, k _ _ h.c2, k _ _ h.c3, k _ _ h.c4, h.sl, h.s1⟩

/-- a slice of parts -/
inductive PrtsAt (w : World) : Value → List Prt → Prop
  | mk (A : Option Addr) (c : Nat) (l : List Prt) (b o : Nat) (tx : Nat → ByteArray) (av : Nat → Value) (en : Nat → Bool) (iv : Nat → Value) (hlc : l.length ≤ c) (hc : c ≤ maxLen)
      (hA : l ≠ [] → A = some ⟨b, o, none⟩) (hcell : ∀ i p, l[i]? = some p → PrtCells w b (o + i * 5) p (tx i) (av i) (en i) (iv i))
      (hkids : ∀ i p, l[i]? = some p → PrtsAt w (iv i) p.kids) : PrtsAt w (.slice A l.length c) l
theorem PrtsAt.keep {w w' : World} {v : Value} {l : List Prt} (h : PrtsAt w v l) (k : Keeps w w') : PrtsAt w' v l := by
  induction h with
  | mk A c l b o tx av en iv hlc hc hA hcell hkids ih => exact .mk A c l b o tx av en iv hlc hc hA (fun i n hi => (hcell i n hi).keep k) ih
theorem PrtsAt.inv {w : World} {v : Value} {l : List Prt} (h : PrtsAt w v l) :
    ∃ (A : Option Addr) (c b o : Nat) (tx : Nat → ByteArray) (av : Nat → Value) (en : Nat → Bool) (iv : Nat → Value), v = .slice A l.length c ∧ l.length ≤ c ∧ c ≤ maxLen ∧ (l ≠ [] → A = some ⟨b, o, none⟩) ∧
      (∀ i p, l[i]? = some p → PrtCells w b (o + i * 5) p (tx i) (av i) (en i) (iv i)) ∧ (∀ i p, l[i]? = some p → PrtsAt w (iv i) p.kids) := by
  cases h with
  | mk A c _ b o tx av en iv hlc hc hA hcell hkids => exact ⟨A, c, b, o, tx, av, en, iv, rfl, hlc, hc, hA, hcell, hkids⟩

/-- how much the parts hold -/
def weightP : List Prt → Nat
  | [] => 0
  | .mk n ks :: r => n.length + weightP ks + 1 + weightP r
theorem weightP_cons (p : Prt) (r : List Prt) : weightP (p :: r) = p.name.length + weightP p.kids + 1 + weightP r := by cases p; rw [weightP]; rfl
theorem weightP_sum (l : List Prt) : weightP l = sumBy (fun p => p.name.length + weightP p.kids + 1) l := by
  induction l with
  | nil => rw [weightP, sumBy]
  | cons p r ih => rw [weightP_cons, ih]; rfl
theorem totalP_weightN : ∀ (N : Nat) (l : List Prt), SizeOf.sizeOf l ≤ N → totalP l ≤ weightP l
  | 0, l, h => by cases l <;> simp at h
  | N + 1, [], _ => by rw [totalP_nil]; omega
  | N + 1, n :: r, h => by
    rw [totalP_cons, weightP_cons]
    have h1 := n.kids_lt
    simp only [List.cons.sizeOf_spec] at h
    have a := totalP_weightN N n.kids (by omega)
    have b := totalP_weightN N r (by omega)
    omega
theorem totalP_weight (l : List Prt) : totalP l ≤ weightP l := totalP_weightN _ l (Nat.le_refl _)
theorem names_sizeN : ∀ (N : Nat) (l : List Prt), SizeOf.sizeOf l ≤ N → ∀ x ∈ namesT l, x.length ≤ weightP l
  | 0, l, h => by cases l <;> simp at h
  | N + 1, [], _ => by rw [namesT_nil]; simp
  | N + 1, n :: r, h => by
    intro x hx
    rw [namesT_cons, List.mem_append] at hx
    rw [weightP_cons]
    have h1 := n.kids_lt
    simp only [List.cons.sizeOf_spec] at h
    rcases hx with hx | hx
    · unfold namesP at hx
      rw [List.mem_append] at hx
      rcases hx with hx | hx
      · unfold oneN at hx
        split at hx
        · cases hx
        · simp only [List.mem_singleton] at hx
          subst hx
          omega
      · have := names_sizeN N n.kids (by omega) x hx
        omega
    · have := names_sizeN N r (by omega) x hx
      omega
theorem namesC_size {l : List Prt} {x : Str} (h : x ∈ namesC l) : x.length ≤ weightP l := names_sizeN _ l (Nat.le_refl _) x (((canon_spec _).2 x).1 h)

/-- a set of templates: names and texts -/
def SrcsAt (w : World) (v : Value) (l : List (ByteArray × ByteArray)) : Prop :=
  ∃ (A : Option Addr) (c b o : Nat), v = .slice A l.length c ∧ l.length ≤ c ∧ c ≤ maxLen ∧ (l ≠ [] → A = some ⟨b, o, none⟩) ∧
    ∀ i x, l[i]? = some x → w.cell? ⟨b, o + i * 2, none⟩ = some (.string x.1) ∧ w.cell? ⟨b, o + i * 2 + 1, none⟩ = some (.string x.2)
theorem SrcsAt.keep {w w' : World} {v : Value} {l : List (ByteArray × ByteArray)} (h : SrcsAt w v l) (k : Keeps w w') : SrcsAt w' v l := by
  obtain ⟨A, c, b, o, h1, h2, h3, h4, h5⟩ := h
  exact ⟨A, c, b, o, h1, h2, h3, h4, fun i x hi => ⟨k _ _ (h5 i x hi).1, k _ _ (h5 i x hi).2⟩⟩

theorem cells_part : Tryd.prog.cellsOf 25 = 5 := by kernel_rfl
theorem cells_argP : Tryd.prog.cellsOf 44 = 2 := by kernel_rfl
section
variable {H : Type} {enc : TypeId × Value → H} {w : World} {base : Nat} {spare : Nat → Bool} {held : Bool}

theorem open_prts : ∀ (fuel : Nat) (cs : List Value) (x : DataW H × List MemPlace), DataW.trod enc Tryd.prog w base spare held fuel 23 cs = some x →
    ∃ (v : Value) (l : List Prt), cs = [v] ∧ PrtsAt w v l ∧ weightP l + 1 ≤ Rows.uptoBulk x.1 := by
  intro fuel
  induction fuel using Nat.strongRecOn with
  | _ fuel ih =>
    intro cs x h
    obtain ⟨A, len, cap, m, b, o, hm, rfl, hlc, hc, hA, hD, hel⟩ := open_cells Tryd.underlying23 cells_part (by omega) h
    have key : ∀ i, i < len → ∃ nk : Prt × ByteArray × Value × Bool × Value, PrtCells w b (o + i * 5) nk.1 nk.2.1 nk.2.2.1 nk.2.2.2.1 nk.2.2.2.2 ∧ PrtsAt w nk.2.2.2.2 nk.1.kids ∧
        ∃ d, (elemsOf x.1)[i]? = some d ∧ nk.1.name.length + weightP nk.1.kids + 1 ≤ Rows.uptoBulk d := by
      intro i hi
      obtain ⟨cs', y, hl', hat, hdi, hy⟩ := hel i hi
      obtain ⟨m', ys, hm', hyl, hyd, _, hf⟩ := open_fields Tryd.underlying25 (by kernel_rfl) (by kernel_rfl) hy
      obtain ⟨v0, y0, hv0, hy0, t0⟩ := hf 0 _ rfl
      obtain ⟨v1, y1, hv1, hy1, t1⟩ := hf 1 _ rfl
      obtain ⟨v2, y2, hv2, hy2, t2⟩ := hf 2 _ rfl
      obtain ⟨v3, y3, hv3, hy3, t3⟩ := hf 3 _ rfl
      obtain ⟨v4, y4, hv4, hy4, t4⟩ := hf 4 _ rfl
      obtain ⟨tx, e0, z0, w0⟩ := DataW.trod_string Tryd.underlying9 t0
      obtain ⟨nm, e1, z1, w1⟩ := DataW.trod_string Tryd.underlying9 t1
      obtain ⟨Aa, na, ca, _, _, _, _, e2, _, _, _, _, _⟩ := open_cells Tryd.underlying22 cells_argP (by omega) t2
      obtain ⟨en, e3, z3⟩ := DataW.trod_bool Tryd.underlying4 t3
      obtain ⟨iv, is, e4, his, hw4⟩ := ih m' (by omega) _ _ t4
      simp only [List.cons.injEq, and_true] at e0 e1 e2 e3 e4
      subst e0 e1 e2 e3 e4
      have hs1 : nm.data.toList.length = nm.size := by rw [Array.length_toList]; rfl
      refine ⟨(.mk nm.data.toList is, tx, .slice Aa na ca, en, v4), ⟨(hat 0 (by omega)).trans hv0, ((hat 1 (by omega)).trans hv1).trans (by simp [Prt.name]), (hat 2 (by omega)).trans hv2, (hat 3 (by omega)).trans hv3, (hat 4 (by omega)).trans hv4,
        ⟨_, _, _, rfl⟩, by show nm.data.toList.length ≤ _; rw [hs1]; exact w1⟩, his, _, hdi, ?_⟩
      match ys, hyl with
      | [a0, a1, a2, a3, a4], _ =>
        simp only [List.getElem?_cons_zero, List.getElem?_cons_succ, Option.some.injEq] at hy0 hy1 hy2 hy3 hy4
        subst hy0 hy1 hy2 hy3 hy4
        rw [hyd]
        simp only [List.map_cons, List.map_nil, Rows.uptoBulk, Rows.uptoBulkAll, z0, z1, z3, Prt.name, Prt.kids]
        omega
    obtain ⟨l, hll, hp⟩ := exists_list key
    have hw : weightP (l.map (·.1)) ≤ Rows.uptoBulkAll (elemsOf x.1) := by
      rw [weightP_sum]
      refine sumBy_le_bulk (by rw [List.length_map, hll, hD]) (fun i a d ha hd => ?_)
      rw [List.getElem?_map, Option.map_eq_some_iff] at ha
      obtain ⟨nk, h1, rfl⟩ := ha
      obtain ⟨_, _, d', h2, h3⟩ := hp i nk h1
      rw [h2] at hd
      injection hd with hd
      subst hd
      exact h3
    have hb := bulk_elems x.1
    have hlen : (l.map (·.1)).length = len := by rw [List.length_map, hll]
    refine ⟨_, l.map (·.1), rfl, ?_, by omega⟩
    have := PrtsAt.mk (w := w) A cap (l.map (·.1)) b o (fun i => (l[i]?.map (·.2.1)).getD ⟨#[]⟩) (fun i => (l[i]?.map (·.2.2.1)).getD (.slice none 0 0)) (fun i => (l[i]?.map (·.2.2.2.1)).getD false) (fun i => (l[i]?.map (·.2.2.2.2)).getD (.slice none 0 0)) (by omega) hc (fun hne => hA (by
      rcases Nat.eq_zero_or_pos len with h0 | h0
      · exact absurd (List.eq_nil_of_length_eq_zero (by omega)) hne
      · exact h0)) (fun i n hi => ?_) (fun i n hi => ?_)
    · rw [hlen] at this; exact this
    · rw [List.getElem?_map, Option.map_eq_some_iff] at hi
      obtain ⟨nk, h1, rfl⟩ := hi
      simpa [h1] using (hp i nk h1).1
    · rw [List.getElem?_map, Option.map_eq_some_iff] at hi
      obtain ⟨nk, h1, rfl⟩ := hi
      simpa [h1] using (hp i nk h1).2.1

end

end Go.Proofs.YtphmhhonbkcajaaDoor
