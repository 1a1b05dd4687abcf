/-
  Lists of entries as they lie in memory, and how an argument is opened into them.
-/
import Derived.Test.YtikijmjcmpkkdaaGreatDoorBase
namespace Go.Proofs.YtikijmjcmpkkdaaGreatDoor
open Go.RowKit Go.ChangeShapes Go.WideShapes Go.Deep

/-- an entry of a list of contents -/
structure Entry where
  level : Int
  id : ByteArray
  text : ByteArray

structure EntryCells (w : World) (b o : Nat) (n : Entry) : Prop where
  c0 : w.cell? ⟨b, o, none⟩ = some (.int .i64 n.level)
  c1 : w.cell? ⟨b, o + 1, none⟩ = some (.string n.id)
  c2 : w.cell? ⟨b, o + 2, none⟩ = some (.string n.text)
  k0 : I64 n.level
  s1 : n.id.size ≤ maxLen
  s2 : n.text.size ≤ maxLen

theorem EntryCells.keep {w w' : World} {b o : Nat} {n : Entry} (h : EntryCells w b o n) (k : Keeps w w') : EntryCells w' b o n :=
  ⟨k _ _ h.c0, k _ _ h.c1, k _ _ h.c2, h.k0, h.s1, h.s2⟩

def EntriesAt (w : World) (v : Value) (l : List Entry) : Prop :=
  ∃ (A : Option Addr) (c b o : Nat), v = .slice A l.length c ∧ l.length ≤ c ∧ c ≤ maxLen ∧ (l ≠ [] → A = some ⟨b, o, none⟩) ∧ ∀ i n, l[i]? = some n → EntryCells w b (o + i * 3) n

theorem EntriesAt.keep {w w' : World} {v : Value} {l : List Entry} (h : EntriesAt w v l) (k : Keeps w w') : EntriesAt w' v l := by
  obtain ⟨A, c, b, o, h1, h2, h3, h4, h5⟩ := h
  exact ⟨A, c, b, o, h1, h2, h3, h4, fun i n hn => (h5 i n hn).keep k⟩

theorem cells_entry : Tryz.prog.cellsOf 43 = 3 := by kernel_rfl

section
variable {H : Type} {enc : TypeId × Value → H} {w : World} {base : Nat} {spare : Nat → Bool} {held : Bool}

theorem open_entries (fuel : Nat) (cs : List Value) (x : DataW H × List MemPlace) (h : DataW.trod enc Tryz.prog w base spare held fuel 30 cs = some x) :
    ∃ (v : Value) (l : List Entry), cs = [v] ∧ EntriesAt w v l := by
  obtain ⟨A, len, cap, m, b, o, hm, rfl, hlc, hc, hA, hD, hel⟩ := open_cells Tryz.underlying30 cells_entry (by omega) h
  have key : ∀ i, i < len → ∃ n : Entry, EntryCells w b (o + i * 3) n := by
    intro i hi
    obtain ⟨cs', y, hl', hat, hdi, hy⟩ := hel i hi
    obtain ⟨m', ys, hm', hyl, hyd, _, hf⟩ := open_fields Tryz.underlying43 (by kernel_rfl) (by kernel_rfl) hy
    obtain ⟨v0, y0, hv0, hy0, t0⟩ := hf 0 _ rfl
    obtain ⟨v1, y1, hv1, hy1, t1⟩ := hf 1 _ rfl
    obtain ⟨v2, y2, hv2, hy2, t2⟩ := hf 2 _ rfl
    obtain ⟨k, e0, z0, w0⟩ := DataW.trod_int Tryz.underlying3 t0
    obtain ⟨tx, e1, z1, w1⟩ := DataW.trod_string Tryz.underlying9 t1
    obtain ⟨ds, e2, z2, w2⟩ := DataW.trod_string Tryz.underlying9 t2
    simp only [List.cons.injEq, and_true] at e0 e1 e2
    subst e0 e1 e2
    exact ⟨⟨k, tx, ds⟩, (hat 0 (by omega)).trans hv0, (hat 1 (by omega)).trans hv1, (hat 2 (by omega)).trans hv2, I64.of_wf w0, w1, w2⟩
  obtain ⟨l, hll, hp⟩ := exists_list key
  refine ⟨_, l, rfl, A, cap, b, o, by rw [hll], by omega, hc, fun hne => hA ?_, hp⟩
  rcases Nat.eq_zero_or_pos len with h0 | h0
  · exact absurd (List.eq_nil_of_length_eq_zero (by omega)) hne
  · exact h0
end

end Go.Proofs.YtikijmjcmpkkdaaGreatDoor
