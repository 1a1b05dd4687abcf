/-
  Facts with their names ([]api.Named) as they lie in memory, and how an argument is opened into them.
-/
import Derived.Test.YtnoiipngingdoaaDoorVals
namespace Go.Proofs.YtnoiipngingdoaaDoor
open Go.RowKit Go.ChangeShapes Go.WideShapes Go.Deep

/-- a list of facts -/
def NamedsAt (w : World) (v : Value) (l : List (ByteArray × Val)) : Prop :=
  ∃ (A : Option Addr) (c b o : Nat) (iv kv : Nat → Value), v = .slice A l.length c ∧ l.length ≤ c ∧ c ≤ maxLen ∧ (l ≠ [] → A = some ⟨b, o, none⟩) ∧
    ∀ i x, l[i]? = some x → w.cell? ⟨b, o + i * 7, none⟩ = some (.string x.1) ∧ ValCells w b (o + i * 7 + 1) x.2 (iv i) (kv i) ∧ ValIn w AnyB (valAgg x.2 (iv i) (kv i)) x.2

theorem ValCells.keep {w w' : World} {b o : Nat} {n : Val} {iv kv : Value} (h : ValCells w b o n iv kv) (k : Keeps w w') : ValCells w' b o n iv kv :=
  ⟨k _ _ h.c0, k _ _ h.c1, k _ _ h.c2, k _ _ h.c3, k _ _ h.c4, k _ _ h.c5⟩
theorem ValIn.keeps {w w' : World} {v : Value} {n : Val} (h : ValIn w AnyB v n) (k : Keeps w w') : ValIn w' AnyB v n := h.keep (KeepsIn.of_keeps k) (fun _ _ _ => trivial)
theorem NamedsAt.keep {w w' : World} {v : Value} {l : List (ByteArray × Val)} (h : NamedsAt w v l) (k : Keeps w w') : NamedsAt w' v l := by
  obtain ⟨A, c, b, o, iv, kv, h1, h2, h3, h4, h5⟩ := h
  exact ⟨A, c, b, o, iv, kv, h1, h2, h3, h4, fun i x hi => ⟨k _ _ (h5 i x hi).1, (h5 i x hi).2.1.keep k, (h5 i x hi).2.2.keeps k⟩⟩

theorem cells_named : Tryd.prog.cellsOf 33 = 7 := by kernel_rfl

section
variable {H : Type} {enc : TypeId × Value → H} {w : World} {base : Nat} {spare : Nat → Bool} {held : Bool}

set_option maxRecDepth 100000 in
theorem open_named (fuel : Nat) (cs : List Value) (x : DataW H × List MemPlace) (h : DataW.trod enc Tryd.prog w base spare held fuel 22 cs = some x) :
    ∃ (v : Value) (l : List (ByteArray × Val)), cs = [v] ∧ NamedsAt w v l ∧ sumBy (fun x => x.1.size + 1 + valW x.2) l + 1 ≤ Rows.uptoBulk x.1 := by
  obtain ⟨A, len, cap, m, b, o, hm, rfl, hlc, hc, hA, hD, hel⟩ := open_cells Tryd.underlying22 cells_named (by omega) h
  have key : ∀ i, i < len → ∃ nk : (ByteArray × Val) × Value × Value, (w.cell? ⟨b, o + i * 7, none⟩ = some (.string nk.1.1) ∧ ValCells w b (o + i * 7 + 1) nk.1.2 nk.2.1 nk.2.2 ∧ ValIn w AnyB (valAgg nk.1.2 nk.2.1 nk.2.2) nk.1.2) ∧
      ∃ d, (elemsOf x.1)[i]? = some d ∧ nk.1.1.size + 1 + valW nk.1.2 ≤ Rows.uptoBulk d := by
    intro i hi
    obtain ⟨cs', y, hl', hat, hdi, hy⟩ := hel i hi
    obtain ⟨xs, n', rfl, hyd, _, hxl, hf⟩ := DataW.trod_struct Tryd.underlying33 hy
    have t0 := hf 0 _ rfl
    have t1 := hf 1 _ rfl
    have hxl2 : xs.length = 2 := hxl
    obtain ⟨x0, x1, rfl⟩ : ∃ a b, xs = [a, b] := by
      match xs, hxl2 with
      | [a, b], _ => exact ⟨a, b, rfl⟩
    have t0 : DataW.trod enc Tryd.prog w base spare held n' 9 ((cs'.drop 0).take 1) = some x0 := t0
    have t1 : DataW.trod enc Tryd.prog w base spare held n' 29 ((cs'.drop 1).take 6) = some x1 := t1
    obtain ⟨s, e0, z0, w0⟩ := DataW.trod_string Tryd.underlying9 t0
    obtain ⟨m', ys, hm', hyl, hyd1, _, hfl⟩ := open_fields Tryd.underlying29 (by kernel_rfl) (by kernel_rfl) t1
    obtain ⟨v0, y0, hv0, hy0, u0⟩ := hfl 0 _ rfl
    obtain ⟨v1, y1, hv1, hy1, u1⟩ := hfl 1 _ rfl
    obtain ⟨v2, y2, hv2, hy2, u2⟩ := hfl 2 _ rfl
    obtain ⟨v3, y3, hv3, hy3, u3⟩ := hfl 3 _ rfl
    obtain ⟨v4, y4, hv4, hy4, u4⟩ := hfl 4 _ rfl
    obtain ⟨v5, y5, hv5, hy5, u5⟩ := hfl 5 _ rfl
    obtain ⟨k, f0, q0, r0⟩ := DataW.trod_int Tryd.underlying3 u0
    obtain ⟨fl, f1, q1⟩ := DataW.trod_bool Tryd.underlying4 u1
    obtain ⟨nu, f2, q2, r2⟩ := DataW.trod_int Tryd.underlying3 u2
    obtain ⟨tx, f3, q3, r3⟩ := DataW.trod_string Tryd.underlying9 u3
    obtain ⟨iv, is, f4, his, hw4⟩ := open_vals _ _ _ u4
    obtain ⟨kv, ks, f5, hks, hw5⟩ := open_strsV _ _ _ u5
    simp only [List.cons.injEq, and_true] at f0 f1 f2 f3 f4 f5
    subst f0 f1 f2 f3 f4 f5
    have hcs0 : cs'[0]? = some (.string s) := by
      have := congrArg (fun l => l[0]?) e0
      simpa using this
    have hsh : ∀ (j : Nat) (v : Value), ((cs'.drop 1).take 6)[j]? = some v → cs'[j + 1]? = some v := by
      intro j v hv
      rw [List.getElem?_take] at hv
      split at hv
      · rw [List.getElem?_drop, Nat.add_comm] at hv; exact hv
      · cases hv
    have at' : ∀ (j : Nat) (v : Value), j < 6 → ((cs'.drop 1).take 6)[j]? = some v → w.cell? ⟨b, o + i * 7 + 1 + j, none⟩ = some v := by
      intro j v hj hv
      rw [show o + i * 7 + 1 + j = o + i * 7 + (j + 1) by omega, hat (j + 1) (by omega)]
      exact hsh j v hv
    refine ⟨((s, .mk k fl nu tx is ks), v4, v5), ⟨?_, ⟨at' 0 _ (by omega) hv0, at' 1 _ (by omega) hv1, at' 2 _ (by omega) hv2, at' 3 _ (by omega) hv3, at' 4 _ (by omega) hv4, at' 5 _ (by omega) hv5⟩,
      ⟨v4, v5, rfl, ⟨I64.of_wf r0, I64.of_wf r2, r3⟩, his, hks⟩⟩, _, hdi, ?_⟩
    · have := hat 0 (by omega)
      rw [Nat.add_zero] at this
      rw [this]; exact hcs0
    · match ys, hyl with
      | [a0, a1, a2, a3, a4, a5], _ =>
        simp only [List.getElem?_cons_zero, List.getElem?_cons_succ, Option.some.injEq] at hy0 hy1 hy2 hy3 hy4 hy5
        subst hy0 hy1 hy2 hy3 hy4 hy5
        have hs3 : tx.data.toList.length = tx.size := by rw [Array.length_toList]; rfl
        have hs0 : s.data.toList.length = s.size := by rw [Array.length_toList]; rfl
        rw [hyd]
        simp only [List.map_cons, List.map_nil, Rows.uptoBulk, Rows.uptoBulkAll, z0, hyd1, q0, q1, q2, q3, valW, Val.text, Val.items, Val.keys, hs3, hs0]
        omega
  obtain ⟨l, hll, hp⟩ := exists_list key
  have hw : sumBy (fun x : ByteArray × Val => x.1.size + 1 + valW x.2) (l.map (·.1)) ≤ Rows.uptoBulkAll (elemsOf x.1) := by
    refine sumBy_le_bulk (by rw [List.length_map, hll, hD]) (fun i a d ha hd => ?_)
    rw [List.getElem?_map, Option.map_eq_some_iff] at ha
    obtain ⟨nk, h1, rfl⟩ := ha
    obtain ⟨_, d', h2, h3⟩ := hp i nk h1
    rw [h2] at hd
    injection hd with hd
    subst hd
    exact h3
  have hb := bulk_elems x.1
  have hlen : (l.map (·.1)).length = len := by rw [List.length_map, hll]
  refine ⟨_, l.map (·.1), rfl, ⟨A, cap, b, o, (fun i => (l[i]?.map (·.2.1)).getD (.slice none 0 0)), (fun i => (l[i]?.map (·.2.2)).getD (.slice none 0 0)), by rw [hlen], by omega, hc, fun hne => hA ?_, fun i y hi => ?_⟩, by omega⟩
  · rcases Nat.eq_zero_or_pos len with h0 | h0
    · exact absurd (List.eq_nil_of_length_eq_zero (by omega)) hne
    · exact h0
  · rw [List.getElem?_map, Option.map_eq_some_iff] at hi
    obtain ⟨nk, h1, rfl⟩ := hi
    simpa [h1] using (hp i nk h1).1
end

end Go.Proofs.YtnoiipngingdoaaDoor
