/-
  An argument that is an index, opened.
-/
import Derived.Test.YtjcegmbfipjdcaaGreatDoorIdxPlain
namespace Go.Proofs.YtjcegmbfipjdcaaGreatDoor
open Go.RowKit Go.ChangeShapes Go.WideShapes Go.Deep

section
variable {H : Type} {enc : TypeId × Value → H} {w : World} {base : Nat} {spare : Nat → Bool} {held : Bool}

theorem open_ints2 (fuel : Nat) (cs : List Value) (x : DataW H × List MemPlace) (h : DataW.trod enc Tryz.prog w base spare held fuel 30 cs = some x) :
    ∃ (v : Value) (l : List Int), cs = [v] ∧ IntsAt w v l ∧ l.length + 1 ≤ Rows.uptoBulk x.1 := by
  obtain ⟨A, len, cap, m, b, o, hm, rfl, hlc, hc, hA, hD, hel⟩ := open_cells Tryz.underlying30 (K := 1) (by kernel_rfl) (by omega) h
  have key : ∀ i, i < len → ∃ n : Int, w.cell? ⟨b, o + i, none⟩ = some (.int .i64 n) ∧ I64 n := by
    intro i hi
    obtain ⟨cs', y, hl', hat, hdi, hy⟩ := hel i hi
    obtain ⟨n, e0, _, w0⟩ := DataW.trod_int Tryz.underlying3 hy
    refine ⟨n, ?_, I64.of_wf w0⟩
    have := hat 0 (by omega)
    rw [Nat.mul_one, Nat.add_zero] at this
    rw [this, e0]; rfl
  obtain ⟨l, hll, hp⟩ := exists_list key
  have hb := bulk_elems x.1
  have hb2 := bulk_len (elemsOf x.1)
  refine ⟨_, l, rfl, ⟨A, cap, b, o, by rw [hll], by omega, hc, fun hne => hA ?_, hp⟩, by omega⟩
  rcases Nat.eq_zero_or_pos len with h0 | h0
  · exact absurd (List.eq_nil_of_length_eq_zero (by omega)) hne
  · exact h0

theorem open_docs (fuel : Nat) (cs : List Value) (x : DataW H × List MemPlace) (h : DataW.trod enc Tryz.prog w base spare held fuel 29 cs = some x) :
    ∃ (v : Value) (l : List DocR), cs = [v] ∧ DocsAt w v l ∧ docsW l + 1 ≤ Rows.uptoBulk x.1 := by
  obtain ⟨A, len, cap, m, b, o, hm, rfl, hlc, hc, hA, hD, hel⟩ := open_cells Tryz.underlying29 (K := 3) (by kernel_rfl) (by omega) h
  have key : ∀ i, i < len → ∃ n : DocR, DocCells w b (o + i * 3) n ∧ ∃ d, (elemsOf x.1)[i]? = some d ∧ n.addr.size + n.title.size + 1 ≤ Rows.uptoBulk d := by
    intro i hi
    obtain ⟨cs', y, hl', hat, hdi, hy⟩ := hel i hi
    obtain ⟨m', ys, hm', hyl, hyd, _, hf⟩ := open_fields Tryz.underlying73 (by kernel_rfl) (by kernel_rfl) hy
    obtain ⟨v0, y0, hv0, hy0, t0⟩ := hf 0 _ rfl
    obtain ⟨v1, y1, hv1, hy1, t1⟩ := hf 1 _ rfl
    obtain ⟨v2, y2, hv2, hy2, t2⟩ := hf 2 _ rfl
    obtain ⟨s0, e0, z0, _⟩ := DataW.trod_string Tryz.underlying9 t0
    obtain ⟨s1, e1, z1, _⟩ := DataW.trod_string Tryz.underlying9 t1
    obtain ⟨s2, e2, z2, _⟩ := DataW.trod_string Tryz.underlying9 t2
    simp only [List.cons.injEq, and_true] at e0 e1 e2
    subst e0 e1 e2
    refine ⟨⟨s0, s1, s2⟩, ⟨(hat 0 (by omega)).trans hv0, (hat 1 (by omega)).trans hv1, (hat 2 (by omega)).trans hv2⟩, _, hdi, ?_⟩
    match ys, hyl with
    | [a0, a1, a2], _ =>
      simp only [List.getElem?_cons_zero, List.getElem?_cons_succ, Option.some.injEq] at hy0 hy1 hy2
      subst hy0 hy1 hy2
      have hs0 : s0.data.toList.length = s0.size := by rw [Array.length_toList]; rfl
      have hs1 : s1.data.toList.length = s1.size := by rw [Array.length_toList]; rfl
      rw [hyd]
      simp only [List.map_cons, List.map_nil, Rows.uptoBulk, Rows.uptoBulkAll, z0, z1, z2, hs0, hs1]
      omega
  obtain ⟨l, hll, hp⟩ := exists_list key
  have hw : docsW l ≤ Rows.uptoBulkAll (elemsOf x.1) := by
    refine sumBy_le_bulk (by rw [hll, hD]) (fun i a d ha hd => ?_)
    obtain ⟨_, d', h2, h3⟩ := hp i a ha
    rw [h2] at hd
    injection hd with hd
    subst hd
    exact h3
  have hb := bulk_elems x.1
  refine ⟨_, l, rfl, ⟨A, cap, b, o, by rw [hll], by omega, hc, fun hne => hA ?_, fun i n hn => (hp i n hn).1⟩, by omega⟩
  rcases Nat.eq_zero_or_pos len with h0 | h0
  · exact absurd (List.eq_nil_of_length_eq_zero (by omega)) hne
  · exact h0

theorem open_terms (fuel : Nat) (cs : List Value) (x : DataW H × List MemPlace) (h : DataW.trod enc Tryz.prog w base spare held fuel 31 cs = some x) :
    ∃ (v : Value) (l : List TermR), cs = [v] ∧ TermsAt w v l ∧ termsW l + 1 ≤ Rows.uptoBulk x.1 := by
  obtain ⟨A, len, cap, m, b, o, hm, rfl, hlc, hc, hA, hD, hel⟩ := open_cells Tryz.underlying31 (K := 3) (by kernel_rfl) (by omega) h
  have key : ∀ i, i < len → ∃ nk : TermR × Value × Value, TermCells w b (o + i * 3) nk.1 nk.2.1 nk.2.2 ∧ ∃ d, (elemsOf x.1)[i]? = some d ∧ nk.1.word.size + nk.1.docs.length + 1 ≤ Rows.uptoBulk d := by
    intro i hi
    obtain ⟨cs', y, hl', hat, hdi, hy⟩ := hel i hi
    obtain ⟨m', ys, hm', hyl, hyd, _, hf⟩ := open_fields Tryz.underlying71 (by kernel_rfl) (by kernel_rfl) hy
    obtain ⟨v0, y0, hv0, hy0, t0⟩ := hf 0 _ rfl
    obtain ⟨v1, y1, hv1, hy1, t1⟩ := hf 1 _ rfl
    obtain ⟨v2, y2, hv2, hy2, t2⟩ := hf 2 _ rfl
    obtain ⟨s0, e0, z0, _⟩ := DataW.trod_string Tryz.underlying9 t0
    obtain ⟨dv, ds, e1, hd1, hb1⟩ := open_ints2 _ _ _ t1
    obtain ⟨mv, ms, e2, hd2, hb2⟩ := open_ints2 _ _ _ t2
    simp only [List.cons.injEq, and_true] at e0 e1 e2
    subst e0 e1 e2
    refine ⟨(⟨s0, ds, ms⟩, v1, v2), ⟨(hat 0 (by omega)).trans hv0, (hat 1 (by omega)).trans hv1, (hat 2 (by omega)).trans hv2, hd1, hd2⟩, _, hdi, ?_⟩
    match ys, hyl with
    | [a0, a1, a2], _ =>
      simp only [List.getElem?_cons_zero, List.getElem?_cons_succ, Option.some.injEq] at hy0 hy1 hy2
      subst hy0 hy1 hy2
      have hs0 : s0.data.toList.length = s0.size := by rw [Array.length_toList]; rfl
      rw [hyd]
      simp only [List.map_cons, List.map_nil, Rows.uptoBulk, Rows.uptoBulkAll, z0, hs0]
      omega
  obtain ⟨l, hll, hp⟩ := exists_list key
  have hw : termsW (l.map (·.1)) ≤ Rows.uptoBulkAll (elemsOf x.1) := by
    refine sumBy_le_bulk (by rw [List.length_map, hll, hD]) (fun i a d ha hd => ?_)
    rw [List.getElem?_map, Option.map_eq_some_iff] at ha
    obtain ⟨nk, h1, rfl⟩ := ha
    obtain ⟨_, d', h2, h3⟩ := hp i nk h1
    rw [h2] at hd
    injection hd with hd
    subst hd
    exact h3
  have hb := bulk_elems x.1
  have hlen : (l.map (·.1)).length = len := by rw [List.length_map, hll]
  refine ⟨_, l.map (·.1), rfl, ⟨A, cap, b, o, (fun i => (l[i]?.map (·.2.1)).getD (.slice none 0 0)), (fun i => (l[i]?.map (·.2.2)).getD (.slice none 0 0)), by rw [hlen], by omega, hc, fun hne => hA ?_, fun i y hi => ?_⟩, by omega⟩
  · rcases Nat.eq_zero_or_pos len with h0 | h0
    · exact absurd (List.eq_nil_of_length_eq_zero (by omega)) hne
    · exact h0
  · rw [List.getElem?_map, Option.map_eq_some_iff] at hi
    obtain ⟨nk, h1, rfl⟩ := hi
    simpa [h1] using (hp i nk h1).1

set_option maxRecDepth 100000 in
/-- an argument that is an index -/
theorem open_index {r : Reach} {b0 : Nat} {v : Value} {d : DataW H} {ps : List MemPlace} (hv : Value.okWide Tryz.prog w r b0 33 v) (h : DataW.Trod enc Tryz.prog w base spare held 33 v d ps) :
    ∃ (dv sv tv : Value) (D : List DocR) (S : List Int) (T : List TermR), v = .agg #[dv, sv, tv] ∧ IdxAt w dv sv tv D S T ∧ docsW D + termsW T ≤ Rows.uptoBulk d := by
  obtain ⟨cs, rfl, hsz⟩ := okWide_struct Tryz.underlying33 hv
  obtain ⟨fuel, hf⟩ := h
  obtain ⟨m', ys, hm', hyl, hyd, hcl, hfl⟩ := open_fields Tryz.underlying33 (by kernel_rfl) (by kernel_rfl) hf
  obtain ⟨v0, y0, hv0, hy0, t0⟩ := hfl 0 _ rfl
  obtain ⟨v1, y1, hv1, hy1, t1⟩ := hfl 1 _ rfl
  obtain ⟨v2, y2, hv2, hy2, t2⟩ := hfl 2 _ rfl
  obtain ⟨dv, D, e0, hD, w0⟩ := open_docs _ _ _ t0
  obtain ⟨sv, S, e1, hS, w1⟩ := open_ints2 _ _ _ t1
  obtain ⟨tv, T, e2, hT, w2⟩ := open_terms _ _ _ t2
  simp only [List.cons.injEq, and_true] at e0 e1 e2
  subst e0 e1 e2
  refine ⟨v0, v1, v2, D, S, T, ?_, ⟨hD, hS, hT⟩, ?_⟩
  · obtain ⟨cl⟩ := cs
    simp only [Value.cells] at hv0 hv1 hv2 hcl
    match cl, hcl with
    | [a0, a1, a2], _ =>
      simp only [List.getElem?_cons_zero, List.getElem?_cons_succ, Option.some.injEq] at hv0 hv1 hv2
      subst hv0 hv1 hv2
      rfl
  · match ys, hyl with
    | [a0, a1, a2], _ =>
      simp only [List.getElem?_cons_zero, List.getElem?_cons_succ, Option.some.injEq] at hy0 hy1 hy2
      subst hy0 hy1 hy2
      have hyd : d = _ := hyd
      rw [hyd]
      simp only [List.map_cons, List.map_nil, Rows.uptoBulk, Rows.uptoBulkAll]
      omega
end

end Go.Proofs.YtjcegmbfipjdcaaGreatDoor
