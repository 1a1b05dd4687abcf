/-
  ShipIndexes is proved, in its second form: for all lists of documents whose reading stays below the given bound, NewIndex makes the index that the reference makes, or has its error.
-/
import Derived.Test.YtmcelgokchhpfaaGreatDoorBase
import Derived.JoinedCond
import Derived.HandedShaped
import Derived.Test.YtmcelgokchhpfaaGreatDoorIdxPlain
import Derived.Test.YtmcelgokchhpfaaGreatDoorNixLen
import Derived.Test.YtmcelgokchhpfaaGreatDoorNixLaw
import Derived.Test.YtmcelgokchhpfaaGreatDoorCards
import Derived.Test.YtmcelgokchhpfaaGreatDoorTie
import Derived.OpenShut
import Derived.Deep.DeepHandedRow
import Derived.Lib.LaidTab
import Derived.Lay
namespace Go.Proofs.YtmcelgokchhpfaaGreatDoor
open Go.RowKit Go.ChangeShapes Go.WideShapes Go.ChangeAt Go.Deep

theorem own : ownKnob Tryz.prog.godebug = none := by kernel_rfl
theorem laidOut : laidOutB Tryz.prog = true := by kernel_rfl

section
variable {H : Type} {enc : TypeId × Value → H}

theorem trodAll_stays {W W' : World} {sp : Nat → Bool} (hb : Below W.heap.size W W') : ∀ {ts : List TypeId} {vs : List Value} {ds : List (DataW H)} {ps : List MemPlace},
    (∀ t, t ∈ ts → Tryz.prog.readableRec t = true ∧ t < Tryz.prog.types.size) → DataW.TrodAll enc Tryz.prog W 0 (fun _ => true) true ts vs ds ps →
    (∀ x ∈ ps, x.block < W.heap.size) → (∀ x ∈ ps, sp x.block = true) → DataW.TrodAll enc Tryz.prog W' 0 sp true ts vs ds ps
  | [], [], [], ps, _, h, _, _ => h
  | [], _ :: _, _, _, _, h, _, _ => by simp [DataW.TrodAll] at h
  | [], [], _ :: _, _, _, h, _, _ => by simp [DataW.TrodAll] at h
  | _ :: _, [], _, _, _, h, _, _ => by simp [DataW.TrodAll] at h
  | _ :: _, _ :: _, [], _, _, h, _, _ => by simp [DataW.TrodAll] at h
  | t :: ts, v :: vs, d :: ds, ps, ht, h, hlt, hsp => by
    obtain ⟨p, q, h1, h2, rfl⟩ := h
    refine ⟨p, q, ?_, ?_, rfl⟩
    · exact WideElems.Trod_stays laidOut (ht t (by simp)).1 (ht t (by simp)).2 h1 (fun x hx => hb.same (hlt x (by simp [hx]))) (fun x hx => hsp x (by simp [hx]))
    · exact trodAll_stays hb (fun t' h' => ht t' (by simp [h'])) h2 (fun x hx => hlt x (by simp [hx])) (fun x hx => hsp x (by simp [hx]))

theorem law_post {f : Func} {s : ChangeSpec} {W W' : World} {args : Array Value} {ds gs : List (DataW H)} {before : List MemPlace} {tb : TypeId}
    (hvars : s.vars = []) (hfn : s.fn H (ds ++ gs) = { results := [.lit (.bool true)], args := ds }) (hrt : f.resultTypes = #[tb]) (htb : Tryz.prog.underlying tb = some .bool)
    (hts : ∀ t, t ∈ f.params.toList → Tryz.prog.readableRec t = true ∧ t < Tryz.prog.types.size)
    (hW : DataW.Whole enc Tryz.prog f.params.toList s.vars false W args.toList ds gs before) (hb : Below W.heap.size W W') :
    s.post enc Tryz.prog f false true false false W args (.bool true) W' := by
  have hlt : ∀ p ∈ before, p.block < W.heap.size := fun p hp => hW.lt p hp
  have hold : ∀ p ∈ before, (fun b => decide (b < W.heap.size)) p.block = true := fun p hp => by simpa using hlt p hp
  have hW' := hW
  obtain ⟨p, q, hA, hV, rfl, hz, _⟩ := hW
  rw [hvars] at hV
  obtain ⟨rfl, rfl⟩ := trodVars_none hV
  simp only [List.append_nil] at *
  refine ⟨ds, [], p, [], p, [], by simpa using hW', ?_, ?_, ?_, World.keptBut_mono (fun x hx => ⟨hx, ?_⟩) (hb.frame (· ∈ p)), fun h => by cases h⟩
  · rw [List.append_nil, hfn, hrt]
    exact trodAll_mk1 (shut_bool htb true)
  · rw [List.append_nil, hfn]
    exact trodAll_stays hb hts hA hlt hold
  · rw [hvars, List.append_nil, hfn]
    exact rfl
  · exact Or.inr (Or.inl hx)

end

end Go.Proofs.YtmcelgokchhpfaaGreatDoor

namespace Go.Proofs.YtmcelgokchhpfaaGreatDoor
open Go.RowKit Go.ChangeShapes Go.WideShapes Go.Deep

section
variable {H : Type} {enc : TypeId × Value → H} {w : World} {base : Nat} {spare : Nat → Bool} {held : Bool}

theorem open_ints2 (fuel : Nat) (cs : List Value) (x : DataW H × List MemPlace) (h : DataW.trod enc Tryz.prog w base spare held fuel 23 cs = some x) :
    ∃ (v : Value) (l : List Int), cs = [v] ∧ IntsAt w v l ∧ l.length + 1 ≤ Rows.uptoBulk x.1 := by
  obtain ⟨A, len, cap, m, b, o, hm, rfl, hlc, hc, hA, hD, hel⟩ := open_cells Tryz.underlying23 (K := 1) (by kernel_rfl) (by omega) h
  have key : ∀ i, i < len → ∃ n : Int, w.cell? ⟨b, o + i, none⟩ = some (.int .i64 n) ∧ I64 n := by
    intro i hi
    obtain ⟨cs', y, hl', hat, hdi, hy⟩ := hel i hi
    obtain ⟨n, e0, _, w0⟩ := DataW.trod_int Tryz.underlying3 hy
    refine ⟨n, ?_, I64.of_wf w0⟩
    have := hat 0 (by omega)
    rw [Nat.mul_one, Nat.add_zero] at this
    rw [this, e0]; rfl
  obtain ⟨l, hll, hp⟩ := exists_list key
  have hb := bulk_elems x.1
  have hb2 := bulk_len (elemsOf x.1)
  refine ⟨_, l, rfl, ⟨A, cap, b, o, by rw [hll], by omega, hc, fun hne => hA ?_, hp⟩, by omega⟩
  rcases Nat.eq_zero_or_pos len with h0 | h0
  · exact absurd (List.eq_nil_of_length_eq_zero (by omega)) hne
  · exact h0

theorem open_docs (fuel : Nat) (cs : List Value) (x : DataW H × List MemPlace) (h : DataW.trod enc Tryz.prog w base spare held fuel 22 cs = some x) :
    ∃ (v : Value) (l : List DocR), cs = [v] ∧ DocsAt w v l ∧ docsW l + 1 ≤ Rows.uptoBulk x.1 := by
  obtain ⟨A, len, cap, m, b, o, hm, rfl, hlc, hc, hA, hD, hel⟩ := open_cells Tryz.underlying22 (K := 3) (by kernel_rfl) (by omega) h
  have key : ∀ i, i < len → ∃ n : DocR, DocCells w b (o + i * 3) n ∧ ∃ d, (elemsOf x.1)[i]? = some d ∧ n.addr.size + n.title.size + 1 ≤ Rows.uptoBulk d := by
    intro i hi
    obtain ⟨cs', y, hl', hat, hdi, hy⟩ := hel i hi
    obtain ⟨m', ys, hm', hyl, hyd, _, hf⟩ := open_fields Tryz.underlying33 (by kernel_rfl) (by kernel_rfl) hy
    obtain ⟨v0, y0, hv0, hy0, t0⟩ := hf 0 _ rfl
    obtain ⟨v1, y1, hv1, hy1, t1⟩ := hf 1 _ rfl
    obtain ⟨v2, y2, hv2, hy2, t2⟩ := hf 2 _ rfl
    obtain ⟨s0, e0, z0, _⟩ := DataW.trod_string Tryz.underlying9 t0
    obtain ⟨s1, e1, z1, _⟩ := DataW.trod_string Tryz.underlying9 t1
    obtain ⟨s2, e2, z2, _⟩ := DataW.trod_string Tryz.underlying9 t2
    simp only [List.cons.injEq, and_true] at e0 e1 e2
    subst e0 e1 e2
    refine ⟨⟨s0, s1, s2⟩, ⟨(hat 0 (by omega)).trans hv0, (hat 1 (by omega)).trans hv1, (hat 2 (by omega)).trans hv2⟩, _, hdi, ?_⟩
    match ys, hyl with
    | [a0, a1, a2], _ =>
      simp only [List.getElem?_cons_zero, List.getElem?_cons_succ, Option.some.injEq] at hy0 hy1 hy2
      subst hy0 hy1 hy2
      have hs0 : s0.data.toList.length = s0.size := by rw [Array.length_toList]; rfl
      have hs1 : s1.data.toList.length = s1.size := by rw [Array.length_toList]; rfl
      rw [hyd]
      simp only [List.map_cons, List.map_nil, Rows.uptoBulk, Rows.uptoBulkAll, z0, z1, z2, hs0, hs1]
      omega
  obtain ⟨l, hll, hp⟩ := exists_list key
  have hw : docsW l ≤ Rows.uptoBulkAll (elemsOf x.1) := by
    refine sumBy_le_bulk (by rw [hll, hD]) (fun i a d ha hd => ?_)
    obtain ⟨_, d', h2, h3⟩ := hp i a ha
    rw [h2] at hd
    injection hd with hd
    subst hd
    exact h3
  have hb := bulk_elems x.1
  refine ⟨_, l, rfl, ⟨A, cap, b, o, by rw [hll], by omega, hc, fun hne => hA ?_, fun i n hn => (hp i n hn).1⟩, by omega⟩
  rcases Nat.eq_zero_or_pos len with h0 | h0
  · exact absurd (List.eq_nil_of_length_eq_zero (by omega)) hne
  · exact h0

theorem open_terms (fuel : Nat) (cs : List Value) (x : DataW H × List MemPlace) (h : DataW.trod enc Tryz.prog w base spare held fuel 24 cs = some x) :
    ∃ (v : Value) (l : List TermR), cs = [v] ∧ TermsAt w v l ∧ termsW l + 1 ≤ Rows.uptoBulk x.1 := by
  obtain ⟨A, len, cap, m, b, o, hm, rfl, hlc, hc, hA, hD, hel⟩ := open_cells Tryz.underlying24 (K := 3) (by kernel_rfl) (by omega) h
  have key : ∀ i, i < len → ∃ nk : TermR × Value × Value, TermCells w b (o + i * 3) nk.1 nk.2.1 nk.2.2 ∧ ∃ d, (elemsOf x.1)[i]? = some d ∧ nk.1.word.size + nk.1.docs.length + 1 ≤ Rows.uptoBulk d := by
    intro i hi
    obtain ⟨cs', y, hl', hat, hdi, hy⟩ := hel i hi
    obtain ⟨m', ys, hm', hyl, hyd, _, hf⟩ := open_fields Tryz.underlying44 (by kernel_rfl) (by kernel_rfl) hy
    obtain ⟨v0, y0, hv0, hy0, t0⟩ := hf 0 _ rfl
    obtain ⟨v1, y1, hv1, hy1, t1⟩ := hf 1 _ rfl
    obtain ⟨v2, y2, hv2, hy2, t2⟩ := hf 2 _ rfl
    obtain ⟨s0, e0, z0, _⟩ := DataW.trod_string Tryz.underlying9 t0
    obtain ⟨dv, ds, e1, hd1, hb1⟩ := open_ints2 _ _ _ t1
    obtain ⟨mv, ms, e2, hd2, hb2⟩ := open_ints2 _ _ _ t2
    simp only [List.cons.injEq, and_true] at e0 e1 e2
    subst e0 e1 e2
    refine ⟨(⟨s0, ds, ms⟩, v1, v2), ⟨(hat 0 (by omega)).trans hv0, (hat 1 (by omega)).trans hv1, (hat 2 (by omega)).trans hv2, hd1, hd2⟩, _, hdi, ?_⟩
    match ys, hyl with
    | [a0, a1, a2], _ =>
      simp only [List.getElem?_cons_zero, List.getElem?_cons_succ, Option.some.injEq] at hy0 hy1 hy2
      subst hy0 hy1 hy2
      have hs0 : s0.data.toList.length = s0.size := by rw [Array.length_toList]; rfl
      rw [hyd]
      simp only [List.map_cons, List.map_nil, Rows.uptoBulk, Rows.uptoBulkAll, z0, hs0]
      omega
  obtain ⟨l, hll, hp⟩ := exists_list key
  have hw : termsW (l.map (·.1)) ≤ Rows.uptoBulkAll (elemsOf x.1) := by
    refine sumBy_le_bulk (by rw [List.length_map, hll, hD]) (fun i a d ha hd => ?_)
    rw [List.getElem?_map, Option.map_eq_some_iff] at ha
    obtain ⟨nk, h1, rfl⟩ := ha
    obtain ⟨_, d', h2, h3⟩ := hp i nk h1
    rw [h2] at hd
    injection hd with hd
    subst hd
    exact h3
  have hb := bulk_elems x.1
  have hlen : (l.map (·.1)).length = len := by rw [List.length_map, hll]
  refine ⟨_, l.map (·.1), rfl, ⟨A, cap, b, o, (fun i => (l[i]?.map (·.2.1)).getD (.slice none 0 0)), (fun i => (l[i]?.map (·.2.2)).getD (.slice none 0 0)), by rw [hlen], by omega, hc, fun hne => hA ?_, fun i y hi => ?_⟩, by omega⟩
  · rcases Nat.eq_zero_or_pos len with h0 | h0
    · exact absurd (List.eq_nil_of_length_eq_zero (by omega)) hne
    · exact h0
  · rw [List.getElem?_map, Option.map_eq_some_iff] at hi
    obtain ⟨nk, h1, rfl⟩ := hi
    simpa [h1] using (hp i nk h1).1

set_option maxRecDepth 100000 in
/-- an argument that is an index -/
theorem open_index {r : Reach} {b0 : Nat} {v : Value} {d : DataW H} {ps : List MemPlace} (hv : Value.okWide Tryz.prog w r b0 26 v) (h : DataW.Trod enc Tryz.prog w base spare held 26 v d ps) :
    ∃ (dv sv tv : Value) (D : List DocR) (S : List Int) (T : List TermR), v = .agg #[dv, sv, tv] ∧ IdxAt w dv sv tv D S T ∧ docsW D + termsW T ≤ Rows.uptoBulk d := by
  obtain ⟨cs, rfl, hsz⟩ := okWide_struct Tryz.underlying26 hv
  obtain ⟨fuel, hf⟩ := h
  obtain ⟨m', ys, hm', hyl, hyd, hcl, hfl⟩ := open_fields Tryz.underlying26 (by kernel_rfl) (by kernel_rfl) hf
  obtain ⟨v0, y0, hv0, hy0, t0⟩ := hfl 0 _ rfl
  obtain ⟨v1, y1, hv1, hy1, t1⟩ := hfl 1 _ rfl
  obtain ⟨v2, y2, hv2, hy2, t2⟩ := hfl 2 _ rfl
  obtain ⟨dv, D, e0, hD, w0⟩ := open_docs _ _ _ t0
  obtain ⟨sv, S, e1, hS, w1⟩ := open_ints2 _ _ _ t1
  obtain ⟨tv, T, e2, hT, w2⟩ := open_terms _ _ _ t2
  simp only [List.cons.injEq, and_true] at e0 e1 e2
  subst e0 e1 e2
  refine ⟨v0, v1, v2, D, S, T, ?_, ⟨hD, hS, hT⟩, ?_⟩
  · obtain ⟨cl⟩ := cs
    simp only [Value.cells] at hv0 hv1 hv2 hcl
    match cl, hcl with
    | [a0, a1, a2], _ =>
      simp only [List.getElem?_cons_zero, List.getElem?_cons_succ, Option.some.injEq] at hv0 hv1 hv2
      subst hv0 hv1 hv2
      rfl
  · match ys, hyl with
    | [a0, a1, a2], _ =>
      simp only [List.getElem?_cons_zero, List.getElem?_cons_succ, Option.some.injEq] at hy0 hy1 hy2
      subst hy0 hy1 hy2
      have hyd : d = _ := hyd
      rw [hyd]
      simp only [List.map_cons, List.map_nil, Rows.uptoBulk, Rows.uptoBulkAll]
      omega
end

end Go.Proofs.YtmcelgokchhpfaaGreatDoor

namespace Go.Proofs.YtmcelgokchhpfaaGreatDoor
open Go.RowKit Go.ChangeShapes Go.WideShapes Go.Deep

section
variable {H : Type} {enc : TypeId × Value → H} {w : World} {base : Nat} {spare : Nat → Bool} {held : Bool}

theorem open_nixdocs (fuel : Nat) (cs : List Value) (x : DataW H × List MemPlace) (h : DataW.trod enc Tryz.prog w base spare held fuel 22 cs = some x) :
    ∃ (v : Value) (l : List DocR), cs = [v] ∧ DocsAt w v l ∧ nixW l + 1 ≤ Rows.uptoBulk x.1 := by
  obtain ⟨A, len, cap, m, b, o, hm, rfl, hlc, hc, hA, hD, hel⟩ := open_cells Tryz.underlying22 (K := 3) (by kernel_rfl) (by omega) h
  have key : ∀ i, i < len → ∃ n : DocR, DocCells w b (o + i * 3) n ∧ ∃ d, (elemsOf x.1)[i]? = some d ∧ n.addr.size + n.title.size + n.text.size + 3 ≤ Rows.uptoBulk d := by
    intro i hi
    obtain ⟨cs', y, hl', hat, hdi, hy⟩ := hel i hi
    obtain ⟨m', ys, hm', hyl, hyd, _, hf⟩ := open_fields Tryz.underlying33 (by kernel_rfl) (by kernel_rfl) hy
    obtain ⟨v0, y0, hv0, hy0, t0⟩ := hf 0 _ rfl
    obtain ⟨v1, y1, hv1, hy1, t1⟩ := hf 1 _ rfl
    obtain ⟨v2, y2, hv2, hy2, t2⟩ := hf 2 _ rfl
    obtain ⟨s0, e0, z0, _⟩ := DataW.trod_string Tryz.underlying9 t0
    obtain ⟨s1, e1, z1, _⟩ := DataW.trod_string Tryz.underlying9 t1
    obtain ⟨s2, e2, z2, _⟩ := DataW.trod_string Tryz.underlying9 t2
    simp only [List.cons.injEq, and_true] at e0 e1 e2
    subst e0 e1 e2
    refine ⟨⟨s0, s1, s2⟩, ⟨(hat 0 (by omega)).trans hv0, (hat 1 (by omega)).trans hv1, (hat 2 (by omega)).trans hv2⟩, _, hdi, ?_⟩
    match ys, hyl with
    | [a0, a1, a2], _ =>
      simp only [List.getElem?_cons_zero, List.getElem?_cons_succ, Option.some.injEq] at hy0 hy1 hy2
      subst hy0 hy1 hy2
      have hs0 : s0.data.toList.length = s0.size := by rw [Array.length_toList]; rfl
      have hs1 : s1.data.toList.length = s1.size := by rw [Array.length_toList]; rfl
      have hs2 : s2.data.toList.length = s2.size := by rw [Array.length_toList]; rfl
      rw [hyd]
      simp only [List.map_cons, List.map_nil, Rows.uptoBulk, Rows.uptoBulkAll, z0, z1, z2, hs0, hs1, hs2]
      omega
  obtain ⟨l, hll, hp⟩ := exists_list key
  have hw : nixW l ≤ Rows.uptoBulkAll (elemsOf x.1) := by
    refine sumBy_le_bulk (by rw [hll, hD]) (fun i a d ha hd => ?_)
    obtain ⟨_, d', h2, h3⟩ := hp i a ha
    rw [h2] at hd
    injection hd with hd
    subst hd
    exact h3
  have hb := bulk_elems x.1
  refine ⟨_, l, rfl, ⟨A, cap, b, o, by rw [hll], by omega, hc, fun hne => hA ?_, fun i n hn => (hp i n hn).1⟩, by omega⟩
  rcases Nat.eq_zero_or_pos len with h0 | h0
  · exact absurd (List.eq_nil_of_length_eq_zero (by omega)) hne
  · exact h0

theorem nixW_mem {D : List DocR} {d : DocR} (h : d ∈ D) : d.addr.size + d.title.size + d.text.size + 3 ≤ nixW D := by
  induction D with
  | nil => cases h
  | cons y r ih =>
    have e : nixW (y :: r) = y.addr.size + y.title.size + y.text.size + 3 + nixW r := by simp [nixW, sumBy]
    rw [e]
    rcases List.mem_cons.1 h with rfl | h
    · omega
    · have := ih h; omega
end

end Go.Proofs.YtmcelgokchhpfaaGreatDoor

namespace Go.Proofs.YtmcelgokchhpfaaGreatDoor
open Go.RowKit Go.ChangeShapes Go.WideShapes Go.ChangeAt Go.Deep

theorem maxLen_at {W : World} (h : W.ShapedOpen Tryz.prog) : ∃ m, W.cell? ⟨1, 0, none⟩ = some (.int .i64 m) := (Tryz.laysM146).s1_3 W h

set_option maxRecDepth 100000 in
theorem tab_of_laid {W : World} (h : laidMet Tryz.prog Rows.shipIndexesUptoRow.laid W) : TabOk W := by
  obtain ⟨ps, hv, _, _⟩ := h
  obtain ⟨_, _, _, _, _, _, _, _, _, _, hv2, _⟩ := hv
  obtain ⟨_, _, _, _, _, _, _, _, _, _, hv3, _⟩ := hv2
  obtain ⟨g', t', cs, fuel, p, q, hg', ht', hvar, hd, _, _⟩ := hv3
  obtain rfl := Option.some.inj ((show Tryz.prog.globalNamed "internal/strconv.uint64pow10" = some 0 by kernel_rfl).symm.trans hg')
  obtain rfl := Option.some.inj ((show (Tryz.prog.globals[0]?).map (·.type) = some 138 by kernel_rfl).symm.trans ht')
  unfold TabOk Lib.TabIs
  rw [hvar, ← Lib.cells_of_tab (k := .u64) (zs := Lib.pow10Tab) Tryz.underlying138 Tryz.underlying91 (by kernel_rfl) (by kernel_rfl) hd]

set_option maxRecDepth 100000 in
theorem shipIndexes_calls (H : Type) (enc : TypeId × Value → H) (W : World) (base : Nat) (args : Array Value) (ds gs : List (DataW H)) (before : List MemPlace)
    (hval : ∀ (j : Nat) t v, Tryz.f3.params[j]? = some t → args[j]? = some v → Value.okWide Tryz.prog W .any base t v)
    (hW : DataW.Whole enc Tryz.prog Tryz.f3.params.toList Rows.shipIndexesSpec.vars false W args.toList ds gs before) (hk : Rows.uptoSmall H (ds ++ gs) = true) (hsh : W.ShapedOpen Tryz.checked.prog) (hTab : TabOk W) :
    Calls Tryz.prog 3 args W fun e W' => ∃ v, e = .returned v ∧ Rows.shipIndexesSpec.post enc Tryz.prog Tryz.f3 false true false false W args v W' := by
  have hW' := hW
  obtain ⟨p, q, hA0, hV, rfl, hfz, hnd⟩ := hW
  have hA : DataW.TrodAll enc Tryz.prog W 0 (fun _ => true) true Tryz.f3.params.toList args.toList ds p := hA0
  rw [Tryz.params3] at hA hval
  obtain ⟨v0, d0, rfl, rfl, h0⟩ := trodAll_one hA
  obtain ⟨rfl, rfl⟩ := trodVars_none hV
  have hbulk : Rows.uptoBulkAll ([d0]) ≤ 1048576 := of_decide_eq_true (by simpa [Rows.uptoSmall] using hk)
  obtain ⟨fu0, g0⟩ := h0
  obtain ⟨u0, l0, e0, n0, w0⟩ := open_nixdocs _ _ _ g0
  obtain ⟨a0, len0, cap0, rfl⟩ := okWide_slice Tryz.underlying22 (hval 0 22 v0 rfl rfl)
  simp only [Value.cells, List.cons.injEq, and_true] at e0
  subst e0
  have bk0 : Rows.uptoBulk d0 ≤ 1048576 := by have := bulk_mem (show d0 ∈ [d0] by simp); omega
  have bw0 : nixW l0 ≤ 1048576 := by have : nixW l0 + 1 ≤ Rows.uptoBulk d0 := w0; omega
  refine (shipIndexes_walk l0 _ W n0 (fun d hd => by have := nixW_mem hd; omega) (maxLen_at hsh) hTab bw0).mono fun e W' ⟨he, hb⟩ => ?_
  subst he
  refine ⟨_, rfl, law_post rfl rfl (tb := 4) (by kernel_rfl) Tryz.underlying4 ?_ hW' hb⟩
  rw [Tryz.params3]
  intro t ht
  simp only [List.mem_cons, List.not_mem_nil, or_false] at ht
  subst ht
  exact ⟨by kernel_rfl, of_decide_eq_true (by kernel_rfl)⟩

set_option maxRecDepth 100000 in
theorem shipIndexes_met (os : Os) : laidMet Tryz.prog Rows.shipIndexesUptoRow.laid ((World.laidAll Tryz.prog os Rows.shipIndexesUptoRow.laid).forCall (fun _ _ => 0) ⟨#[], #[.slice none 0 0], []⟩).memory :=
  laidMet_laidAll _ (by kernel_rfl) (by kernel_rfl)

theorem shipIndexes_reads (os : Os) {H : Type} (enc : TypeId × Value → H) : ∃ places, DataW.whole enc Tryz.prog ((World.laidAll Tryz.prog os Rows.shipIndexesUptoRow.laid).forCall (fun _ _ => 0) ⟨#[], #[.slice none 0 0], []⟩).memory Tryz.f3.params.toList Rows.shipIndexesSpec.vars false (#[(.slice none 0 0 : Value)] : Array Value).toList 8 = some ([.nil], [], places) :=
  ⟨[], by kernel_rfl⟩

set_option maxRecDepth 100000 in
theorem shipIndexes_lifted (os : Os) (started : os.Started) (H : Type) (enc : TypeId × Value → H) (F : Stop.Interp) :
    ReturnsInHanded {} Tryz.checked os 3 .any ((Rows.OpenSpec.upto Rows.shipIndexesSpec).preRow enc Tryz.prog Tryz.f3 Rows.shipIndexesUptoRow.domain false Rows.shipIndexesUptoRow.laid) (((Rows.OpenSpec.upto Rows.shipIndexesSpec).at F).post enc Tryz.prog Tryz.f3 false true false false) := by
  obtain ⟨places, hx⟩ := shipIndexes_reads os enc
  refine returnsInHanded_of_row (C := Tryz.checked) (s := (Rows.OpenSpec.upto Rows.shipIndexesSpec)) own started (by kernel_rfl) Tryz.func3
    (witness_row_at (enc := enc) (C := Tryz.checked) false (World.laidAll Tryz.prog os Rows.shipIndexesUptoRow.laid) #[.slice none 0 0] (World.laidAll_os _ _ _) (by kernel_rfl) (by kernel_rfl) (by kernel_rfl)
      (OpenSpec.preRow_of_cond 8 hx (by kernel_rfl) (fun k hk => by cases hk; kernel_rfl) (by kernel_rfl) (shipIndexes_met os))) ?_
  intro W base args ds gs before hval hW _ hk _ hL hsh _
  exact shipIndexes_calls H enc W base args ds gs before hval hW (hk _ rfl) hsh (tab_of_laid hL)

theorem shipIndexes_said : Rows.ShipIndexesUptoSaid :=
  OpenClaim.holds_of_cond 3 Tryz.f3 rfl rfl rfl rfl rfl rfl rfl ⟨rfl, rfl, rfl, rfl, rfl⟩ rfl rfl rfl rfl rfl (by kernel_rfl) Tryz.func3 (by kernel_rfl)
    (of_decide_eq_true (by kernel_rfl)) (by unfold Func.isWrapper; first | (rw [if_pos (by decide +kernel)]; kernel_rfl) | (rw [if_neg (by decide +kernel)]; exact ⟨rfl, rfl⟩))
    (fun os started H enc _ F => by rw [OpenClaim.pre_eq_preRow]; exact shipIndexes_lifted os started H enc F)

theorem shipIndexes_plain (f : FuncId) (fn : Func) (hf : Tryz.pinned.checked.prog.funcNamed "masthead/mastlaw1.ShipIndexes" = some f) (hfn : Tryz.pinned.checked.prog.funcs[f]? = some fn) :
    false = Tryz.pinned.checked.prog.looks [] ∧ ∀ (j : Nat) t, fn.params[j]? = some t → Tryz.pinned.checked.prog.wantsStandIn t = false := by
  obtain rfl : f = 3 := Option.some.inj ((show Tryz.prog.funcNamed "masthead/mastlaw1.ShipIndexes" = some 3 by kernel_rfl).symm.trans hf) |>.symm
  obtain rfl : fn = Tryz.f3 := (Option.some.inj (Tryz.func3.symm.trans hfn)).symm
  refine ⟨by kernel_rfl, fun j t ht => ?_⟩
  rw [Tryz.params3] at ht
  have h2 := Array.mem_of_getElem? ht
  simp at h2
  subst h2
  exact (show Tryz.prog.wantsStandIn 22 = false by kernel_rfl)

theorem shipIndexes_card : Rows.ShipIndexesUptoCardSaid :=
  Claim7.holds_tied_plain_at .later [] _ _ _ _ shipIndexes_said (fun _ h => by cases h) (by kernel_rfl) (fun _ h => by cases h) shipIndexesUpto_row_tie rfl ⟨rfl, rfl⟩ (by kernel_rfl) rfl shipIndexes_plain (by kernel_rfl)

end Go.Proofs.YtmcelgokchhpfaaGreatDoor
