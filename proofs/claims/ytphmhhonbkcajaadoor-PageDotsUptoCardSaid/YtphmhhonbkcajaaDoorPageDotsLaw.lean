/-
  PageDots is proved, in its second form: for all parts, nodes and strings whose reading stays below the given bound, Dot and Fields answer as the reference's DotOf and FieldsOf do.
-/
import Derived.Test.YtphmhhonbkcajaaDoorDotsWalk
import Derived.Test.YtphmhhonbkcajaaDoorLaw
import Derived.Test.YtphmhhonbkcajaaDoorCards
import Derived.Test.YtphmhhonbkcajaaDoorTie
import Derived.OpenShut
import Derived.Deep.DeepHandedRow
import Derived.Lib.LaidTab
import Derived.Lay
import Derived.Deep.DeepWitnessRowRef
namespace Go.Proofs.YtphmhhonbkcajaaDoor
open Go.RowKit Go.ChangeShapes Go.WideShapes Go.ChangeAt Go.Deep

theorem trodAll_five {H : Type} {enc : TypeId × Value → H} {P : Program} {w : World} {base : Nat} {spare : Nat → Bool} {held : Bool} {t0 t1 t2 t3 t4 : TypeId} {args : Array Value} {ds : List (DataW H)} {ps : List MemPlace} (h : DataW.TrodAll enc P w base spare held [t0, t1, t2, t3, t4] args.toList ds ps) :
    ∃ v0 v1 v2 v3 v4 d0 d1 d2 d3 d4 p0 p1 p2 p3 p4, args = #[v0, v1, v2, v3, v4] ∧ ds = [d0, d1, d2, d3, d4] ∧ ps = p0 ++ p1 ++ p2 ++ p3 ++ p4 ∧ DataW.Trod enc P w base spare held t0 v0 d0 p0 ∧ DataW.Trod enc P w base spare held t1 v1 d1 p1 ∧ DataW.Trod enc P w base spare held t2 v2 d2 p2 ∧ DataW.Trod enc P w base spare held t3 v3 d3 p3 ∧ DataW.Trod enc P w base spare held t4 v4 d4 p4 := by
  obtain ⟨v0, vs0, d0, ds0, p0, q0, hargs, rfl, rfl, hd0, h1⟩ := trodAll_cons h
  obtain ⟨v1, vs1, d1, ds1, p1, q1, rfl, rfl, rfl, hd1, h2⟩ := trodAll_cons h1
  obtain ⟨v2, vs2, d2, ds2, p2, q2, rfl, rfl, rfl, hd2, h3⟩ := trodAll_cons h2
  obtain ⟨v3, vs3, d3, ds3, p3, q3, rfl, rfl, rfl, hd3, h4⟩ := trodAll_cons h3
  obtain ⟨v4, vs4, d4, ds4, p4, q4, rfl, rfl, rfl, hd4, h5⟩ := trodAll_cons h4
  obtain ⟨rfl, rfl, rfl⟩ := trodAll_nil h5
  exact ⟨v0, v1, v2, v3, v4, d0, d1, d2, d3, d4, p0, p1, p2, p3, p4, by cases args; simp_all, rfl, by simp, hd0, hd1, hd2, hd3, hd4⟩

section
variable {H : Type} {enc : TypeId × Value → H} {w : World} {base : Nat} {spare : Nat → Bool} {held : Bool}

theorem open_argsP (fuel : Nat) (cs : List Value) (x : DataW H × List MemPlace) (h : DataW.trod enc Tryd.prog w base spare held fuel 22 cs = some x) :
    ∃ (v : Value) (l : List ArgP), cs = [v] ∧ ArgsPAt w v l ∧ l.length ≤ Rows.uptoBulk x.1 := by
  obtain ⟨A, len, cap, m, b, o, hm, rfl, hlc, hc, hA, hD, hel⟩ := open_cells Tryd.underlying22 cells_argP (by omega) h
  have key : ∀ i, i < len → ∃ s : ByteArray × ByteArray, ((w.cell? ⟨b, o + i * 2, none⟩ = some (.string s.1) ∧ w.cell? ⟨b, o + i * 2 + 1, none⟩ = some (.string s.2)) ∧ s.1.size ≤ maxLen ∧ s.2.size ≤ maxLen) ∧ ∃ d, (elemsOf x.1)[i]? = some d ∧ 1 ≤ Rows.uptoBulk d := by
    intro i hi
    obtain ⟨cs', y, hl', hat, hdi, hy⟩ := hel i hi
    obtain ⟨m', ys, hm', hyl, hyd, _, hf⟩ := open_fields Tryd.underlying44 (by kernel_rfl) (by kernel_rfl) hy
    obtain ⟨v0, y0, hv0, hy0, t0⟩ := hf 0 _ rfl
    obtain ⟨v1, y1, hv1, hy1, t1⟩ := hf 1 _ rfl
    obtain ⟨n1, e0, z0, w0⟩ := DataW.trod_string Tryd.underlying9 t0
    obtain ⟨n2, e1, z1, w1⟩ := DataW.trod_string Tryd.underlying9 t1
    simp only [List.cons.injEq, and_true] at e0 e1
    subst e0 e1
    refine ⟨(n1, n2), ⟨⟨(hat 0 (by omega)).trans hv0, (hat 1 (by omega)).trans hv1⟩, w0, w1⟩, _, hdi, ?_⟩
    rw [hyd]
    simp only [Rows.uptoBulk]
    omega
  obtain ⟨l, hll, hp⟩ := exists_list key
  have hw : sumBy (fun _ : ArgP => 1) l ≤ Rows.uptoBulkAll (elemsOf x.1) := by
    refine sumBy_le_bulk (by rw [hll, hD]) (fun i a d ha hd => ?_)
    obtain ⟨_, d', h2, h3⟩ := hp i a ha
    rw [h2] at hd
    injection hd with hd
    subst hd
    exact h3
  have hs : sumBy (fun _ : ArgP => 1) l = l.length := by
    clear hw hp hll
    induction l with
    | nil => rfl
    | cons a r ih => simp only [sumBy, ih, List.length_cons]; omega
  have hb := bulk_elems x.1
  refine ⟨_, l, rfl, ⟨A, cap, b, o, by rw [hll], by omega, hc, fun hne => hA ?_, fun i x hi => (hp i x hi).1⟩, by omega⟩
  rcases Nat.eq_zero_or_pos len with h0 | h0
  · exact absurd (List.eq_nil_of_length_eq_zero (by omega)) hne
  · exact h0

set_option maxRecDepth 100000 in
/-- an argument that is a part -/
theorem open_partP {r : Reach} {b0 : Nat} {v : Value} {d : DataW H} {ps : List MemPlace} (hv : Value.okWide Tryd.prog w r b0 25 v) (h : DataW.Trod enc Tryd.prog w base spare held 25 v d ps) :
    ∃ (l : List ArgP) (tx nm : ByteArray) (A : Option Addr) (m c : Nat) (en : Bool) (A2 : Option Addr) (m2 c2 : Nat), v = .agg (partC tx nm A m c en A2 m2 c2) ∧ ArgsPAt w (.slice A m c) l ∧ l.length ≤ Rows.uptoBulk d := by
  obtain ⟨cs, rfl, hsz⟩ := okWide_struct Tryd.underlying25 hv
  obtain ⟨fuel, hf⟩ := h
  obtain ⟨m', ys, hm', hyl, hyd, hcl, hfl⟩ := open_fields Tryd.underlying25 (by kernel_rfl) (by kernel_rfl) hf
  obtain ⟨v0, y0, hv0, hy0, t0⟩ := hfl 0 _ rfl
  obtain ⟨v1, y1, hv1, hy1, t1⟩ := hfl 1 _ rfl
  obtain ⟨v2, y2, hv2, hy2, t2⟩ := hfl 2 _ rfl
  obtain ⟨v3, y3, hv3, hy3, t3⟩ := hfl 3 _ rfl
  obtain ⟨v4, y4, hv4, hy4, t4⟩ := hfl 4 _ rfl
  obtain ⟨tx, e0, z0, w0⟩ := DataW.trod_string Tryd.underlying9 t0
  obtain ⟨nm, e1, z1, w1⟩ := DataW.trod_string Tryd.underlying9 t1
  obtain ⟨av, l, e2, hl, hw⟩ := open_argsP _ _ _ t2
  obtain ⟨en, e3, z3⟩ := DataW.trod_bool Tryd.underlying4 t3
  obtain ⟨A4, n4, c4, _, _, _, _, e4, _, _, _, _, _⟩ := open_cells Tryd.underlying23 cells_part (by omega) t4
  obtain ⟨A, c, b, o, rfl, hrest⟩ := id hl
  simp only [List.cons.injEq, and_true] at e0 e1 e2 e3 e4
  subst e0 e1 e2 e3 e4
  refine ⟨l, tx, nm, A, l.length, c, en, A4, n4, c4, ?_, hl, ?_⟩
  · obtain ⟨cl⟩ := cs
    simp only [Value.cells] at hv0 hv1 hv2 hv3 hv4 hcl
    match cl, hcl with
    | [a0, a1, a2, a3, a4], _ =>
      simp only [List.getElem?_cons_zero, List.getElem?_cons_succ, Option.some.injEq] at hv0 hv1 hv2 hv3 hv4
      subst hv0 hv1 hv2 hv3 hv4
      rfl
  · match ys, hyl with
    | [a0, a1, a2, a3, a4], _ =>
      simp only [List.getElem?_cons_zero, List.getElem?_cons_succ, Option.some.injEq] at hy0 hy1 hy2 hy3 hy4
      subst hy0 hy1 hy2 hy3 hy4
      have hyd : d = _ := hyd
      rw [hyd]
      simp only [List.map_cons, List.map_nil, Rows.uptoBulk, Rows.uptoBulkAll]
      omega

set_option maxRecDepth 100000 in
/-- an argument that is a node -/
theorem open_nodeP {r : Reach} {b0 : Nat} {v : Value} {d : DataW H} {ps : List MemPlace} (hv : Value.okWide Tryd.prog w r b0 28 v) (h : DataW.Trod enc Tryd.prog w base spare held 28 v d ps) :
    ∃ (nd : Node) (kv : Value), v = .agg #[.int .i64 nd.kind, .int .i64 nd.level, .string nd.text, .string nd.dest, .string nd.title, kv] ∧ NodesAt w kv nd.kids ∧ (I64 nd.kind ∧ I64 nd.level ∧ nd.text.size ≤ maxLen ∧ nd.dest.size ≤ maxLen ∧ nd.title.size ≤ maxLen) ∧ weight nd.kids ≤ Rows.uptoBulk d := by
  obtain ⟨cs, rfl, hsz⟩ := okWide_struct Tryd.underlying28 hv
  obtain ⟨fuel, hf⟩ := h
  obtain ⟨m', ys, hm', hyl, hyd, hcl, hfl⟩ := open_fields Tryd.underlying28 (by kernel_rfl) (by kernel_rfl) hf
  obtain ⟨v0, y0, hv0, hy0, t0⟩ := hfl 0 _ rfl
  obtain ⟨v1, y1, hv1, hy1, t1⟩ := hfl 1 _ rfl
  obtain ⟨v2, y2, hv2, hy2, t2⟩ := hfl 2 _ rfl
  obtain ⟨v3, y3, hv3, hy3, t3⟩ := hfl 3 _ rfl
  obtain ⟨v4, y4, hv4, hy4, t4⟩ := hfl 4 _ rfl
  obtain ⟨v5, y5, hv5, hy5, t5⟩ := hfl 5 _ rfl
  obtain ⟨k, e0, z0, w0⟩ := DataW.trod_int Tryd.underlying3 t0
  obtain ⟨lv, e1, z1, w1⟩ := DataW.trod_int Tryd.underlying3 t1
  obtain ⟨tx, e2, z2, w2⟩ := DataW.trod_string Tryd.underlying9 t2
  obtain ⟨ds, e3, z3, w3⟩ := DataW.trod_string Tryd.underlying9 t3
  obtain ⟨ti, e4, z4, w4⟩ := DataW.trod_string Tryd.underlying9 t4
  obtain ⟨kv, ks, e5, hks, hw5⟩ := open_nodes _ _ _ t5
  simp only [List.cons.injEq, and_true] at e0 e1 e2 e3 e4 e5
  subst e0 e1 e2 e3 e4 e5
  refine ⟨.mk k lv tx ds ti ks, v5, ?_, hks, ⟨I64.of_wf w0, I64.of_wf w1, w2, w3, w4⟩, ?_⟩
  · obtain ⟨cl⟩ := cs
    simp only [Value.cells] at hv0 hv1 hv2 hv3 hv4 hv5 hcl
    match cl, hcl with
    | [a0, a1, a2, a3, a4, a5], _ =>
      simp only [List.getElem?_cons_zero, List.getElem?_cons_succ, Option.some.injEq] at hv0 hv1 hv2 hv3 hv4 hv5
      subst hv0 hv1 hv2 hv3 hv4 hv5
      rfl
  · match ys, hyl with
    | [a0, a1, a2, a3, a4, a5], _ =>
      simp only [List.getElem?_cons_zero, List.getElem?_cons_succ, Option.some.injEq] at hy0 hy1 hy2 hy3 hy4 hy5
      subst hy0 hy1 hy2 hy3 hy4 hy5
      have hyd : d = _ := hyd
      rw [hyd]
      simp only [List.map_cons, List.map_nil, Rows.uptoBulk, Rows.uptoBulkAll, Node.kids]
      omega
end

set_option maxRecDepth 100000 in
theorem sp_of_laid {W : World} (h : laidMet Tryd.prog Rows.pageDotsUptoRow.laid W) : SpOk W := by
  obtain ⟨ps, hv, _, _⟩ := h
  obtain ⟨_, _, _, _, _, _, _, _, _, _, hv1, _⟩ := hv
  obtain ⟨g', t', cs, fuel, p, q, hg', ht', hvar, hd, _, _⟩ := hv1
  obtain rfl := Option.some.inj ((show Tryd.prog.globalNamed "strings.asciiSpace" = some 0 by kernel_rfl).symm.trans hg')
  obtain rfl := Option.some.inj ((show (Tryd.prog.globals[0]?).map (·.type) = some 62 by kernel_rfl).symm.trans ht')
  unfold SpOk Lib.TabIs
  rw [hvar, ← Lib.cells_of_tab (k := .u8) (zs := Lib.asciiSpaceTab) Tryd.underlying62 Tryd.underlying5 (by kernel_rfl) (by kernel_rfl) hd]

set_option maxRecDepth 100000 in
theorem pageDots_calls (H : Type) (enc : TypeId × Value → H) (W : World) (base : Nat) (args : Array Value) (ds gs : List (DataW H)) (before : List MemPlace)
    (hval : ∀ (j : Nat) t v, Tryd.f3.params[j]? = some t → args[j]? = some v → Value.okWide Tryd.prog W .any base t v)
    (hW : DataW.Whole enc Tryd.prog Tryd.f3.params.toList Rows.pageDotsSpec.vars false W args.toList ds gs before) (hk : Rows.uptoSmall H (ds ++ gs) = true) (hSp : SpOk W) :
    Calls Tryd.prog 3 args W fun e W' => ∃ v, e = .returned v ∧ Rows.pageDotsSpec.post enc Tryd.prog Tryd.f3 false true false false W args v W' := by
  have hW' := hW
  obtain ⟨p, q, hA0, hV, rfl, hfz, hnd⟩ := hW
  have hA : DataW.TrodAll enc Tryd.prog W 0 (fun _ => true) true Tryd.f3.params.toList args.toList ds p := hA0
  rw [Tryd.params3] at hA hval
  obtain ⟨v0, v1, v2, v3, v4, d0, d1, d2, d3, d4, p0, p1, p2, p3, p4, rfl, rfl, rfl, h0, h1, h2, h3, h4⟩ := trodAll_five hA
  obtain ⟨rfl, rfl⟩ := trodVars_none hV
  have hbulk : Rows.uptoBulkAll ([d0, d1, d2, d3, d4]) ≤ 1048576 := of_decide_eq_true (by simpa [Rows.uptoSmall] using hk)
  obtain ⟨l0, tx0, nm0, A0, m0, c0, en0, B0, k0, q0, rfl, x0, w0⟩ := open_partP (hval 0 25 v0 rfl rfl) h0
  obtain ⟨nd1, kv1, rfl, n1, i1, w1⟩ := open_nodeP (hval 1 28 v1 rfl rfl) h1
  obtain ⟨s2, rfl, hd2, _, hs2⟩ := Go.ChangeMaps.open_string Tryd.underlying9 (hval 2 9 v2 rfl rfl) h2
  obtain ⟨s3, rfl, hd3, _, hs3⟩ := Go.ChangeMaps.open_string Tryd.underlying9 (hval 3 9 v3 rfl rfl) h3
  obtain ⟨s4, rfl, hd4, _, hs4⟩ := Go.ChangeMaps.open_string Tryd.underlying9 (hval 4 9 v4 rfl rfl) h4
  have hb0 := bulk_mem (show d0 ∈ [d0, d1, d2, d3, d4] by simp)
  have hb1 := bulk_mem (show d1 ∈ [d0, d1, d2, d3, d4] by simp)
  have hb2 := bulk_mem (show d2 ∈ [d0, d1, d2, d3, d4] by simp)
  have ht1 := total_weight _ nd1.kids (Nat.le_refl _)
  have hz2 : s2.size ≤ Rows.uptoBulk d2 := by rw [hd2]; simp only [Rows.uptoBulk]; rw [size_toList]; omega
  refine (pageDots_walk l0 tx0 nm0 A0 m0 c0 en0 B0 k0 q0 nd1 kv1 s2 s3 s4 W x0 (by omega) hSp n1 (by omega) ⟨by rw [total_cons]; simp only [total]; omega, by rw [total_cons]; show total [nd1] + 1 + total [] ≤ _; rw [total_cons]; simp only [total]; omega⟩ i1 (by omega) hs3 hs4).mono fun e W' ⟨he, hb⟩ => ?_
  subst he
  refine ⟨_, rfl, law_post rfl rfl (tb := 4) (by kernel_rfl) Tryd.underlying4 ?_ hW' hb⟩
  rw [Tryd.params3]
  intro t ht
  simp only [List.mem_cons, List.not_mem_nil, or_false] at ht
  rcases ht with rfl | rfl | rfl | rfl | rfl <;> exact ⟨by kernel_rfl, of_decide_eq_true (by kernel_rfl)⟩

set_option maxRecDepth 100000 in
theorem pageDots_met (os : Os) : laidMet Tryd.prog Rows.pageDotsUptoRow.laid ((World.laidAll Tryd.prog os Rows.pageDotsUptoRow.laid).forCall (fun _ _ => 0) ⟨#[], #[.agg #[.string ⟨#[]⟩, .string ⟨#[]⟩, .slice none 0 0, .bool false, .slice none 0 0], .agg #[.int .i64 0, .int .i64 0, .string ⟨#[]⟩, .string ⟨#[]⟩, .string ⟨#[]⟩, .slice none 0 0], .string ⟨#[]⟩, .string ⟨#[]⟩, .string ⟨#[]⟩], []⟩).memory :=
  laidMet_laidAll _ (by kernel_rfl) (by kernel_rfl)

theorem pageDots_reads (os : Os) {H : Type} (enc : TypeId × Value → H) : ∃ places, DataW.whole enc Tryd.prog ((World.laidAll Tryd.prog os Rows.pageDotsUptoRow.laid).forCall (fun _ _ => 0) ⟨#[], #[.agg #[.string ⟨#[]⟩, .string ⟨#[]⟩, .slice none 0 0, .bool false, .slice none 0 0], .agg #[.int .i64 0, .int .i64 0, .string ⟨#[]⟩, .string ⟨#[]⟩, .string ⟨#[]⟩, .slice none 0 0], .string ⟨#[]⟩, .string ⟨#[]⟩, .string ⟨#[]⟩], []⟩).memory Tryd.f3.params.toList Rows.pageDotsSpec.vars false (#[(.agg #[.string ⟨#[]⟩, .string ⟨#[]⟩, .slice none 0 0, .bool false, .slice none 0 0] : Value), (.agg #[.int .i64 0, .int .i64 0, .string ⟨#[]⟩, .string ⟨#[]⟩, .string ⟨#[]⟩, .slice none 0 0] : Value), (.string ⟨#[]⟩ : Value), (.string ⟨#[]⟩ : Value), (.string ⟨#[]⟩ : Value)] : Array Value).toList 8 = some ([.agg [.lit (.string []), .lit (.string []), .nil, .lit (.bool false), .nil], .agg [.lit (.int .i64 0), .lit (.int .i64 0), .lit (.string []), .lit (.string []), .lit (.string []), .nil], .lit (.string []), .lit (.string []), .lit (.string [])], [], places) :=
  ⟨[], by kernel_rfl⟩

set_option maxRecDepth 100000 in
theorem pageDots_lifted (os : Os) (started : os.Started) (H : Type) (enc : TypeId × Value → H) (F : Stop.Interp) :
    ReturnsInHanded {} Tryd.checked os 3 .any ((Rows.OpenSpec.upto Rows.pageDotsSpec).preRow enc Tryd.prog Tryd.f3 Rows.pageDotsUptoRow.domain false Rows.pageDotsUptoRow.laid) (((Rows.OpenSpec.upto Rows.pageDotsSpec).at F).post enc Tryd.prog Tryd.f3 false true false false) := by
  obtain ⟨places, hx⟩ := pageDots_reads os enc
  refine returnsInHanded_of_row (C := Tryd.checked) (s := (Rows.OpenSpec.upto Rows.pageDotsSpec)) own started (by kernel_rfl) Tryd.func3
    (witness_row_atRef (enc := enc) (C := Tryd.checked) false (World.laidAll Tryd.prog os Rows.pageDotsUptoRow.laid) #[.agg #[.string ⟨#[]⟩, .string ⟨#[]⟩, .slice none 0 0, .bool false, .slice none 0 0], .agg #[.int .i64 0, .int .i64 0, .string ⟨#[]⟩, .string ⟨#[]⟩, .string ⟨#[]⟩, .slice none 0 0], .string ⟨#[]⟩, .string ⟨#[]⟩, .string ⟨#[]⟩] (World.laidAll_os _ _ _) (by kernel_rfl) (by kernel_rfl) (by kernel_rfl)
      (OpenSpec.preRow_of_cond 8 hx (by kernel_rfl) (fun k hk => by cases hk; kernel_rfl) (by kernel_rfl) (pageDots_met os))) ?_
  intro W base args ds gs before hval hW _ hk _ hL _ _
  exact pageDots_calls H enc W base args ds gs before hval hW (hk _ rfl) (sp_of_laid hL)

theorem pageDots_said : Rows.PageDotsUptoSaid :=
  OpenClaim.holds_of_cond 3 Tryd.f3 rfl rfl rfl rfl rfl rfl rfl ⟨rfl, rfl, rfl, rfl, rfl⟩ rfl rfl rfl rfl rfl (by kernel_rfl) Tryd.func3 (by kernel_rfl)
    (of_decide_eq_true (by kernel_rfl)) (by unfold Func.isWrapper; first | (rw [if_pos (by decide +kernel)]; kernel_rfl) | (rw [if_neg (by decide +kernel)]; exact ⟨rfl, rfl⟩))
    (fun os started H enc _ F => by rw [OpenClaim.pre_eq_preRow]; exact pageDots_lifted os started H enc F)

theorem pageDots_plain (f : FuncId) (fn : Func) (hf : Tryd.pinned.checked.prog.funcNamed "masthead/mastlaw1.PageDots" = some f) (hfn : Tryd.pinned.checked.prog.funcs[f]? = some fn) :
    false = Tryd.pinned.checked.prog.looks [] ∧ ∀ (j : Nat) t, fn.params[j]? = some t → Tryd.pinned.checked.prog.wantsStandIn t = false := by
  obtain rfl : f = 3 := Option.some.inj ((show Tryd.prog.funcNamed "masthead/mastlaw1.PageDots" = some 3 by kernel_rfl).symm.trans hf) |>.symm
  obtain rfl : fn = Tryd.f3 := (Option.some.inj (Tryd.func3.symm.trans hfn)).symm
  refine ⟨by kernel_rfl, fun j t ht => ?_⟩
  rw [Tryd.params3] at ht
  have h2 := Array.mem_of_getElem? ht
  simp at h2
  rcases h2 with rfl | rfl | rfl
  · exact (show Tryd.prog.wantsStandIn 25 = false by kernel_rfl)
  · exact (show Tryd.prog.wantsStandIn 28 = false by kernel_rfl)
  · exact (show Tryd.prog.wantsStandIn 9 = false by kernel_rfl)

theorem pageDots_card : Rows.PageDotsUptoCardSaid :=
  Claim7.holds_tied_plain_at .later [] _ _ _ _ pageDots_said (fun _ h => by cases h) (by kernel_rfl) (fun _ h => by cases h) pageDotsUpto_row_tie rfl ⟨rfl, rfl⟩ (by kernel_rfl) rfl pageDots_plain (by kernel_rfl)

end Go.Proofs.YtphmhhonbkcajaaDoor
