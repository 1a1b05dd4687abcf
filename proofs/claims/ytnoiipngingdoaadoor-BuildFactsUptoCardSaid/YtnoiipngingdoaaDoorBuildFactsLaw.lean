/-
  BuildFacts is proved, in its second form: for all facts, names, contents and values whose reading stays below the given bound, build's facts answer as the reference's do.
-/
import Derived.Test.YtnoiipngingdoaaDoorBFacts
import Derived.Test.YtnoiipngingdoaaDoorLaw
import Derived.Deep.DeepWitnessRowRef
import Derived.Test.YtnoiipngingdoaaDoorCards
import Derived.Test.YtnoiipngingdoaaDoorTie
import Derived.OpenShut
import Derived.Deep.DeepHandedRow
import Derived.Lib.LaidTab
import Derived.Lay
namespace Go.Proofs.YtnoiipngingdoaaDoor
open Go.RowKit Go.ChangeShapes Go.WideShapes Go.ChangeAt Go.Deep

theorem trodAll_five {H : Type} {enc : TypeId × Value → H} {P : Program} {w : World} {base : Nat} {spare : Nat → Bool} {held : Bool} {t0 t1 t2 t3 t4 : TypeId} {args : Array Value} {ds : List (DataW H)} {ps : List MemPlace} (h : DataW.TrodAll enc P w base spare held [t0, t1, t2, t3, t4] args.toList ds ps) :
    ∃ v0 v1 v2 v3 v4 d0 d1 d2 d3 d4 p0 p1 p2 p3 p4, args = #[v0, v1, v2, v3, v4] ∧ ds = [d0, d1, d2, d3, d4] ∧ ps = p0 ++ p1 ++ p2 ++ p3 ++ p4 ∧ DataW.Trod enc P w base spare held t0 v0 d0 p0 ∧ DataW.Trod enc P w base spare held t1 v1 d1 p1 ∧ DataW.Trod enc P w base spare held t2 v2 d2 p2 ∧ DataW.Trod enc P w base spare held t3 v3 d3 p3 ∧ DataW.Trod enc P w base spare held t4 v4 d4 p4 := by
  obtain ⟨v0, vs0, d0, ds0, p0, q0, hargs, rfl, rfl, hd0, h1⟩ := trodAll_cons h
  obtain ⟨v1, vs1, d1, ds1, p1, q1, rfl, rfl, rfl, hd1, h2⟩ := trodAll_cons h1
  obtain ⟨v2, vs2, d2, ds2, p2, q2, rfl, rfl, rfl, hd2, h3⟩ := trodAll_cons h2
  obtain ⟨v3, vs3, d3, ds3, p3, q3, rfl, rfl, rfl, hd3, h4⟩ := trodAll_cons h3
  obtain ⟨v4, vs4, d4, ds4, p4, q4, rfl, rfl, rfl, hd4, h5⟩ := trodAll_cons h4
  obtain ⟨rfl, rfl, rfl⟩ := trodAll_nil h5
  exact ⟨v0, v1, v2, v3, v4, d0, d1, d2, d3, d4, p0, p1, p2, p3, p4, by cases args; simp_all, rfl, by simp, hd0, hd1, hd2, hd3, hd4⟩

theorem mem_sumBy {T : Type} {f : T → Nat} {l : List T} {x : T} (h : x ∈ l) : f x ≤ sumBy f l := by
  induction l with
  | nil => cases h
  | cons y r ih =>
    have e : sumBy f (y :: r) = f y + sumBy f r := by simp [sumBy]
    rw [e]
    rcases List.mem_cons.1 h with rfl | h
    · omega
    · have := ih h; omega

section
variable {H : Type} {enc : TypeId × Value → H} {w : World} {base : Nat} {spare : Nat → Bool} {held : Bool}
/-- entries, their number bounded by the bulk -/
theorem open_entriesN (fuel : Nat) (cs : List Value) (x : DataW H × List MemPlace) (h : DataW.trod enc Tryd.prog w base spare held fuel 23 cs = some x) :
    ∃ (v : Value) (l : List Entry), cs = [v] ∧ EntriesAt w v l ∧ l.length ≤ Rows.uptoBulk x.1 := by
  obtain ⟨A, len, cap, m, b, o, hm, rfl, hlc, hc, hA, hD, hel⟩ := open_cells Tryd.underlying23 cells_entry (by omega) h
  have key : ∀ i, i < len → ∃ n : Entry, EntryCells w b (o + i * 3) n := by
    intro i hi
    obtain ⟨cs', y, hl', hat, hdi, hy⟩ := hel i hi
    obtain ⟨m', ys, hm', hyl, hyd, _, hf⟩ := open_fields Tryd.underlying39 (by kernel_rfl) (by kernel_rfl) hy
    obtain ⟨v0, y0, hv0, hy0, t0⟩ := hf 0 _ rfl
    obtain ⟨v1, y1, hv1, hy1, t1⟩ := hf 1 _ rfl
    obtain ⟨v2, y2, hv2, hy2, t2⟩ := hf 2 _ rfl
    obtain ⟨k, e0, z0, w0⟩ := DataW.trod_int Tryd.underlying3 t0
    obtain ⟨tx, e1, z1, w1⟩ := DataW.trod_string Tryd.underlying9 t1
    obtain ⟨ds, e2, z2, w2⟩ := DataW.trod_string Tryd.underlying9 t2
    simp only [List.cons.injEq, and_true] at e0 e1 e2
    subst e0 e1 e2
    exact ⟨⟨k, tx, ds⟩, (hat 0 (by omega)).trans hv0, (hat 1 (by omega)).trans hv1, (hat 2 (by omega)).trans hv2, I64.of_wf w0, w1, w2⟩
  obtain ⟨l, hll, hp⟩ := exists_list key
  refine ⟨_, l, rfl, ⟨A, cap, b, o, by rw [hll], by omega, hc, fun hne => hA ?_, hp⟩, ?_⟩
  · rcases Nat.eq_zero_or_pos len with h0 | h0
    · exact absurd (List.eq_nil_of_length_eq_zero (by omega)) hne
    · exact h0
  · have h1 := bulk_elems x.1
    have h2 := bulk_len (elemsOf x.1)
    omega
set_option maxRecDepth 100000 in
/-- an argument that is a content -/
theorem open_contentN {r : Reach} {b0 : Nat} {v : Value} {d : DataW H} {ps : List MemPlace} (hv : Value.okWide Tryd.prog w r b0 26 v) (h : DataW.Trod enc Tryd.prog w base spare held 26 v d ps) :
    ∃ (html su pl : ByteArray) (A : Option Addr) (n c : Nat) (wd : Int) (A1 : Option Addr) (n1 c1 : Nat) (A2 : Option Addr) (n2 c2 : Nat) (l : List Entry), v = .agg (boxS html su pl A n c wd A1 n1 c1 A2 n2 c2) ∧ EntriesAt w (.slice A n c) l ∧ html.size ≤ maxLen ∧ su.size ≤ maxLen ∧ pl.size ≤ maxLen ∧ I64 wd ∧ l.length ≤ Rows.uptoBulk d := by
  obtain ⟨cs, rfl, hsz⟩ := okWide_struct Tryd.underlying26 hv
  obtain ⟨fuel, hf⟩ := h
  obtain ⟨m', ys, hm', hyl, hyd, hcl, hfl⟩ := open_fields Tryd.underlying26 (by kernel_rfl) (by kernel_rfl) hf
  obtain ⟨v0, y0, hv0, hy0, t0⟩ := hfl 0 _ rfl
  obtain ⟨v1, y1, hv1, hy1, t1⟩ := hfl 1 _ rfl
  obtain ⟨v2, y2, hv2, hy2, t2⟩ := hfl 2 _ rfl
  obtain ⟨v3, y3, hv3, hy3, t3⟩ := hfl 3 _ rfl
  obtain ⟨v4, y4, hv4, hy4, t4⟩ := hfl 4 _ rfl
  obtain ⟨v5, y5, hv5, hy5, t5⟩ := hfl 5 _ rfl
  obtain ⟨v6, y6, hv6, hy6, t6⟩ := hfl 6 _ rfl
  obtain ⟨html, e0, z0, w0⟩ := DataW.trod_string Tryd.underlying9 t0
  obtain ⟨su, e1, z1, w1⟩ := DataW.trod_string Tryd.underlying9 t1
  obtain ⟨pl, e2, z2, w2⟩ := DataW.trod_string Tryd.underlying9 t2
  obtain ⟨cv, l, e3, hl, hw3⟩ := open_entriesN _ _ _ t3
  obtain ⟨wd, e4, z4, w4⟩ := DataW.trod_int Tryd.underlying3 t4
  have e5 : ∃ A n c, v5 = .slice A n c := by
    rcases DataW.trod_slice Tryd.underlying24 t5 with ⟨h4, _⟩ | ⟨a, len, cap, _, _, _, _, h4, _⟩
    · simp only [List.cons.injEq, and_true] at h4; exact ⟨_, _, _, h4⟩
    · simp only [List.cons.injEq, and_true] at h4; exact ⟨_, _, _, h4⟩
  have e6 : ∃ A n c, v6 = .slice A n c := by
    rcases DataW.trod_slice Tryd.underlying24 t6 with ⟨h4, _⟩ | ⟨a, len, cap, _, _, _, _, h4, _⟩
    · simp only [List.cons.injEq, and_true] at h4; exact ⟨_, _, _, h4⟩
    · simp only [List.cons.injEq, and_true] at h4; exact ⟨_, _, _, h4⟩
  obtain ⟨A1, n1, c1, rfl⟩ := e5
  obtain ⟨A2, n2, c2, rfl⟩ := e6
  simp only [List.cons.injEq, and_true] at e0 e1 e2 e3 e4
  subst e0 e1 e2 e3 e4
  obtain ⟨A, c, b, o, rfl, _, _, _, _⟩ := id hl
  refine ⟨html, su, pl, A, l.length, c, wd, A1, n1, c1, A2, n2, c2, l, ?_, hl, w0, w1, w2, I64.of_wf w4, ?_⟩
  · obtain ⟨cl⟩ := cs
    simp only [Value.cells] at hv0 hv1 hv2 hv3 hv4 hv5 hv6 hcl
    match cl, hcl with
    | [a0, a1, a2, a3, a4, a5, a6], _ =>
      simp only [List.getElem?_cons_zero, List.getElem?_cons_succ, Option.some.injEq] at hv0 hv1 hv2 hv3 hv4 hv5 hv6
      subst hv0 hv1 hv2 hv3 hv4 hv5 hv6
      rfl
  · match ys, hyl with
    | [a0, a1, a2, a3, a4, a5, a6], _ =>
      simp only [List.getElem?_cons_zero, List.getElem?_cons_succ, Option.some.injEq] at hy0 hy1 hy2 hy3 hy4 hy5 hy6
      subst hy0 hy1 hy2 hy3 hy4 hy5 hy6
      have hyd : d = _ := hyd
      rw [hyd]
      simp only [List.map_cons, List.map_nil, Rows.uptoBulk, Rows.uptoBulkAll]
      omega
end

set_option maxRecDepth 100000 in
theorem sp_of_laid {W : World} (h : laidMet Tryd.prog Rows.buildFactsUptoRow.laid W) : SpOk W := by
  obtain ⟨ps, hv, _, _⟩ := h
  obtain ⟨_, _, _, _, _, _, _, _, _, _, hv1, _⟩ := hv
  obtain ⟨g', t', cs, fuel, p, q, hg', ht', hvar, hd, _, _⟩ := hv1
  obtain rfl := Option.some.inj ((show Tryd.prog.globalNamed "strings.asciiSpace" = some 0 by kernel_rfl).symm.trans hg')
  obtain rfl := Option.some.inj ((show (Tryd.prog.globals[0]?).map (·.type) = some 45 by kernel_rfl).symm.trans ht')
  unfold SpOk Lib.TabIs
  rw [hvar, ← Lib.cells_of_tab (k := .u8) (zs := Lib.asciiSpaceTab) Tryd.underlying45 Tryd.underlying5 (by kernel_rfl) (by kernel_rfl) hd]

set_option maxRecDepth 100000 in
theorem buildFacts_calls (H : Type) (enc : TypeId × Value → H) (W : World) (base : Nat) (args : Array Value) (ds gs : List (DataW H)) (before : List MemPlace)
    (hval : ∀ (j : Nat) t v, Tryd.f3.params[j]? = some t → args[j]? = some v → Value.okWide Tryd.prog W .any base t v)
    (hW : DataW.Whole enc Tryd.prog Tryd.f3.params.toList Rows.buildFactsSpec.vars false W args.toList ds gs before) (hk : Rows.uptoSmall H (ds ++ gs) = true) (hSp : SpOk W) :
    Calls Tryd.prog 3 args W fun e W' => ∃ v, e = .returned v ∧ Rows.buildFactsSpec.post enc Tryd.prog Tryd.f3 false true false false W args v W' := by
  have hW' := hW
  obtain ⟨p, q, hA0, hV, rfl, hfz, hnd⟩ := hW
  have hA : DataW.TrodAll enc Tryd.prog W 0 (fun _ => true) true Tryd.f3.params.toList args.toList ds p := hA0
  rw [Tryd.params3] at hA hval
  obtain ⟨v0, v1, v2, v3, v4, d0, d1, d2, d3, d4, p0, p1, p2, p3, p4, rfl, rfl, rfl, h0, h1, h2, h3, h4⟩ := trodAll_five hA
  obtain ⟨rfl, rfl⟩ := trodVars_none hV
  have hbulk : Rows.uptoBulkAll ([d0, d1, d2, d3, d4]) ≤ 1048576 := of_decide_eq_true (by simpa [Rows.uptoSmall] using hk)
  have bk0 : Rows.uptoBulk d0 ≤ 1048576 := by have := bulk_mem (show d0 ∈ [d0, d1, d2, d3, d4] by simp); omega
  have bk2 : Rows.uptoBulk d2 ≤ 1048576 := by have := bulk_mem (show d2 ∈ [d0, d1, d2, d3, d4] by simp); omega
  obtain ⟨fu0, g0⟩ := h0
  obtain ⟨u0, l0, e0, i0, b0⟩ := open_named _ _ _ g0
  obtain ⟨a0, len0, cap0, rfl⟩ := okWide_slice Tryd.underlying22 (hval 0 22 v0 rfl rfl)
  simp only [Value.cells, List.cons.injEq, and_true] at e0
  subst e0
  obtain ⟨s1, rfl, hd1, _, hs1⟩ := Go.ChangeMaps.open_string Tryd.underlying9 (hval 1 9 v1 rfl rfl) h1
  obtain ⟨html2, su2, pl2, A2, m2, c2, wd2, B2, k2, j2, C2, q2, r2, l2, rfl, i2, y0, y1, y2, y3, z2⟩ := open_contentN (hval 2 26 v2 rfl rfl) h2
  obtain ⟨n3, w3, x3⟩ := open_val (hval 3 29 v3 rfl rfl) h3
  obtain ⟨n4, w4, x4⟩ := open_val (hval 4 29 v4 rfl rfl) h4
  refine (bfacts_walk l0 _ s1 html2 su2 pl2 l2 A2 m2 c2 wd2 B2 k2 j2 C2 q2 r2 n3 n4 v3 v4 W i0 (fun x hx => by have h3 : x.1.size + 1 + valW x.2 ≤ sumBy (fun x : ByteArray × Val => x.1.size + 1 + valW x.2) l0 := mem_sumBy (f := fun x : ByteArray × Val => x.1.size + 1 + valW x.2) hx; have h4 : sumBy (fun x : ByteArray × Val => x.1.size + 1 + valW x.2) l0 + 1 ≤ Rows.uptoBulk d0 := b0; omega) i2 (by omega) hSp y0 y2 y1 y3 w3 w4).mono fun e W' ⟨he, hb⟩ => ?_
  subst he
  refine ⟨_, rfl, law_post rfl rfl (tb := 4) (by kernel_rfl) Tryd.underlying4 ?_ hW' hb⟩
  rw [Tryd.params3]
  intro t ht
  simp only [List.mem_cons, List.not_mem_nil, or_false] at ht
  rcases ht with rfl | rfl | rfl | rfl | rfl <;> exact ⟨by kernel_rfl, of_decide_eq_true (by kernel_rfl)⟩

set_option maxRecDepth 100000 in
theorem buildFacts_met (os : Os) : laidMet Tryd.prog Rows.buildFactsUptoRow.laid ((World.laidAll Tryd.prog os Rows.buildFactsUptoRow.laid).forCall (fun _ _ => 0) ⟨#[], #[.slice none 0 0, .string ⟨#[]⟩, .agg #[.string ⟨#[]⟩, .string ⟨#[]⟩, .string ⟨#[]⟩, .slice none 0 0, .int .i64 0, .slice none 0 0, .slice none 0 0], .agg #[.int .i64 0, .bool false, .int .i64 0, .string ⟨#[]⟩, .slice none 0 0, .slice none 0 0], .agg #[.int .i64 0, .bool false, .int .i64 0, .string ⟨#[]⟩, .slice none 0 0, .slice none 0 0]], []⟩).memory :=
  laidMet_laidAll _ (by kernel_rfl) (by kernel_rfl)

theorem buildFacts_reads (os : Os) {H : Type} (enc : TypeId × Value → H) : ∃ places, DataW.whole enc Tryd.prog ((World.laidAll Tryd.prog os Rows.buildFactsUptoRow.laid).forCall (fun _ _ => 0) ⟨#[], #[.slice none 0 0, .string ⟨#[]⟩, .agg #[.string ⟨#[]⟩, .string ⟨#[]⟩, .string ⟨#[]⟩, .slice none 0 0, .int .i64 0, .slice none 0 0, .slice none 0 0], .agg #[.int .i64 0, .bool false, .int .i64 0, .string ⟨#[]⟩, .slice none 0 0, .slice none 0 0], .agg #[.int .i64 0, .bool false, .int .i64 0, .string ⟨#[]⟩, .slice none 0 0, .slice none 0 0]], []⟩).memory Tryd.f3.params.toList Rows.buildFactsSpec.vars false (#[(.slice none 0 0 : Value), (.string ⟨#[]⟩ : Value), (.agg #[.string ⟨#[]⟩, .string ⟨#[]⟩, .string ⟨#[]⟩, .slice none 0 0, .int .i64 0, .slice none 0 0, .slice none 0 0] : Value), (.agg #[.int .i64 0, .bool false, .int .i64 0, .string ⟨#[]⟩, .slice none 0 0, .slice none 0 0] : Value), (.agg #[.int .i64 0, .bool false, .int .i64 0, .string ⟨#[]⟩, .slice none 0 0, .slice none 0 0] : Value)] : Array Value).toList 8 = some ([.nil, .lit (.string []), .agg [.lit (.string []), .lit (.string []), .lit (.string []), .nil, .lit (.int .i64 0), .nil, .nil], .agg [.lit (.int .i64 0), .lit (.bool false), .lit (.int .i64 0), .lit (.string []), .nil, .nil], .agg [.lit (.int .i64 0), .lit (.bool false), .lit (.int .i64 0), .lit (.string []), .nil, .nil]], [], places) :=
  ⟨[], by kernel_rfl⟩

set_option maxRecDepth 100000 in
theorem buildFacts_lifted (os : Os) (started : os.Started) (H : Type) (enc : TypeId × Value → H) (F : Stop.Interp) :
    ReturnsInHanded {} Tryd.checked os 3 .any ((Rows.OpenSpec.upto Rows.buildFactsSpec).preRow enc Tryd.prog Tryd.f3 Rows.buildFactsUptoRow.domain false Rows.buildFactsUptoRow.laid) (((Rows.OpenSpec.upto Rows.buildFactsSpec).at F).post enc Tryd.prog Tryd.f3 false true false false) := by
  obtain ⟨places, hx⟩ := buildFacts_reads os enc
  refine returnsInHanded_of_row (C := Tryd.checked) (s := (Rows.OpenSpec.upto Rows.buildFactsSpec)) own started (by kernel_rfl) Tryd.func3
    (witness_row_atRef (enc := enc) (C := Tryd.checked) false (World.laidAll Tryd.prog os Rows.buildFactsUptoRow.laid) #[.slice none 0 0, .string ⟨#[]⟩, .agg #[.string ⟨#[]⟩, .string ⟨#[]⟩, .string ⟨#[]⟩, .slice none 0 0, .int .i64 0, .slice none 0 0, .slice none 0 0], .agg #[.int .i64 0, .bool false, .int .i64 0, .string ⟨#[]⟩, .slice none 0 0, .slice none 0 0], .agg #[.int .i64 0, .bool false, .int .i64 0, .string ⟨#[]⟩, .slice none 0 0, .slice none 0 0]] (World.laidAll_os _ _ _) (by kernel_rfl) (by kernel_rfl) (by kernel_rfl)
      (OpenSpec.preRow_of_cond 8 hx (by kernel_rfl) (fun k hk => by cases hk; kernel_rfl) (by kernel_rfl) (buildFacts_met os))) ?_
  intro W base args ds gs before hval hW _ hk _ hL _ _
  exact buildFacts_calls H enc W base args ds gs before hval hW (hk _ rfl) (sp_of_laid hL)

theorem buildFacts_said : Rows.BuildFactsUptoSaid :=
  OpenClaim.holds_of_cond 3 Tryd.f3 rfl rfl rfl rfl rfl rfl rfl ⟨rfl, rfl, rfl, rfl, rfl⟩ rfl rfl rfl rfl rfl (by kernel_rfl) Tryd.func3 (by kernel_rfl)
    (of_decide_eq_true (by kernel_rfl)) (by unfold Func.isWrapper; first | (rw [if_pos (by decide +kernel)]; kernel_rfl) | (rw [if_neg (by decide +kernel)]; exact ⟨rfl, rfl⟩))
    (fun os started H enc _ F => by rw [OpenClaim.pre_eq_preRow]; exact buildFacts_lifted os started H enc F)

theorem buildFacts_plain (f : FuncId) (fn : Func) (hf : Tryd.pinned.checked.prog.funcNamed "masthead/mastlaw1.BuildFacts" = some f) (hfn : Tryd.pinned.checked.prog.funcs[f]? = some fn) :
    false = Tryd.pinned.checked.prog.looks [] ∧ ∀ (j : Nat) t, fn.params[j]? = some t → Tryd.pinned.checked.prog.wantsStandIn t = false := by
  obtain rfl : f = 3 := Option.some.inj ((show Tryd.prog.funcNamed "masthead/mastlaw1.BuildFacts" = some 3 by kernel_rfl).symm.trans hf) |>.symm
  obtain rfl : fn = Tryd.f3 := (Option.some.inj (Tryd.func3.symm.trans hfn)).symm
  refine ⟨by kernel_rfl, fun j t ht => ?_⟩
  rw [Tryd.params3] at ht
  have h2 := Array.mem_of_getElem? ht
  simp at h2
  rcases h2 with rfl | rfl | rfl | rfl
  · exact (show Tryd.prog.wantsStandIn 22 = false by kernel_rfl)
  · exact (show Tryd.prog.wantsStandIn 9 = false by kernel_rfl)
  · exact (show Tryd.prog.wantsStandIn 26 = false by kernel_rfl)
  · exact (show Tryd.prog.wantsStandIn 29 = false by kernel_rfl)

theorem buildFacts_card : Rows.BuildFactsUptoCardSaid :=
  Claim7.holds_tied_plain_at .later [] _ _ _ _ buildFacts_said (fun _ h => by cases h) (by kernel_rfl) (fun _ h => by cases h) buildFactsUpto_row_tie rfl ⟨rfl, rfl⟩ (by kernel_rfl) rfl buildFacts_plain (by kernel_rfl)

end Go.Proofs.YtnoiipngingdoaaDoor
