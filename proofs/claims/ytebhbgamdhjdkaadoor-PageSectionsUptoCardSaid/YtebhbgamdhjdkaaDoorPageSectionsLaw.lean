/-
  PageSections is proved, in its second form: for all contents and ids whose reading stays below the given bound, Section is the content's part from the heading of that id on, up to the next heading of the same level or a higher one.
-/
import Derived.Test.YtebhbgamdhjdkaaDoorPSect1
import Derived.Test.YtebhbgamdhjdkaaDoorLaw
import Derived.Test.YtebhbgamdhjdkaaDoorCards
import Derived.Test.YtebhbgamdhjdkaaDoorTie
import Derived.OpenShut
import Derived.Deep.DeepHandedRow
import Derived.Lib.LaidTab
import Derived.Lay
namespace Go.Proofs.YtebhbgamdhjdkaaDoor
open Go.RowKit Go.ChangeShapes Go.WideShapes Go.ChangeAt Go.Deep

section
variable {H : Type} {enc : TypeId × Value → H} {w : World} {base : Nat} {spare : Nat → Bool} {held : Bool}
/-- entries, their sizes bounded by the bulk -/
theorem open_entriesB (fuel : Nat) (cs : List Value) (x : DataW H × List MemPlace) (h : DataW.trod enc Tryd.prog w base spare held fuel 29 cs = some x) :
    ∃ (v : Value) (l : List Entry), cs = [v] ∧ EntriesAt w v l ∧ ∀ e ∈ l, e.id.size + 1 ≤ Rows.uptoBulk x.1 := by
  obtain ⟨A, len, cap, m, b, o, hm, rfl, hlc, hc, hA, hD, hel⟩ := open_cells Tryd.underlying29 cells_entry (by omega) h
  have key : ∀ i, i < len → ∃ n : Entry, EntryCells w b (o + i * 3) n ∧ n.id.size + 1 ≤ Rows.uptoBulk x.1 := by
    intro i hi
    obtain ⟨cs', y, hl', hat, hdi, hy⟩ := hel i hi
    obtain ⟨m', ys, hm', hyl, hyd, _, hf⟩ := open_fields Tryd.underlying46 (by kernel_rfl) (by kernel_rfl) hy
    obtain ⟨v0, y0, hv0, hy0, t0⟩ := hf 0 _ rfl
    obtain ⟨v1, y1, hv1, hy1, t1⟩ := hf 1 _ rfl
    obtain ⟨v2, y2, hv2, hy2, t2⟩ := hf 2 _ rfl
    obtain ⟨k, e0, z0, w0⟩ := DataW.trod_int Tryd.underlying3 t0
    obtain ⟨tx, e1, z1, w1⟩ := DataW.trod_string Tryd.underlying9 t1
    obtain ⟨ds, e2, z2, w2⟩ := DataW.trod_string Tryd.underlying9 t2
    simp only [List.cons.injEq, and_true] at e0 e1 e2
    subst e0 e1 e2
    refine ⟨⟨k, tx, ds⟩, ⟨(hat 0 (by omega)).trans hv0, (hat 1 (by omega)).trans hv1, (hat 2 (by omega)).trans hv2, I64.of_wf w0, w1, w2⟩, ?_⟩
    have hb1 := bulk_elems x.1
    have hb2 := bulk_mem (List.mem_of_getElem? hdi)
    match ys, hyl with
    | [a0, a1, a2], _ =>
      simp only [List.getElem?_cons_zero, List.getElem?_cons_succ, Option.some.injEq] at hy0 hy1 hy2
      subst hy0 hy1 hy2
      have hs1 : tx.data.toList.length = tx.size := by rw [Array.length_toList]; rfl
      rw [hyd] at hb2
      simp only [List.map_cons, List.map_nil, Rows.uptoBulk, Rows.uptoBulkAll, z0, z1, z2, hs1] at hb2
      show tx.size + 1 ≤ _
      omega
  obtain ⟨l, hll, hp⟩ := exists_list key
  refine ⟨_, l, rfl, ⟨A, cap, b, o, by rw [hll], by omega, hc, fun hne => hA ?_, fun i n hn => (hp i n hn).1⟩, fun e he => ?_⟩
  · rcases Nat.eq_zero_or_pos len with h0 | h0
    · exact absurd (List.eq_nil_of_length_eq_zero (by omega)) hne
    · exact h0
  · obtain ⟨i, hi⟩ := List.getElem?_of_mem he
    exact (hp i e hi).2
set_option maxRecDepth 100000 in
/-- an argument that is a content -/
theorem open_content {r : Reach} {b0 : Nat} {v : Value} {d : DataW H} {ps : List MemPlace} (hv : Value.okWide Tryd.prog w r b0 32 v) (h : DataW.Trod enc Tryd.prog w base spare held 32 v d ps) (hbk : Rows.uptoBulk d ≤ 1048576) :
    ∃ (html su pl : ByteArray) (A : Option Addr) (n c : Nat) (wd : Int) (A1 : Option Addr) (n1 c1 : Nat) (A2 : Option Addr) (n2 c2 : Nat) (l : List Entry), v = .agg (boxS html su pl A n c wd A1 n1 c1 A2 n2 c2) ∧ EntriesAt w (.slice A n c) l ∧ html.size ≤ 1073741824 ∧ ∀ e ∈ l, e.id.size ≤ 1048576 := by
  obtain ⟨cs, rfl, hsz⟩ := okWide_struct Tryd.underlying32 hv
  obtain ⟨fuel, hf⟩ := h
  obtain ⟨m', ys, hm', hyl, hyd, hcl, hfl⟩ := open_fields Tryd.underlying32 (by kernel_rfl) (by kernel_rfl) hf
  obtain ⟨v0, y0, hv0, hy0, t0⟩ := hfl 0 _ rfl
  obtain ⟨v1, y1, hv1, hy1, t1⟩ := hfl 1 _ rfl
  obtain ⟨v2, y2, hv2, hy2, t2⟩ := hfl 2 _ rfl
  obtain ⟨v3, y3, hv3, hy3, t3⟩ := hfl 3 _ rfl
  obtain ⟨v4, y4, hv4, hy4, t4⟩ := hfl 4 _ rfl
  obtain ⟨v5, y5, hv5, hy5, t5⟩ := hfl 5 _ rfl
  obtain ⟨v6, y6, hv6, hy6, t6⟩ := hfl 6 _ rfl
  obtain ⟨html, e0, z0, w0⟩ := DataW.trod_string Tryd.underlying9 t0
  obtain ⟨su, e1, z1, w1⟩ := DataW.trod_string Tryd.underlying9 t1
  obtain ⟨pl, e2, z2, w2⟩ := DataW.trod_string Tryd.underlying9 t2
  obtain ⟨cv, l, e3, hl, hw3⟩ := open_entriesB _ _ _ t3
  obtain ⟨wd, e4, z4, w4⟩ := DataW.trod_int Tryd.underlying3 t4
  have e5 : ∃ A n c, v5 = .slice A n c := by
    rcases DataW.trod_slice Tryd.underlying30 t5 with ⟨h4, _⟩ | ⟨a, len, cap, _, _, _, _, h4, _⟩
    · simp only [List.cons.injEq, and_true] at h4; exact ⟨_, _, _, h4⟩
    · simp only [List.cons.injEq, and_true] at h4; exact ⟨_, _, _, h4⟩
  have e6 : ∃ A n c, v6 = .slice A n c := by
    rcases DataW.trod_slice Tryd.underlying30 t6 with ⟨h4, _⟩ | ⟨a, len, cap, _, _, _, _, h4, _⟩
    · simp only [List.cons.injEq, and_true] at h4; exact ⟨_, _, _, h4⟩
    · simp only [List.cons.injEq, and_true] at h4; exact ⟨_, _, _, h4⟩
  obtain ⟨A1, n1, c1, rfl⟩ := e5
  obtain ⟨A2, n2, c2, rfl⟩ := e6
  simp only [List.cons.injEq, and_true] at e0 e1 e2 e3 e4
  subst e0 e1 e2 e3 e4
  obtain ⟨A, c, b, o, rfl, _, _, _, _⟩ := id hl
  refine ⟨html, su, pl, A, l.length, c, wd, A1, n1, c1, A2, n2, c2, l, ?_, hl, ?_, ?_⟩
  · obtain ⟨cl⟩ := cs
    simp only [Value.cells] at hv0 hv1 hv2 hv3 hv4 hv5 hv6 hcl
    match cl, hcl with
    | [a0, a1, a2, a3, a4, a5, a6], _ =>
      simp only [List.getElem?_cons_zero, List.getElem?_cons_succ, Option.some.injEq] at hv0 hv1 hv2 hv3 hv4 hv5 hv6
      subst hv0 hv1 hv2 hv3 hv4 hv5 hv6
      rfl
  all_goals
    match ys, hyl with
    | [a0, a1, a2, a3, a4, a5, a6], _ =>
      simp only [List.getElem?_cons_zero, List.getElem?_cons_succ, Option.some.injEq] at hy0 hy1 hy2 hy3 hy4 hy5 hy6
      subst hy0 hy1 hy2 hy3 hy4 hy5 hy6
      have hs0 : html.data.toList.length = html.size := by rw [Array.length_toList]; rfl
      have hyd : d = _ := hyd
      rw [hyd] at hbk
      simp only [List.map_cons, List.map_nil, Rows.uptoBulk, Rows.uptoBulkAll, z0, hs0] at hbk
      first
        | omega
        | (intro e he
           have := hw3 e he
           omega)
end

theorem tab_of_laid {W : World} (h : laidMet Tryd.prog Rows.pageSectionsUptoRow.laid W) : TabOk W := by
  obtain ⟨ps, hv, _, _⟩ := h
  obtain ⟨_, _, _, _, _, _, _, _, _, _, hv2, _⟩ := hv
  obtain ⟨_, _, _, _, _, _, _, _, _, _, hv3, _⟩ := hv2
  obtain ⟨g', t', cs, fuel, p, q, hg', ht', hvar, hd, _, _⟩ := hv3
  obtain rfl := Option.some.inj ((show Tryd.prog.globalNamed "internal/strconv.uint64pow10" = some 3 by kernel_rfl).symm.trans hg')
  obtain rfl := Option.some.inj ((show (Tryd.prog.globals[3]?).map (·.type) = some 180 by kernel_rfl).symm.trans ht')
  unfold TabOk Lib.TabIs
  rw [hvar, ← Lib.cells_of_tab (k := .u64) (zs := Lib.pow10Tab) Tryd.underlying180 Tryd.underlying150 (by kernel_rfl) (by kernel_rfl) hd]

set_option maxRecDepth 100000 in
theorem pageSections_calls (H : Type) (enc : TypeId × Value → H) (W : World) (base : Nat) (args : Array Value) (ds gs : List (DataW H)) (before : List MemPlace)
    (hval : ∀ (j : Nat) t v, Tryd.f5.params[j]? = some t → args[j]? = some v → Value.okWide Tryd.prog W .any base t v)
    (hW : DataW.Whole enc Tryd.prog Tryd.f5.params.toList Rows.pageSectionsSpec.vars false W args.toList ds gs before) (hk : Rows.uptoSmall H (ds ++ gs) = true) (hsh : W.ShapedOpen Tryd.checked.prog) (hTab : TabOk W) :
    Calls Tryd.prog 5 args W fun e W' => ∃ v, e = .returned v ∧ Rows.pageSectionsSpec.post enc Tryd.prog Tryd.f5 false true false false W args v W' := by
  have hW' := hW
  obtain ⟨p, q, hA0, hV, rfl, hfz, hnd⟩ := hW
  have hA : DataW.TrodAll enc Tryd.prog W 0 (fun _ => true) true Tryd.f5.params.toList args.toList ds p := hA0
  rw [Tryd.params5] at hA hval
  obtain ⟨v0, v1, d0, d1, p0, p1, rfl, rfl, rfl, h0, h1⟩ := trodAll_two hA
  obtain ⟨rfl, rfl⟩ := trodVars_none hV
  have hbulk : Rows.uptoBulkAll ([d0, d1]) ≤ 1048576 := of_decide_eq_true (by simpa [Rows.uptoSmall] using hk)
  obtain ⟨html0, su0, pl0, A0, m0, c0, wd0, A1, m1, c1, A2, m2, c2, l0, rfl, n0, z0, i0⟩ := open_content (hval 0 32 v0 rfl rfl) h0 (by have := bulk_mem (show d0 ∈ [d0, d1] by simp); omega)
  obtain ⟨s1, rfl, hd1, _, hs1⟩ := Go.ChangeMaps.open_string Tryd.underlying9 (hval 1 9 v1 rfl rfl) h1
  refine (pageSections_walk html0 su0 pl0 l0 A0 m0 c0 wd0 A1 m1 c1 A2 m2 c2 s1 W hsh hTab n0 z0 i0).mono fun e W' ⟨he, hb⟩ => ?_
  subst he
  refine ⟨_, rfl, law_post rfl rfl (tb := 4) (by kernel_rfl) Tryd.underlying4 ?_ hW' hb⟩
  rw [Tryd.params5]
  intro t ht
  simp only [List.mem_cons, List.not_mem_nil, or_false] at ht
  rcases ht with rfl | rfl
  · exact ⟨by kernel_rfl, of_decide_eq_true (by kernel_rfl)⟩
  · exact ⟨by kernel_rfl, of_decide_eq_true (by kernel_rfl)⟩

set_option maxRecDepth 100000 in
theorem pageSections_met (os : Os) : laidMet Tryd.prog Rows.pageSectionsUptoRow.laid ((World.laidAll Tryd.prog os Rows.pageSectionsUptoRow.laid).forCall (fun _ _ => 0) ⟨#[], #[.agg #[.string ⟨#[]⟩, .string ⟨#[]⟩, .string ⟨#[]⟩, .slice none 0 0, .int .i64 0, .slice none 0 0, .slice none 0 0], .string ⟨#[]⟩], []⟩).memory :=
  laidMet_laidAll _ (by kernel_rfl) (by kernel_rfl)

theorem pageSections_reads (os : Os) {H : Type} (enc : TypeId × Value → H) : ∃ places, DataW.whole enc Tryd.prog ((World.laidAll Tryd.prog os Rows.pageSectionsUptoRow.laid).forCall (fun _ _ => 0) ⟨#[], #[.agg #[.string ⟨#[]⟩, .string ⟨#[]⟩, .string ⟨#[]⟩, .slice none 0 0, .int .i64 0, .slice none 0 0, .slice none 0 0], .string ⟨#[]⟩], []⟩).memory Tryd.f5.params.toList Rows.pageSectionsSpec.vars false (#[(.agg #[.string ⟨#[]⟩, .string ⟨#[]⟩, .string ⟨#[]⟩, .slice none 0 0, .int .i64 0, .slice none 0 0, .slice none 0 0] : Value), (.string ⟨#[]⟩ : Value)] : Array Value).toList 8 = some ([.agg [.lit (.string []), .lit (.string []), .lit (.string []), .nil, .lit (.int .i64 0), .nil, .nil], .lit (.string [])], [], places) :=
  ⟨[], by kernel_rfl⟩

set_option maxRecDepth 100000 in
theorem pageSections_lifted (os : Os) (started : os.Started) (H : Type) (enc : TypeId × Value → H) (F : Stop.Interp) :
    ReturnsInHanded {} Tryd.checked os 5 .any ((Rows.OpenSpec.upto Rows.pageSectionsSpec).preRow enc Tryd.prog Tryd.f5 Rows.pageSectionsUptoRow.domain false Rows.pageSectionsUptoRow.laid) (((Rows.OpenSpec.upto Rows.pageSectionsSpec).at F).post enc Tryd.prog Tryd.f5 false true false false) := by
  obtain ⟨places, hx⟩ := pageSections_reads os enc
  refine returnsInHanded_of_row (C := Tryd.checked) (s := (Rows.OpenSpec.upto Rows.pageSectionsSpec)) own started (by kernel_rfl) Tryd.func5
    (witness_row_at (enc := enc) (C := Tryd.checked) false (World.laidAll Tryd.prog os Rows.pageSectionsUptoRow.laid) #[.agg #[.string ⟨#[]⟩, .string ⟨#[]⟩, .string ⟨#[]⟩, .slice none 0 0, .int .i64 0, .slice none 0 0, .slice none 0 0], .string ⟨#[]⟩] (World.laidAll_os _ _ _) (by kernel_rfl) (by kernel_rfl) (by kernel_rfl)
      (OpenSpec.preRow_of_cond 8 hx (by kernel_rfl) (fun k hk => by cases hk; kernel_rfl) (by kernel_rfl) (pageSections_met os))) ?_
  intro W base args ds gs before hval hW _ hk _ hL hsh _
  exact pageSections_calls H enc W base args ds gs before hval hW (hk _ rfl) hsh (tab_of_laid hL)

theorem pageSections_said : Rows.PageSectionsUptoSaid :=
  OpenClaim.holds_of_cond 5 Tryd.f5 rfl rfl rfl rfl rfl rfl rfl ⟨rfl, rfl, rfl, rfl, rfl⟩ rfl rfl rfl rfl rfl (by kernel_rfl) Tryd.func5 (by kernel_rfl)
    (of_decide_eq_true (by kernel_rfl)) (by unfold Func.isWrapper; first | (rw [if_pos (by decide +kernel)]; kernel_rfl) | (rw [if_neg (by decide +kernel)]; exact ⟨rfl, rfl⟩))
    (fun os started H enc _ F => by rw [OpenClaim.pre_eq_preRow]; exact pageSections_lifted os started H enc F)

theorem pageSections_plain (f : FuncId) (fn : Func) (hf : Tryd.pinned.checked.prog.funcNamed "masthead/mastlaw1.PageSections" = some f) (hfn : Tryd.pinned.checked.prog.funcs[f]? = some fn) :
    false = Tryd.pinned.checked.prog.looks [] ∧ ∀ (j : Nat) t, fn.params[j]? = some t → Tryd.pinned.checked.prog.wantsStandIn t = false := by
  obtain rfl : f = 5 := Option.some.inj ((show Tryd.prog.funcNamed "masthead/mastlaw1.PageSections" = some 5 by kernel_rfl).symm.trans hf) |>.symm
  obtain rfl : fn = Tryd.f5 := (Option.some.inj (Tryd.func5.symm.trans hfn)).symm
  refine ⟨by kernel_rfl, fun j t ht => ?_⟩
  rw [Tryd.params5] at ht
  have h2 := Array.mem_of_getElem? ht
  simp at h2
  rcases h2 with rfl | rfl
  · exact (show Tryd.prog.wantsStandIn 32 = false by kernel_rfl)
  · exact (show Tryd.prog.wantsStandIn 9 = false by kernel_rfl)

theorem pageSections_card : Rows.PageSectionsUptoCardSaid :=
  Claim7.holds_tied_plain_at .later [] _ _ _ _ pageSections_said (fun _ h => by cases h) (by kernel_rfl) (fun _ h => by cases h) pageSectionsUpto_row_tie rfl ⟨rfl, rfl⟩ (by kernel_rfl) rfl pageSections_plain (by kernel_rfl)

end Go.Proofs.YtebhbgamdhjdkaaDoor
