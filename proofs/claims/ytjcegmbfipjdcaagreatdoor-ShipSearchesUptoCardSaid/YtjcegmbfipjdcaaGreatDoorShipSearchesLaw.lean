/-
  ShipSearches is proved, in its second form: for all indexes and queries whose reading stays below the given bound, and all numbers of hits, Search finds what the reference finds, or has its error.
-/
import Derived.Test.YtjcegmbfipjdcaaGreatDoorSearchLaw
import Derived.Test.YtjcegmbfipjdcaaGreatDoorIdxOpen
import Derived.Test.YtjcegmbfipjdcaaGreatDoorLaw
import Derived.Test.YtjcegmbfipjdcaaGreatDoorCards
import Derived.Test.YtjcegmbfipjdcaaGreatDoorTie
import Derived.OpenShut
import Derived.Deep.DeepHandedRow
import Derived.Lib.LaidTab
import Derived.Lay
namespace Go.Proofs.YtjcegmbfipjdcaaGreatDoor
open Go.RowKit Go.ChangeShapes Go.WideShapes Go.ChangeAt Go.Deep

theorem maxLen_at {W : World} (h : W.ShapedOpen Tryz.prog) : ∃ m, W.cell? ⟨1, 0, none⟩ = some (.int .i64 m) := (Tryz.laysM146).s1_3 W h
theorem docsW_mem {D : List DocR} {d : DocR} (h : d ∈ D) : d.addr.size + d.title.size + 1 ≤ docsW D := by
  induction D with
  | nil => cases h
  | cons y r ih =>
    have e : docsW (y :: r) = y.addr.size + y.title.size + 1 + docsW r := by simp [docsW, sumBy]
    rw [e]
    rcases List.mem_cons.1 h with rfl | h
    · omega
    · have := ih h; omega
theorem termsW_mem {D : List TermR} {d : TermR} (h : d ∈ D) : d.word.size + d.docs.length + 1 ≤ termsW D := by
  induction D with
  | nil => cases h
  | cons y r ih =>
    have e : termsW (y :: r) = y.word.size + y.docs.length + 1 + termsW r := by simp [termsW, sumBy]
    rw [e]
    rcases List.mem_cons.1 h with rfl | h
    · omega
    · have := ih h; omega

set_option maxRecDepth 100000 in
theorem tab_of_laid {W : World} (h : laidMet Tryz.prog Rows.shipSearchesUptoRow.laid W) : TabOk W := by
  obtain ⟨ps, hv, _, _⟩ := h
  obtain ⟨_, _, _, _, _, _, _, _, _, _, hv2, _⟩ := hv
  obtain ⟨_, _, _, _, _, _, _, _, _, _, hv3, _⟩ := hv2
  obtain ⟨g', t', cs, fuel, p, q, hg', ht', hvar, hd, _, _⟩ := hv3
  obtain rfl := Option.some.inj ((show Tryz.prog.globalNamed "internal/strconv.uint64pow10" = some 0 by kernel_rfl).symm.trans hg')
  obtain rfl := Option.some.inj ((show (Tryz.prog.globals[0]?).map (·.type) = some 193 by kernel_rfl).symm.trans ht')
  unfold TabOk Lib.TabIs
  rw [hvar, ← Lib.cells_of_tab (k := .u64) (zs := Lib.pow10Tab) Tryz.underlying193 Tryz.underlying159 (by kernel_rfl) (by kernel_rfl) hd]

theorem bulk_str3 {H : Type} {d0 d1 d2 : DataW H} {t : ByteArray} (h1 : d1 = .lit (.string t.data.toList)) (h : Rows.uptoBulkAll [d0, d1, d2] ≤ 1048576) : t.size ≤ 1048576 := by
  subst h1
  simp only [Rows.uptoBulkAll, Rows.uptoBulk, size_toList] at h
  omega

set_option maxRecDepth 100000 in
theorem shipSearches_calls (H : Type) (enc : TypeId × Value → H) (W : World) (base : Nat) (args : Array Value) (ds gs : List (DataW H)) (before : List MemPlace)
    (hval : ∀ (j : Nat) t v, Tryz.f4.params[j]? = some t → args[j]? = some v → Value.okWide Tryz.prog W .any base t v)
    (hW : DataW.Whole enc Tryz.prog Tryz.f4.params.toList Rows.shipSearchesSpec.vars false W args.toList ds gs before) (hk : Rows.uptoSmall H (ds ++ gs) = true) (hsh : W.ShapedOpen Tryz.checked.prog) (hTab : TabOk W) :
    Calls Tryz.prog 4 args W fun e W' => ∃ v, e = .returned v ∧ Rows.shipSearchesSpec.post enc Tryz.prog Tryz.f4 false true false false W args v W' := by
  have hW' := hW
  obtain ⟨p, q, hA0, hV, rfl, hfz, hnd⟩ := hW
  have hA : DataW.TrodAll enc Tryz.prog W 0 (fun _ => true) true Tryz.f4.params.toList args.toList ds p := hA0
  rw [Tryz.params4] at hA hval
  obtain ⟨v0, v1, v2, d0, d1, d2, p0, p1, p2, rfl, rfl, rfl, h0, h1, h2⟩ := trodAll_three hA
  obtain ⟨rfl, rfl⟩ := trodVars_none hV
  have hbulk : Rows.uptoBulkAll ([d0, d1, d2]) ≤ 1048576 := of_decide_eq_true (by simpa [Rows.uptoSmall] using hk)
  have bk0 : Rows.uptoBulk d0 ≤ 1048576 := by have := bulk_mem (show d0 ∈ [d0, d1, d2] by simp); omega
  obtain ⟨dv0, sv0, tv0, D0, S0, T0, rfl, n0, z0⟩ := open_index (hval 0 33 v0 rfl rfl) h0
  obtain ⟨s1, rfl, hd1, _, hs1⟩ := Go.ChangeMaps.open_string Tryz.underlying9 (hval 1 9 v1 rfl rfl) h1
  obtain ⟨x2, rfl, hd2, _, x2w⟩ := open_int Tryz.underlying3 (hval 2 3 v2 rfl rfl) h2
  refine (shipSearches_walk D0 S0 T0 dv0 sv0 tv0 s1 x2 W n0 (fun d hd => by have := docsW_mem hd; omega) (fun t ht => by have := termsW_mem ht; omega) (by have := n0.len; omega) hTab (maxLen_at hsh) (bulk_str3 hd1 hbulk)).mono fun e W' ⟨he, hb⟩ => ?_
  subst he
  refine ⟨_, rfl, law_post rfl rfl (tb := 4) (by kernel_rfl) Tryz.underlying4 ?_ hW' hb⟩
  rw [Tryz.params4]
  intro t ht
  simp only [List.mem_cons, List.not_mem_nil, or_false] at ht
  rcases ht with rfl | rfl | rfl <;> exact ⟨by kernel_rfl, of_decide_eq_true (by kernel_rfl)⟩

set_option maxRecDepth 100000 in
theorem shipSearches_met (os : Os) : laidMet Tryz.prog Rows.shipSearchesUptoRow.laid ((World.laidAll Tryz.prog os Rows.shipSearchesUptoRow.laid).forCall (fun _ _ => 0) ⟨#[], #[.agg #[.slice none 0 0, .slice none 0 0, .slice none 0 0], .string ⟨#[]⟩, .int .i64 0], []⟩).memory :=
  laidMet_laidAll _ (by kernel_rfl) (by kernel_rfl)

theorem shipSearches_reads (os : Os) {H : Type} (enc : TypeId × Value → H) : ∃ places, DataW.whole enc Tryz.prog ((World.laidAll Tryz.prog os Rows.shipSearchesUptoRow.laid).forCall (fun _ _ => 0) ⟨#[], #[.agg #[.slice none 0 0, .slice none 0 0, .slice none 0 0], .string ⟨#[]⟩, .int .i64 0], []⟩).memory Tryz.f4.params.toList Rows.shipSearchesSpec.vars false (#[(.agg #[.slice none 0 0, .slice none 0 0, .slice none 0 0] : Value), (.string ⟨#[]⟩ : Value), (.int .i64 0 : Value)] : Array Value).toList 8 = some ([.agg [.nil, .nil, .nil], .lit (.string []), .lit (.int .i64 0)], [], places) :=
  ⟨[], by kernel_rfl⟩

set_option maxRecDepth 100000 in
theorem shipSearches_lifted (os : Os) (started : os.Started) (H : Type) (enc : TypeId × Value → H) (F : Stop.Interp) :
    ReturnsInHanded {} Tryz.checked os 4 .any ((Rows.OpenSpec.upto Rows.shipSearchesSpec).preRow enc Tryz.prog Tryz.f4 Rows.shipSearchesUptoRow.domain false Rows.shipSearchesUptoRow.laid) (((Rows.OpenSpec.upto Rows.shipSearchesSpec).at F).post enc Tryz.prog Tryz.f4 false true false false) := by
  obtain ⟨places, hx⟩ := shipSearches_reads os enc
  refine returnsInHanded_of_row (C := Tryz.checked) (s := (Rows.OpenSpec.upto Rows.shipSearchesSpec)) own started (by kernel_rfl) Tryz.func4
    (witness_row_at (enc := enc) (C := Tryz.checked) false (World.laidAll Tryz.prog os Rows.shipSearchesUptoRow.laid) #[.agg #[.slice none 0 0, .slice none 0 0, .slice none 0 0], .string ⟨#[]⟩, .int .i64 0] (World.laidAll_os _ _ _) (by kernel_rfl) (by kernel_rfl) (by kernel_rfl)
      (OpenSpec.preRow_of_cond 8 hx (by kernel_rfl) (fun k hk => by cases hk; kernel_rfl) (by kernel_rfl) (shipSearches_met os))) ?_
  intro W base args ds gs before hval hW _ hk _ hL hsh _
  exact shipSearches_calls H enc W base args ds gs before hval hW (hk _ rfl) hsh (tab_of_laid hL)

theorem shipSearches_said : Rows.ShipSearchesUptoSaid :=
  OpenClaim.holds_of_cond 4 Tryz.f4 rfl rfl rfl rfl rfl rfl rfl ⟨rfl, rfl, rfl, rfl, rfl⟩ rfl rfl rfl rfl rfl (by kernel_rfl) Tryz.func4 (by kernel_rfl)
    (of_decide_eq_true (by kernel_rfl)) (by unfold Func.isWrapper; first | (rw [if_pos (by decide +kernel)]; kernel_rfl) | (rw [if_neg (by decide +kernel)]; exact ⟨rfl, rfl⟩))
    (fun os started H enc _ F => by rw [OpenClaim.pre_eq_preRow]; exact shipSearches_lifted os started H enc F)

theorem shipSearches_plain (f : FuncId) (fn : Func) (hf : Tryz.pinned.checked.prog.funcNamed "masthead/mastlaw1.ShipSearches" = some f) (hfn : Tryz.pinned.checked.prog.funcs[f]? = some fn) :
    true = Tryz.pinned.checked.prog.looks [] ∧ ∀ (j : Nat) t, fn.params[j]? = some t → Tryz.pinned.checked.prog.wantsStandIn t = false := by
  obtain rfl : f = 4 := Option.some.inj ((show Tryz.prog.funcNamed "masthead/mastlaw1.ShipSearches" = some 4 by kernel_rfl).symm.trans hf) |>.symm
  obtain rfl : fn = Tryz.f4 := (Option.some.inj (Tryz.func4.symm.trans hfn)).symm
  refine ⟨by kernel_rfl, fun j t ht => ?_⟩
  rw [Tryz.params4] at ht
  have h2 := Array.mem_of_getElem? ht
  simp at h2
  rcases h2 with rfl | rfl | rfl
  · exact (show Tryz.prog.wantsStandIn 33 = false by kernel_rfl)
  · exact (show Tryz.prog.wantsStandIn 9 = false by kernel_rfl)
  · exact (show Tryz.prog.wantsStandIn 3 = false by kernel_rfl)

theorem shipSearches_card : Rows.ShipSearchesUptoCardSaid :=
  Claim7.holds_tied_plain_at .later [] _ _ _ _ shipSearches_said (fun _ h => by cases h) (by kernel_rfl) (fun _ h => by cases h) shipSearchesUpto_row_tie rfl ⟨rfl, rfl⟩ (by kernel_rfl) rfl shipSearches_plain (by kernel_rfl)

end Go.Proofs.YtjcegmbfipjdcaaGreatDoor
