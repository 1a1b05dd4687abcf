/-
  ShipWrites is proved, in its second form: for all indexes whose reading stays below the given bound, IndexText writes what the reference writes, or has its error.
-/
import Derived.Test.YtgelieahmfahgaaDoorIdxTop
import Derived.Test.YtgelieahmfahgaaDoorIdxOpen
import Derived.Test.YtgelieahmfahgaaDoorLaw
import Derived.Test.YtgelieahmfahgaaDoorCards
import Derived.Test.YtgelieahmfahgaaDoorTie
import Derived.OpenShut
import Derived.Deep.DeepHandedRow
import Derived.Lib.LaidTab
import Derived.Lay
namespace Go.Proofs.YtgelieahmfahgaaDoor
open Go.RowKit Go.ChangeShapes Go.WideShapes Go.ChangeAt Go.Deep

theorem maxLen_at {W : World} (h : W.ShapedOpen Tryd.prog) : ∃ m, W.cell? ⟨0, 0, none⟩ = some (.int .i64 m) := (Tryd.laysM146).s1_3 W h
theorem docsW_mem {D : List DocR} {d : DocR} (h : d ∈ D) : d.addr.size + d.title.size + 1 ≤ docsW D := by
  induction D with
  | nil => cases h
  | cons y r ih =>
    have e : docsW (y :: r) = y.addr.size + y.title.size + 1 + docsW r := by simp [docsW, sumBy]
    rw [e]
    rcases List.mem_cons.1 h with rfl | h
    · omega
    · have := ih h; omega
theorem termsW_mem {D : List TermR} {d : TermR} (h : d ∈ D) : d.word.size + d.docs.length + 1 ≤ termsW D := by
  induction D with
  | nil => cases h
  | cons y r ih =>
    have e : termsW (y :: r) = y.word.size + y.docs.length + 1 + termsW r := by simp [termsW, sumBy]
    rw [e]
    rcases List.mem_cons.1 h with rfl | h
    · omega
    · have := ih h; omega

set_option maxRecDepth 100000 in
theorem tab_of_laid {W : World} (h : laidMet Tryd.prog Rows.shipWritesUptoRow.laid W) : TabOk W := by
  obtain ⟨ps, hv, _, _⟩ := h
  obtain ⟨_, _, _, _, _, _, _, _, _, _, hv2, _⟩ := hv
  obtain ⟨_, _, _, _, _, _, _, _, _, _, hv3, _⟩ := hv2
  obtain ⟨g', t', cs, fuel, p, q, hg', ht', hvar, hd, _, _⟩ := hv3
  obtain rfl := Option.some.inj ((show Tryd.prog.globalNamed "internal/strconv.uint64pow10" = some 1 by kernel_rfl).symm.trans hg')
  obtain rfl := Option.some.inj ((show (Tryd.prog.globals[1]?).map (·.type) = some 170 by kernel_rfl).symm.trans ht')
  unfold TabOk Lib.TabIs
  rw [hvar, ← Lib.cells_of_tab (k := .u64) (zs := Lib.pow10Tab) Tryd.underlying170 Tryd.underlying148 (by kernel_rfl) (by kernel_rfl) hd]

set_option maxRecDepth 100000 in
theorem shipWrites_calls (H : Type) (enc : TypeId × Value → H) (W : World) (base : Nat) (args : Array Value) (ds gs : List (DataW H)) (before : List MemPlace)
    (hval : ∀ (j : Nat) t v, Tryd.f3.params[j]? = some t → args[j]? = some v → Value.okWide Tryd.prog W .any base t v)
    (hW : DataW.Whole enc Tryd.prog Tryd.f3.params.toList Rows.shipWritesSpec.vars false W args.toList ds gs before) (hk : Rows.uptoSmall H (ds ++ gs) = true) (hsh : W.ShapedOpen Tryd.checked.prog) (hTab : TabOk W) :
    Calls Tryd.prog 3 args W fun e W' => ∃ v, e = .returned v ∧ Rows.shipWritesSpec.post enc Tryd.prog Tryd.f3 false true false false W args v W' := by
  have hW' := hW
  obtain ⟨p, q, hA0, hV, rfl, hfz, hnd⟩ := hW
  have hA : DataW.TrodAll enc Tryd.prog W 0 (fun _ => true) true Tryd.f3.params.toList args.toList ds p := hA0
  rw [Tryd.params3] at hA hval
  obtain ⟨v0, d0, rfl, rfl, h0⟩ := trodAll_one hA
  obtain ⟨rfl, rfl⟩ := trodVars_none hV
  have hbulk : Rows.uptoBulkAll ([d0]) ≤ 1048576 := of_decide_eq_true (by simpa [Rows.uptoSmall] using hk)

  have bk0 : Rows.uptoBulk d0 ≤ 1048576 := by have := bulk_mem (show d0 ∈ [d0] by simp); omega
  obtain ⟨dv0, sv0, tv0, D0, S0, T0, rfl, n0, z0⟩ := open_index (hval 0 26 v0 rfl rfl) h0
  refine (shipWrites_walk D0 S0 T0 dv0 sv0 tv0 W n0 (fun d hd => by have := docsW_mem hd; omega) (fun t ht => by have := termsW_mem ht; omega) (by have := n0.len; omega) hTab (maxLen_at hsh)).mono fun e W' ⟨he, hb⟩ => ?_
  subst he
  refine ⟨_, rfl, law_post rfl rfl (tb := 4) (by kernel_rfl) Tryd.underlying4 ?_ hW' hb⟩
  rw [Tryd.params3]
  intro t ht
  simp only [List.mem_cons, List.not_mem_nil, or_false] at ht
  subst ht
  exact ⟨by kernel_rfl, of_decide_eq_true (by kernel_rfl)⟩

set_option maxRecDepth 100000 in
theorem shipWrites_met (os : Os) : laidMet Tryd.prog Rows.shipWritesUptoRow.laid ((World.laidAll Tryd.prog os Rows.shipWritesUptoRow.laid).forCall (fun _ _ => 0) ⟨#[], #[.agg #[.slice none 0 0, .slice none 0 0, .slice none 0 0]], []⟩).memory :=
  laidMet_laidAll _ (by kernel_rfl) (by kernel_rfl)

theorem shipWrites_reads (os : Os) {H : Type} (enc : TypeId × Value → H) : ∃ places, DataW.whole enc Tryd.prog ((World.laidAll Tryd.prog os Rows.shipWritesUptoRow.laid).forCall (fun _ _ => 0) ⟨#[], #[.agg #[.slice none 0 0, .slice none 0 0, .slice none 0 0]], []⟩).memory Tryd.f3.params.toList Rows.shipWritesSpec.vars false (#[(.agg #[.slice none 0 0, .slice none 0 0, .slice none 0 0] : Value)] : Array Value).toList 8 = some ([.agg [.nil, .nil, .nil]], [], places) :=
  ⟨[], by kernel_rfl⟩

set_option maxRecDepth 100000 in
theorem shipWrites_lifted (os : Os) (started : os.Started) (H : Type) (enc : TypeId × Value → H) (F : Stop.Interp) :
    ReturnsInHanded {} Tryd.checked os 3 .any ((Rows.OpenSpec.upto Rows.shipWritesSpec).preRow enc Tryd.prog Tryd.f3 Rows.shipWritesUptoRow.domain false Rows.shipWritesUptoRow.laid) (((Rows.OpenSpec.upto Rows.shipWritesSpec).at F).post enc Tryd.prog Tryd.f3 false true false false) := by
  obtain ⟨places, hx⟩ := shipWrites_reads os enc
  refine returnsInHanded_of_row (C := Tryd.checked) (s := (Rows.OpenSpec.upto Rows.shipWritesSpec)) own started (by kernel_rfl) Tryd.func3
    (witness_row_at (enc := enc) (C := Tryd.checked) false (World.laidAll Tryd.prog os Rows.shipWritesUptoRow.laid) #[.agg #[.slice none 0 0, .slice none 0 0, .slice none 0 0]] (World.laidAll_os _ _ _) (by kernel_rfl) (by kernel_rfl) (by kernel_rfl)
      (OpenSpec.preRow_of_cond 8 hx (by kernel_rfl) (fun k hk => by cases hk; kernel_rfl) (by kernel_rfl) (shipWrites_met os))) ?_
  intro W base args ds gs before hval hW _ hk _ hL hsh _
  exact shipWrites_calls H enc W base args ds gs before hval hW (hk _ rfl) hsh (tab_of_laid hL)

theorem shipWrites_said : Rows.ShipWritesUptoSaid :=
  OpenClaim.holds_of_cond 3 Tryd.f3 rfl rfl rfl rfl rfl rfl rfl ⟨rfl, rfl, rfl, rfl, rfl⟩ rfl rfl rfl rfl rfl (by kernel_rfl) Tryd.func3 (by kernel_rfl)
    (of_decide_eq_true (by kernel_rfl)) (by unfold Func.isWrapper; first | (rw [if_pos (by decide +kernel)]; kernel_rfl) | (rw [if_neg (by decide +kernel)]; exact ⟨rfl, rfl⟩))
    (fun os started H enc _ F => by rw [OpenClaim.pre_eq_preRow]; exact shipWrites_lifted os started H enc F)

theorem shipWrites_plain (f : FuncId) (fn : Func) (hf : Tryd.pinned.checked.prog.funcNamed "masthead/mastlaw1.ShipWrites" = some f) (hfn : Tryd.pinned.checked.prog.funcs[f]? = some fn) :
    true = Tryd.pinned.checked.prog.looks [] ∧ ∀ (j : Nat) t, fn.params[j]? = some t → Tryd.pinned.checked.prog.wantsStandIn t = false := by
  obtain rfl : f = 3 := Option.some.inj ((show Tryd.prog.funcNamed "masthead/mastlaw1.ShipWrites" = some 3 by kernel_rfl).symm.trans hf) |>.symm
  obtain rfl : fn = Tryd.f3 := (Option.some.inj (Tryd.func3.symm.trans hfn)).symm
  refine ⟨by kernel_rfl, fun j t ht => ?_⟩
  rw [Tryd.params3] at ht
  have h2 := Array.mem_of_getElem? ht
  simp at h2
  subst h2
  exact (show Tryd.prog.wantsStandIn 26 = false by kernel_rfl)

theorem shipWrites_card : Rows.ShipWritesUptoCardSaid :=
  Claim7.holds_tied_plain_at .later [] _ _ _ _ shipWrites_said (fun _ h => by cases h) (by kernel_rfl) (fun _ h => by cases h) shipWritesUpto_row_tie rfl ⟨rfl, rfl⟩ (by kernel_rfl) rfl shipWrites_plain (by kernel_rfl)

end Go.Proofs.YtgelieahmfahgaaDoor
