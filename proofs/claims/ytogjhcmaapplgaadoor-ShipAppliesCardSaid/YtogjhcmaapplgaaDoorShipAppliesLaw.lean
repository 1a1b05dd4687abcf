/-
  ShipApplies is proved: for all outputs and steps Apply gives the outputs that the reference gives, or has its error. No condition.
-/
import Derived.Test.YtogjhcmaapplgaaDoorApLaw
import Derived.Test.YtogjhcmaapplgaaDoorLaw
import Derived.Test.YtogjhcmaapplgaaDoorCards
import Derived.Test.YtogjhcmaapplgaaDoorTie
import Derived.OpenShut
import Derived.Deep.DeepHandedRow
import Derived.Lib.LaidTab
import Derived.Lay
namespace Go.Proofs.YtogjhcmaapplgaaDoor
open Go.RowKit Go.ChangeShapes Go.WideShapes Go.ChangeAt Go.Deep

theorem maxLen_at {W : World} (h : W.ShapedOpen Tryd.prog) : ∃ m, W.cell? ⟨0, 0, none⟩ = some (.int .i64 m) := (Tryd.laysM146).s1_3 W h
set_option maxRecDepth 100000 in
theorem shipApplies_calls (H : Type) (enc : TypeId × Value → H) (W : World) (base : Nat) (args : Array Value) (ds gs : List (DataW H)) (before : List MemPlace)
    (hval : ∀ (j : Nat) t v, Tryd.f3.params[j]? = some t → args[j]? = some v → Value.okWide Tryd.prog W .any base t v)
    (hW : DataW.Whole enc Tryd.prog Tryd.f3.params.toList Rows.shipAppliesSpec.vars false W args.toList ds gs before) (hsh : W.ShapedOpen Tryd.checked.prog) :
    Calls Tryd.prog 3 args W fun e W' => ∃ v, e = .returned v ∧ Rows.shipAppliesSpec.post enc Tryd.prog Tryd.f3 false true false false W args v W' := by
  have hW' := hW
  obtain ⟨p, q, hA0, hV, rfl, hfz, hnd⟩ := hW
  have hA : DataW.TrodAll enc Tryd.prog W 0 (fun _ => true) true Tryd.f3.params.toList args.toList ds p := hA0
  rw [Tryd.params3] at hA hval
  obtain ⟨v0, v1, d0, d1, p0, p1, rfl, rfl, rfl, h0, h1⟩ := trodAll_two hA
  obtain ⟨rfl, rfl⟩ := trodVars_none hV
  obtain ⟨fu0, g0⟩ := h0
  obtain ⟨u0, l0, e0, n0⟩ := open_outs _ _ _ g0
  obtain ⟨a0, len0, cap0, rfl⟩ := okWide_slice Tryd.underlying22 (hval 0 22 v0 rfl rfl)
  simp only [Value.cells, List.cons.injEq, and_true] at e0
  subst e0
  obtain ⟨rm1, fv1, F1, rfl, n1⟩ := open_step (hval 1 24 v1 rfl rfl) h1
  refine (shipApplies_walk l0 F1 _ _ rm1 W n0 n1 (maxLen_at hsh)).mono fun e W' ⟨he, hb⟩ => ?_
  subst he
  refine ⟨_, rfl, law_post rfl rfl (tb := 4) (by kernel_rfl) Tryd.underlying4 ?_ hW' hb⟩
  rw [Tryd.params3]
  intro t ht
  simp only [List.mem_cons, List.not_mem_nil, or_false] at ht
  rcases ht with rfl | rfl
  · exact ⟨by kernel_rfl, of_decide_eq_true (by kernel_rfl)⟩
  · exact ⟨by kernel_rfl, of_decide_eq_true (by kernel_rfl)⟩

set_option maxRecDepth 100000 in
theorem shipApplies_met (os : Os) : laidMet Tryd.prog Rows.shipAppliesRow.laid ((World.laidAll Tryd.prog os Rows.shipAppliesRow.laid).forCall (fun _ _ => 0) ⟨#[], #[.slice none 0 0, .agg #[.bool false, .slice none 0 0]], []⟩).memory :=
  laidMet_laidAll _ (by kernel_rfl) (by kernel_rfl)

theorem shipApplies_reads (os : Os) {H : Type} (enc : TypeId × Value → H) : ∃ places, DataW.whole enc Tryd.prog ((World.laidAll Tryd.prog os Rows.shipAppliesRow.laid).forCall (fun _ _ => 0) ⟨#[], #[.slice none 0 0, .agg #[.bool false, .slice none 0 0]], []⟩).memory Tryd.f3.params.toList Rows.shipAppliesSpec.vars false (#[(.slice none 0 0 : Value), (.agg #[.bool false, .slice none 0 0] : Value)] : Array Value).toList 8 = some ([.nil, .agg [.lit (.bool false), .nil]], [], places) :=
  ⟨[], by kernel_rfl⟩

set_option maxRecDepth 100000 in
theorem shipApplies_lifted (os : Os) (started : os.Started) (H : Type) (enc : TypeId × Value → H) (F : Stop.Interp) :
    ReturnsInHanded {} Tryd.checked os 3 .any ((OpenSpec.ofChange Rows.shipAppliesSpec).preRow enc Tryd.prog Tryd.f3 Rows.shipAppliesRow.domain false Rows.shipAppliesRow.laid) (((OpenSpec.ofChange Rows.shipAppliesSpec).at F).post enc Tryd.prog Tryd.f3 false true false false) := by
  obtain ⟨places, hx⟩ := shipApplies_reads os enc
  refine returnsInHanded_of_row (C := Tryd.checked) (s := (OpenSpec.ofChange Rows.shipAppliesSpec)) own started (by kernel_rfl) Tryd.func3
    (witness_row_at (enc := enc) (C := Tryd.checked) false (World.laidAll Tryd.prog os Rows.shipAppliesRow.laid) #[.slice none 0 0, .agg #[.bool false, .slice none 0 0]] (World.laidAll_os _ _ _) (by kernel_rfl) (by kernel_rfl) (by kernel_rfl)
      (OpenSpec.preRow_of_cond 8 hx (by kernel_rfl) (fun k hk => by cases hk) (by kernel_rfl) (shipApplies_met os))) ?_
  intro W base args ds gs before hval hW _ hk _ hL hsh _
  exact shipApplies_calls H enc W base args ds gs before hval hW hsh

theorem shipApplies_said : Rows.ShipAppliesSaid :=
  OpenClaim.holds_of_cond 3 Tryd.f3 rfl rfl rfl rfl rfl rfl rfl ⟨rfl, rfl, rfl, rfl, rfl⟩ rfl rfl rfl rfl rfl (by kernel_rfl) Tryd.func3 (by kernel_rfl)
    (of_decide_eq_true (by kernel_rfl)) (by unfold Func.isWrapper; first | (rw [if_pos (by decide +kernel)]; kernel_rfl) | (rw [if_neg (by decide +kernel)]; exact ⟨rfl, rfl⟩))
    (fun os started H enc _ F => by rw [OpenClaim.pre_eq_preRow]; exact shipApplies_lifted os started H enc F)

theorem shipApplies_plain (f : FuncId) (fn : Func) (hf : Tryd.pinned.checked.prog.funcNamed "masthead/mastlaw1.ShipApplies" = some f) (hfn : Tryd.pinned.checked.prog.funcs[f]? = some fn) :
    false = Tryd.pinned.checked.prog.looks [] ∧ ∀ (j : Nat) t, fn.params[j]? = some t → Tryd.pinned.checked.prog.wantsStandIn t = false := by
  obtain rfl : f = 3 := Option.some.inj ((show Tryd.prog.funcNamed "masthead/mastlaw1.ShipApplies" = some 3 by kernel_rfl).symm.trans hf) |>.symm
  obtain rfl : fn = Tryd.f3 := (Option.some.inj (Tryd.func3.symm.trans hfn)).symm
  refine ⟨by kernel_rfl, fun j t ht => ?_⟩
  rw [Tryd.params3] at ht
  have h2 := Array.mem_of_getElem? ht
  simp at h2
  rcases h2 with rfl | rfl
  · exact (show Tryd.prog.wantsStandIn 22 = false by kernel_rfl)
  · exact (show Tryd.prog.wantsStandIn 24 = false by kernel_rfl)

theorem shipApplies_card : Rows.ShipAppliesCardSaid :=
  Claim7.holds_tied_plain_at .later [] _ _ _ _ shipApplies_said (fun _ h => by cases h) (by kernel_rfl) (fun _ h => by cases h) shipApplies_row_tie rfl ⟨rfl, rfl⟩ (by kernel_rfl) rfl shipApplies_plain (by kernel_rfl)

end Go.Proofs.YtogjhcmaapplgaaDoor
