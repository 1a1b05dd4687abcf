/-
  ShipOuts is proved: for all outputs CheckOuts gives the error that the reference's OutsError gives. No condition.
-/
import Derived.Test.YtcpknoikjanclaaDoorOuts
import Derived.Test.YtcpknoikjanclaaDoorLaw
import Derived.Test.YtcpknoikjanclaaDoorCards
import Derived.Test.YtcpknoikjanclaaDoorTie
import Derived.OpenShut
import Derived.Deep.DeepHandedRow
import Derived.Lib.LaidTab
import Derived.Lay
namespace Go.Proofs.YtcpknoikjanclaaDoor
open Go.RowKit Go.ChangeShapes Go.WideShapes Go.ChangeAt Go.Deep

theorem maxLen_at {W : World} (h : W.ShapedOpen Tryd.prog) : ∃ m, W.cell? ⟨0, 0, none⟩ = some (.int .i64 m) := (Tryd.laysM146).s1_3 W h

set_option maxHeartbeats 1000000 in
theorem shipOuts_walk (l : List OutV) (v : Value) (w : World) (h : OutsAt w v l) (hsh : w.ShapedOpen Tryd.checked.prog) :
    Calls Tryd.prog 3 #[v] w fun e w' => e = .returned (.bool true) ∧ Below w.heap.size w w' := by
  obtain ⟨m, hm⟩ := maxLen_at hsh
  have hg := World.block_lt_of_cell? _ _ hm
  simp only at hg
  have KP := Lib.hid (show ∀ w' : World, Below w.heap.size w w' → w'.cell? ⟨0, 0, none⟩ = some (.int .i64 m) from fun w' hb => ((bcell hb).1 _ _ hg).trans hm)
  have HM := Lib.hid hm; clear hm hsh
  have HL := Lib.hid h; clear h
  have e1 : (outsE l == outsE l) = true := by simp
  go_enter Tryd.func3, Tryd.ntmps3
  go_wp2_with fail
  refine (checkOuts_any l v m _ HL.out HM.out).mono ?_
  rintro e w1 ⟨rfl, hb1⟩
  have B1 := Lib.hid hb1; clear hb1
  go_wp2_with fail
  refine (outsError_any l v m _ (HL.out.keep (Keeps.of_below B1.out)) (KP.out _ B1.out)).mono ?_
  rintro e w2 ⟨rfl, hb2⟩
  have B2 := Lib.hid (B1.out.trans (hb2.mono B1.out.size)); clear hb2
  go_wp2_with fail
  go_ret
  exact ⟨rfl, B2.out⟩

set_option maxRecDepth 100000 in
theorem shipOuts_calls (H : Type) (enc : TypeId × Value → H) (W : World) (base : Nat) (args : Array Value) (ds gs : List (DataW H)) (before : List MemPlace)
    (hval : ∀ (j : Nat) t v, Tryd.f3.params[j]? = some t → args[j]? = some v → Value.okWide Tryd.prog W .any base t v)
    (hW : DataW.Whole enc Tryd.prog Tryd.f3.params.toList Rows.shipOutsSpec.vars false W args.toList ds gs before) (hsh : W.ShapedOpen Tryd.checked.prog) :
    Calls Tryd.prog 3 args W fun e W' => ∃ v, e = .returned v ∧ Rows.shipOutsSpec.post enc Tryd.prog Tryd.f3 false true false false W args v W' := by
  have hW' := hW
  obtain ⟨p, q, hA0, hV, rfl, hfz, hnd⟩ := hW
  have hA : DataW.TrodAll enc Tryd.prog W 0 (fun _ => true) true Tryd.f3.params.toList args.toList ds p := hA0
  rw [Tryd.params3] at hA hval
  obtain ⟨v0, d0, rfl, rfl, h0⟩ := trodAll_one hA
  obtain ⟨rfl, rfl⟩ := trodVars_none hV
  obtain ⟨fu0, g0⟩ := h0
  obtain ⟨u0, l0, e0, n0⟩ := open_outs _ _ _ g0
  obtain ⟨a0, len0, cap0, rfl⟩ := okWide_slice Tryd.underlying22 (hval 0 22 v0 rfl rfl)
  simp only [Value.cells, List.cons.injEq, and_true] at e0
  subst e0
  refine (shipOuts_walk l0 _ W n0 hsh).mono fun e W' ⟨he, hb⟩ => ?_
  subst he
  refine ⟨_, rfl, law_post rfl rfl (tb := 4) (by kernel_rfl) Tryd.underlying4 ?_ hW' hb⟩
  rw [Tryd.params3]
  intro t ht
  simp only [List.mem_cons, List.not_mem_nil, or_false] at ht
  subst ht
  exact ⟨by kernel_rfl, of_decide_eq_true (by kernel_rfl)⟩

set_option maxRecDepth 100000 in
theorem shipOuts_met (os : Os) : laidMet Tryd.prog Rows.shipOutsRow.laid ((World.laidAll Tryd.prog os Rows.shipOutsRow.laid).forCall (fun _ _ => 0) ⟨#[], #[.slice none 0 0], []⟩).memory :=
  laidMet_laidAll _ (by kernel_rfl) (by kernel_rfl)

theorem shipOuts_reads (os : Os) {H : Type} (enc : TypeId × Value → H) : ∃ places, DataW.whole enc Tryd.prog ((World.laidAll Tryd.prog os Rows.shipOutsRow.laid).forCall (fun _ _ => 0) ⟨#[], #[.slice none 0 0], []⟩).memory Tryd.f3.params.toList Rows.shipOutsSpec.vars false (#[(.slice none 0 0 : Value)] : Array Value).toList 8 = some ([.nil], [], places) :=
  ⟨[], by kernel_rfl⟩

set_option maxRecDepth 100000 in
theorem shipOuts_lifted (os : Os) (started : os.Started) (H : Type) (enc : TypeId × Value → H) (F : Stop.Interp) :
    ReturnsInHanded {} Tryd.checked os 3 .any ((OpenSpec.ofChange Rows.shipOutsSpec).preRow enc Tryd.prog Tryd.f3 Rows.shipOutsRow.domain false Rows.shipOutsRow.laid) (((OpenSpec.ofChange Rows.shipOutsSpec).at F).post enc Tryd.prog Tryd.f3 false true false false) := by
  obtain ⟨places, hx⟩ := shipOuts_reads os enc
  refine returnsInHanded_of_row (C := Tryd.checked) (s := (OpenSpec.ofChange Rows.shipOutsSpec)) own started (by kernel_rfl) Tryd.func3
    (witness_row_at (enc := enc) (C := Tryd.checked) false (World.laidAll Tryd.prog os Rows.shipOutsRow.laid) #[.slice none 0 0] (World.laidAll_os _ _ _) (by kernel_rfl) (by kernel_rfl) (by kernel_rfl)
      (OpenSpec.preRow_of_cond 8 hx (by kernel_rfl) (fun k hk => by cases hk) (by kernel_rfl) (shipOuts_met os))) ?_
  intro W base args ds gs before hval hW _ hk _ hL hsh _
  exact shipOuts_calls H enc W base args ds gs before hval hW hsh

theorem shipOuts_said : Rows.ShipOutsSaid :=
  OpenClaim.holds_of_cond 3 Tryd.f3 rfl rfl rfl rfl rfl rfl rfl ⟨rfl, rfl, rfl, rfl, rfl⟩ rfl rfl rfl rfl rfl (by kernel_rfl) Tryd.func3 (by kernel_rfl)
    (of_decide_eq_true (by kernel_rfl)) (by unfold Func.isWrapper; first | (rw [if_pos (by decide +kernel)]; kernel_rfl) | (rw [if_neg (by decide +kernel)]; exact ⟨rfl, rfl⟩))
    (fun os started H enc _ F => by rw [OpenClaim.pre_eq_preRow]; exact shipOuts_lifted os started H enc F)

theorem shipOuts_plain (f : FuncId) (fn : Func) (hf : Tryd.pinned.checked.prog.funcNamed "masthead/mastlaw1.ShipOuts" = some f) (hfn : Tryd.pinned.checked.prog.funcs[f]? = some fn) :
    false = Tryd.pinned.checked.prog.looks [] ∧ ∀ (j : Nat) t, fn.params[j]? = some t → Tryd.pinned.checked.prog.wantsStandIn t = false := by
  obtain rfl : f = 3 := Option.some.inj ((show Tryd.prog.funcNamed "masthead/mastlaw1.ShipOuts" = some 3 by kernel_rfl).symm.trans hf) |>.symm
  obtain rfl : fn = Tryd.f3 := (Option.some.inj (Tryd.func3.symm.trans hfn)).symm
  refine ⟨by kernel_rfl, fun j t ht => ?_⟩
  rw [Tryd.params3] at ht
  have h2 := Array.mem_of_getElem? ht
  simp at h2
  subst h2
  exact (show Tryd.prog.wantsStandIn 22 = false by kernel_rfl)

theorem shipOuts_card : Rows.ShipOutsCardSaid :=
  Claim7.holds_tied_plain_at .later [] _ _ _ _ shipOuts_said (fun _ h => by cases h) (by kernel_rfl) (fun _ h => by cases h) shipOuts_row_tie rfl ⟨rfl, rfl⟩ (by kernel_rfl) rfl shipOuts_plain (by kernel_rfl)

end Go.Proofs.YtcpknoikjanclaaDoor
