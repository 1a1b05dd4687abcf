/-
  PageResolves is proved: for all addresses and references Resolve answers as the reference's Resolved does. No condition.
-/
import Derived.Test.YtgbmlpidaeefoaaDoorResolved
import Derived.Test.YtgbmlpidaeefoaaDoorLaw
import Derived.Test.YtgbmlpidaeefoaaDoorCards
import Derived.Test.YtgbmlpidaeefoaaDoorTie
import Derived.OpenShut
import Derived.Deep.DeepHandedRow
import Derived.Lib.LaidTab
import Derived.Lay
namespace Go.Proofs.YtgbmlpidaeefoaaDoor
open Go.RowKit Go.ChangeShapes Go.WideShapes Go.ChangeAt Go.Deep

theorem maxLen_at {W : World} (h : W.ShapedOpen Tryd.prog) : ∃ m, W.cell? ⟨0, 0, none⟩ = some (.int .i64 m) := (Tryd.laysM146).s1_3 W h

set_option maxHeartbeats 1000000 in
theorem pageResolves_walk (f r : ByteArray) (w : World) (hsh : w.ShapedOpen Tryd.checked.prog) :
    Calls Tryd.prog 5 #[.string f, .string r] w fun e w' => e = .returned (.bool true) ∧ Below w.heap.size w w' := by
  have HM := Lib.hid (show MaxCell w from maxLen_at hsh); clear hsh
  obtain ⟨o, ho⟩ : ∃ o, resO f r = o := ⟨_, rfl⟩
  have HO := Lib.hid ho; clear ho
  go_enter Tryd.func5, Tryd.ntmps5
  go_wp2_with fail
  refine (resolve_q f r o w HM.out HO.out).mono ?_
  rintro e w1 ⟨z, rfl, hz, hb1⟩
  have B1 := Lib.hid hb1
  have HM1 := Lib.hid (HM.out.keep (Keeps.of_below hb1))
  have HZ := Lib.hid hz
  clear hb1 hz
  go_wp2_with fail
  refine (resolved_q f r o w1 HM1.out HO.out).mono ?_
  rintro e w2 ⟨z2, rfl, hz2, hb2⟩
  obtain rfl : z2 = z := bytes_ext (by rw [hz2, HZ.out])
  have B2 := Lib.hid (B1.out.trans (hb2.mono B1.out.size))
  clear hb2 hz2
  obtain ⟨o1, o2⟩ := o
  have e1 : (z2.toList == z2.toList) = true := by simp
  have e2 : (o1 == o1) = true := by simp
  go_wp2_with fail
  go_ret
  exact ⟨rfl, B2.out⟩

set_option maxRecDepth 100000 in
theorem pageResolves_calls (H : Type) (enc : TypeId × Value → H) (W : World) (base : Nat) (args : Array Value) (ds gs : List (DataW H)) (before : List MemPlace)
    (hval : ∀ (j : Nat) t v, Tryd.f5.params[j]? = some t → args[j]? = some v → Value.okWide Tryd.prog W .any base t v)
    (hW : DataW.Whole enc Tryd.prog Tryd.f5.params.toList Rows.pageResolvesSpec.vars false W args.toList ds gs before) (hsh : W.ShapedOpen Tryd.checked.prog) :
    Calls Tryd.prog 5 args W fun e W' => ∃ v, e = .returned v ∧ Rows.pageResolvesSpec.post enc Tryd.prog Tryd.f5 false true false false W args v W' := by
  have hW' := hW
  obtain ⟨p, q, hA0, hV, rfl, hfz, hnd⟩ := hW
  have hA : DataW.TrodAll enc Tryd.prog W 0 (fun _ => true) true Tryd.f5.params.toList args.toList ds p := hA0
  rw [Tryd.params5] at hA hval
  obtain ⟨v0, v1, d0, d1, p0, p1, rfl, rfl, rfl, h0, h1⟩ := trodAll_two hA
  obtain ⟨rfl, rfl⟩ := trodVars_none hV
  obtain ⟨s0, rfl, hd0, _, hs0⟩ := Go.ChangeMaps.open_string Tryd.underlying9 (hval 0 9 v0 rfl rfl) h0
  obtain ⟨s1, rfl, hd1, _, hs1⟩ := Go.ChangeMaps.open_string Tryd.underlying9 (hval 1 9 v1 rfl rfl) h1
  refine (pageResolves_walk _ _ W hsh).mono fun e W' ⟨he, hb⟩ => ?_
  subst he
  refine ⟨_, rfl, law_post rfl rfl (tb := 4) (by kernel_rfl) Tryd.underlying4 ?_ hW' hb⟩
  rw [Tryd.params5]
  intro t ht
  simp only [List.mem_cons, List.not_mem_nil, or_false] at ht
  rcases ht with rfl | rfl <;> exact ⟨by kernel_rfl, of_decide_eq_true (by kernel_rfl)⟩

set_option maxRecDepth 100000 in
theorem pageResolves_met (os : Os) : laidMet Tryd.prog Rows.pageResolvesRow.laid ((World.laidAll Tryd.prog os Rows.pageResolvesRow.laid).forCall (fun _ _ => 0) ⟨#[], #[.string ⟨#[]⟩, .string ⟨#[]⟩], []⟩).memory :=
  laidMet_laidAll _ (by kernel_rfl) (by kernel_rfl)

theorem pageResolves_reads (os : Os) {H : Type} (enc : TypeId × Value → H) : ∃ places, DataW.whole enc Tryd.prog ((World.laidAll Tryd.prog os Rows.pageResolvesRow.laid).forCall (fun _ _ => 0) ⟨#[], #[.string ⟨#[]⟩, .string ⟨#[]⟩], []⟩).memory Tryd.f5.params.toList Rows.pageResolvesSpec.vars false (#[(.string ⟨#[]⟩ : Value), (.string ⟨#[]⟩ : Value)] : Array Value).toList 8 = some ([.lit (.string []), .lit (.string [])], [], places) :=
  ⟨[], by kernel_rfl⟩

set_option maxRecDepth 100000 in
theorem pageResolves_lifted (os : Os) (started : os.Started) (H : Type) (enc : TypeId × Value → H) (F : Stop.Interp) :
    ReturnsInHanded {} Tryd.checked os 5 .any ((OpenSpec.ofChange Rows.pageResolvesSpec).preRow enc Tryd.prog Tryd.f5 Rows.pageResolvesRow.domain false Rows.pageResolvesRow.laid) (((OpenSpec.ofChange Rows.pageResolvesSpec).at F).post enc Tryd.prog Tryd.f5 false true false false) := by
  obtain ⟨places, hx⟩ := pageResolves_reads os enc
  refine returnsInHanded_of_row (C := Tryd.checked) (s := (OpenSpec.ofChange Rows.pageResolvesSpec)) own started (by kernel_rfl) Tryd.func5
    (witness_row_at (enc := enc) (C := Tryd.checked) false (World.laidAll Tryd.prog os Rows.pageResolvesRow.laid) #[.string ⟨#[]⟩, .string ⟨#[]⟩] (World.laidAll_os _ _ _) (by kernel_rfl) (by kernel_rfl) (by kernel_rfl)
      (OpenSpec.preRow_of_cond 8 hx (by kernel_rfl) (fun k hk => by cases hk) (by kernel_rfl) (pageResolves_met os))) ?_
  intro W base args ds gs before hval hW _ hk _ hL hsh _
  exact pageResolves_calls H enc W base args ds gs before hval hW hsh

theorem pageResolves_said : Rows.PageResolvesSaid :=
  OpenClaim.holds_of_cond 5 Tryd.f5 rfl rfl rfl rfl rfl rfl rfl ⟨rfl, rfl, rfl, rfl, rfl⟩ rfl rfl rfl rfl rfl (by kernel_rfl) Tryd.func5 (by kernel_rfl)
    (of_decide_eq_true (by kernel_rfl)) (by unfold Func.isWrapper; first | (rw [if_pos (by decide +kernel)]; kernel_rfl) | (rw [if_neg (by decide +kernel)]; exact ⟨rfl, rfl⟩))
    (fun os started H enc _ F => by rw [OpenClaim.pre_eq_preRow]; exact pageResolves_lifted os started H enc F)

theorem pageResolves_plain (f : FuncId) (fn : Func) (hf : Tryd.pinned.checked.prog.funcNamed "masthead/mastlaw1.PageResolves" = some f) (hfn : Tryd.pinned.checked.prog.funcs[f]? = some fn) :
    false = Tryd.pinned.checked.prog.looks [] ∧ ∀ (j : Nat) t, fn.params[j]? = some t → Tryd.pinned.checked.prog.wantsStandIn t = false := by
  obtain rfl : f = 5 := Option.some.inj ((show Tryd.prog.funcNamed "masthead/mastlaw1.PageResolves" = some 5 by kernel_rfl).symm.trans hf) |>.symm
  obtain rfl : fn = Tryd.f5 := (Option.some.inj (Tryd.func5.symm.trans hfn)).symm
  refine ⟨by kernel_rfl, fun j t ht => ?_⟩
  rw [Tryd.params5] at ht
  have h2 := Array.mem_of_getElem? ht
  simp at h2
  subst h2
  exact (show Tryd.prog.wantsStandIn 9 = false by kernel_rfl)

theorem pageResolves_card : Rows.PageResolvesCardSaid :=
  Claim7.holds_tied_plain_at .later [] _ _ _ _ pageResolves_said (fun _ h => by cases h) (by kernel_rfl) (fun _ h => by cases h) pageResolves_row_tie rfl ⟨rfl, rfl⟩ (by kernel_rfl) rfl pageResolves_plain (by kernel_rfl)

end Go.Proofs.YtgbmlpidaeefoaaDoor
