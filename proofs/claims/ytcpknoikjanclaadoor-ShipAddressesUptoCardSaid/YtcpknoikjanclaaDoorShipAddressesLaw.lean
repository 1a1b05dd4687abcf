/-
  ShipAddresses is proved in its second form: for all strings, of 1,048,576 bytes together at most, Address and Path answer as the reference's AddressOf and PathOf do.
-/
import Derived.Test.YtcpknoikjanclaaDoorAddresses
import Derived.Test.YtcpknoikjanclaaDoorLaw
import Derived.Test.YtcpknoikjanclaaDoorCards
import Derived.Test.YtcpknoikjanclaaDoorTie
import Derived.OpenShut
import Derived.Deep.DeepHandedRow
import Derived.Lib.LaidTab
import Derived.Lay
namespace Go.Proofs.YtcpknoikjanclaaDoor
open Go.RowKit Go.ChangeShapes Go.WideShapes Go.ChangeAt Go.Deep

theorem bulk_two {H : Type} {d0 d1 : DataW H} {s t : ByteArray} (h0 : d0 = .lit (.string s.data.toList)) (h1 : d1 = .lit (.string t.data.toList)) (h : Rows.uptoBulkAll [d0, d1] ≤ 1048576) : s.size + t.size ≤ 1048576 := by
  subst h0 h1
  simp only [Rows.uptoBulkAll, Rows.uptoBulk, size_toList] at h
  omega
theorem maxLen_at {W : World} (h : W.ShapedOpen Tryd.prog) : ∃ m, W.cell? ⟨0, 0, none⟩ = some (.int .i64 m) := (Tryd.laysM146).s1_3 W h

set_option maxHeartbeats 1000000 in
theorem shipAddresses_walk (s t : ByteArray) (w : World) (ht : t.size ≤ 1048576) (hsh : w.ShapedOpen Tryd.checked.prog) :
    Calls Tryd.prog 4 #[.string s, .string t] w fun e w' => e = .returned (.bool true) ∧ Below w.heap.size w w' := by
  obtain ⟨m, hm⟩ := maxLen_at hsh
  have hg := World.block_lt_of_cell? _ _ hm
  simp only at hg
  have keep : ∀ (w' : World), Below w.heap.size w w' → w'.cell? ⟨0, 0, none⟩ = some (.int .i64 m) := fun w' hb => ((bcell hb).1 _ _ hg).trans hm
  have KP := Lib.hid keep; clear keep
  have HM := Lib.hid hm; clear hm hsh
  obtain ⟨v, hv⟩ : ∃ v, pathB s = v := ⟨_, rfl⟩
  obtain ⟨u, hu⟩ : ∃ u, pathV t = u := ⟨_, rfl⟩
  have HV := Lib.hid hv; clear hv
  have HU := Lib.hid hu; clear hu
  have e1 : ((addrS s).toList == (addrS s).toList) = true := by simp
  have e2 : ((pathR t).toList == (pathR t).toList) = true := by simp
  have e3 : (errI v == errI v) = true := by simp
  have e4 : (errI u == errI u) = true := by simp
  go_enter Tryd.func4, Tryd.ntmps4
  go_wp2_with fail
  refine (shipAddress_any s v HV.out m _ HM.out).mono ?_
  rintro e w1 ⟨rfl, hb1⟩
  have B1 := Lib.hid hb1; clear hb1
  go_wp2_with fail
  refine (shipPathOf_any t u HU.out m _ ht (KP.out _ B1.out)).mono ?_
  rintro e w2 ⟨rfl, hb2⟩
  have B2 := Lib.hid (B1.out.trans (hb2.mono B1.out.size)); clear hb2
  go_wp2_with fail
  refine (refAddress_any s v HV.out m _ (KP.out _ B2.out)).mono ?_
  rintro e w3 ⟨rfl, hb3⟩
  have B3 := Lib.hid (B2.out.trans (hb3.mono B2.out.size)); clear hb3
  go_wp2_with fail
  refine (refPathOf_any t u HU.out m _ ht (KP.out _ B3.out)).mono ?_
  rintro e w4 ⟨rfl, hb4⟩
  have B4 := Lib.hid (B3.out.trans (hb4.mono B3.out.size)); clear hb4
  go_wp2_with fail
  go_ret
  exact ⟨rfl, B4.out⟩

set_option maxRecDepth 100000 in
theorem shipAddresses_calls (H : Type) (enc : TypeId × Value → H) (W : World) (base : Nat) (args : Array Value) (ds gs : List (DataW H)) (before : List MemPlace)
    (hval : ∀ (j : Nat) t v, Tryd.f4.params[j]? = some t → args[j]? = some v → Value.okWide Tryd.prog W .any base t v)
    (hW : DataW.Whole enc Tryd.prog Tryd.f4.params.toList Rows.shipAddressesSpec.vars false W args.toList ds gs before) (hk : Rows.uptoSmall H (ds ++ gs) = true) (hsh : W.ShapedOpen Tryd.checked.prog) :
    Calls Tryd.prog 4 args W fun e W' => ∃ v, e = .returned v ∧ Rows.shipAddressesSpec.post enc Tryd.prog Tryd.f4 false true false false W args v W' := by
  have hW' := hW
  obtain ⟨p, q, hA0, hV, rfl, hfz, hnd⟩ := hW
  have hA : DataW.TrodAll enc Tryd.prog W 0 (fun _ => true) true Tryd.f4.params.toList args.toList ds p := hA0
  rw [Tryd.params4] at hA hval
  obtain ⟨v0, v1, d0, d1, p0, p1, rfl, rfl, rfl, h0, h1⟩ := trodAll_two hA
  obtain ⟨rfl, rfl⟩ := trodVars_none hV
  have hbulk : Rows.uptoBulkAll ([d0, d1]) ≤ 1048576 := of_decide_eq_true (by simpa [Rows.uptoSmall] using hk)
  obtain ⟨s0, rfl, hd0, _, hs0⟩ := Go.ChangeMaps.open_string Tryd.underlying9 (hval 0 9 v0 rfl rfl) h0
  obtain ⟨s1, rfl, hd1, _, hs1⟩ := Go.ChangeMaps.open_string Tryd.underlying9 (hval 1 9 v1 rfl rfl) h1
  refine (shipAddresses_walk _ _ W (by have := bulk_two hd0 hd1 hbulk; omega) hsh).mono fun e W' ⟨he, hb⟩ => ?_
  subst he
  refine ⟨_, rfl, law_post rfl rfl (tb := 4) (by kernel_rfl) Tryd.underlying4 ?_ hW' hb⟩
  rw [Tryd.params4]
  intro t ht
  simp only [List.mem_cons, List.not_mem_nil, or_false] at ht
  rcases ht with rfl | rfl <;> exact ⟨by kernel_rfl, of_decide_eq_true (by kernel_rfl)⟩

set_option maxRecDepth 100000 in
theorem shipAddresses_met (os : Os) : laidMet Tryd.prog Rows.shipAddressesUptoRow.laid ((World.laidAll Tryd.prog os Rows.shipAddressesUptoRow.laid).forCall (fun _ _ => 0) ⟨#[], #[.string ⟨#[]⟩, .string ⟨#[]⟩], []⟩).memory :=
  laidMet_laidAll _ (by kernel_rfl) (by kernel_rfl)

theorem shipAddresses_reads (os : Os) {H : Type} (enc : TypeId × Value → H) : ∃ places, DataW.whole enc Tryd.prog ((World.laidAll Tryd.prog os Rows.shipAddressesUptoRow.laid).forCall (fun _ _ => 0) ⟨#[], #[.string ⟨#[]⟩, .string ⟨#[]⟩], []⟩).memory Tryd.f4.params.toList Rows.shipAddressesSpec.vars false (#[(.string ⟨#[]⟩ : Value), (.string ⟨#[]⟩ : Value)] : Array Value).toList 8 = some ([.lit (.string []), .lit (.string [])], [], places) :=
  ⟨[], by kernel_rfl⟩

set_option maxRecDepth 100000 in
theorem shipAddresses_lifted (os : Os) (started : os.Started) (H : Type) (enc : TypeId × Value → H) (F : Stop.Interp) :
    ReturnsInHanded {} Tryd.checked os 4 .any ((Rows.OpenSpec.upto Rows.shipAddressesSpec).preRow enc Tryd.prog Tryd.f4 Rows.shipAddressesUptoRow.domain false Rows.shipAddressesUptoRow.laid) (((Rows.OpenSpec.upto Rows.shipAddressesSpec).at F).post enc Tryd.prog Tryd.f4 false true false false) := by
  obtain ⟨places, hx⟩ := shipAddresses_reads os enc
  refine returnsInHanded_of_row (C := Tryd.checked) (s := (Rows.OpenSpec.upto Rows.shipAddressesSpec)) own started (by kernel_rfl) Tryd.func4
    (witness_row_at (enc := enc) (C := Tryd.checked) false (World.laidAll Tryd.prog os Rows.shipAddressesUptoRow.laid) #[.string ⟨#[]⟩, .string ⟨#[]⟩] (World.laidAll_os _ _ _) (by kernel_rfl) (by kernel_rfl) (by kernel_rfl)
      (OpenSpec.preRow_of_cond 8 hx (by kernel_rfl) (fun k hk => by cases hk; kernel_rfl) (by kernel_rfl) (shipAddresses_met os))) ?_
  intro W base args ds gs before hval hW _ hk _ hL hsh _
  exact shipAddresses_calls H enc W base args ds gs before hval hW (hk _ rfl) hsh

theorem shipAddresses_said : Rows.ShipAddressesUptoSaid :=
  OpenClaim.holds_of_cond 4 Tryd.f4 rfl rfl rfl rfl rfl rfl rfl ⟨rfl, rfl, rfl, rfl, rfl⟩ rfl rfl rfl rfl rfl (by kernel_rfl) Tryd.func4 (by kernel_rfl)
    (of_decide_eq_true (by kernel_rfl)) (by unfold Func.isWrapper; first | (rw [if_pos (by decide +kernel)]; kernel_rfl) | (rw [if_neg (by decide +kernel)]; exact ⟨rfl, rfl⟩))
    (fun os started H enc _ F => by rw [OpenClaim.pre_eq_preRow]; exact shipAddresses_lifted os started H enc F)

theorem shipAddresses_plain (f : FuncId) (fn : Func) (hf : Tryd.pinned.checked.prog.funcNamed "masthead/mastlaw1.ShipAddresses" = some f) (hfn : Tryd.pinned.checked.prog.funcs[f]? = some fn) :
    false = Tryd.pinned.checked.prog.looks [] ∧ ∀ (j : Nat) t, fn.params[j]? = some t → Tryd.pinned.checked.prog.wantsStandIn t = false := by
  obtain rfl : f = 4 := Option.some.inj ((show Tryd.prog.funcNamed "masthead/mastlaw1.ShipAddresses" = some 4 by kernel_rfl).symm.trans hf) |>.symm
  obtain rfl : fn = Tryd.f4 := (Option.some.inj (Tryd.func4.symm.trans hfn)).symm
  refine ⟨by kernel_rfl, fun j t ht => ?_⟩
  rw [Tryd.params4] at ht
  have h2 := Array.mem_of_getElem? ht
  simp at h2
  subst h2
  exact (show Tryd.prog.wantsStandIn 9 = false by kernel_rfl)

theorem shipAddresses_card : Rows.ShipAddressesUptoCardSaid :=
  Claim7.holds_tied_plain_at .later [] _ _ _ _ shipAddresses_said (fun _ h => by cases h) (by kernel_rfl) (fun _ h => by cases h) shipAddressesUpto_row_tie rfl ⟨rfl, rfl⟩ (by kernel_rfl) rfl shipAddresses_plain (by kernel_rfl)

end Go.Proofs.YtcpknoikjanclaaDoor
