/-
  ShipMaps is proved, in its second form: for all outputs and bases whose reading stays below the given bound, SiteMap writes what the reference writes, or has its error.
-/
import Derived.Test.YtenhhknmpafpdaaDoorMapLaw
import Derived.Test.YtenhhknmpafpdaaDoorLaw
import Derived.Test.YtenhhknmpafpdaaDoorCards
import Derived.Test.YtenhhknmpafpdaaDoorTie
import Derived.OpenShut
import Derived.Deep.DeepHandedRow
import Derived.Lib.LaidTab
import Derived.Lay
namespace Go.Proofs.YtenhhknmpafpdaaDoor
open Go.RowKit Go.ChangeShapes Go.WideShapes Go.ChangeAt Go.Deep

theorem maxLen_at {W : World} (h : W.ShapedOpen Tryd.prog) : ∃ m, W.cell? ⟨0, 0, none⟩ = some (.int .i64 m) := (Tryd.laysM146).s1_3 W h

set_option maxRecDepth 100000 in
theorem shipMaps_calls (H : Type) (enc : TypeId × Value → H) (W : World) (base : Nat) (args : Array Value) (ds gs : List (DataW H)) (before : List MemPlace)
    (hval : ∀ (j : Nat) t v, Tryd.f3.params[j]? = some t → args[j]? = some v → Value.okWide Tryd.prog W .any base t v)
    (hW : DataW.Whole enc Tryd.prog Tryd.f3.params.toList Rows.shipMapsSpec.vars false W args.toList ds gs before) (hk : Rows.uptoSmall H (ds ++ gs) = true) (hsh : W.ShapedOpen Tryd.checked.prog) :
    Calls Tryd.prog 3 args W fun e W' => ∃ v, e = .returned v ∧ Rows.shipMapsSpec.post enc Tryd.prog Tryd.f3 false true false false W args v W' := by
  have hW' := hW
  obtain ⟨p, q, hA0, hV, rfl, hfz, hnd⟩ := hW
  have hA : DataW.TrodAll enc Tryd.prog W 0 (fun _ => true) true Tryd.f3.params.toList args.toList ds p := hA0
  rw [Tryd.params3] at hA hval
  obtain ⟨v0, v1, d0, d1, p0, p1, rfl, rfl, rfl, h0, h1⟩ := trodAll_two hA
  obtain ⟨rfl, rfl⟩ := trodVars_none hV
  have hbulk : Rows.uptoBulkAll ([d0, d1]) ≤ 1048576 := of_decide_eq_true (by simpa [Rows.uptoSmall] using hk)
  obtain ⟨s0, rfl, hd0, _, hs0⟩ := Go.ChangeMaps.open_string Tryd.underlying9 (hval 0 9 v0 rfl rfl) h0
  obtain ⟨fu1, g1⟩ := h1
  obtain ⟨u1, l1, e1, n1⟩ := open_outs _ _ _ g1
  obtain ⟨a1, len1, cap1, rfl⟩ := okWide_slice Tryd.underlying22 (hval 1 22 v1 rfl rfl)
  simp only [Value.cells, List.cons.injEq, and_true] at e1
  subst e1
  have bk0 : Rows.uptoBulk d0 ≤ 1048576 := by have := bulk_mem (show d0 ∈ [d0, d1] by simp); omega
  have hs0' : s0.size ≤ 1048576 := by rw [hd0] at bk0; simp only [Rows.uptoBulk, size_toList] at bk0; omega
  refine (shipMaps_walk s0 l1 _ W n1 hs0' (maxLen_at hsh)).mono fun e W' ⟨he, hb⟩ => ?_
  subst he
  refine ⟨_, rfl, law_post rfl rfl (tb := 4) (by kernel_rfl) Tryd.underlying4 ?_ hW' hb⟩
  rw [Tryd.params3]
  intro t ht
  simp only [List.mem_cons, List.not_mem_nil, or_false] at ht
  rcases ht with rfl | rfl
  · exact ⟨by kernel_rfl, of_decide_eq_true (by kernel_rfl)⟩
  · exact ⟨by kernel_rfl, of_decide_eq_true (by kernel_rfl)⟩

set_option maxRecDepth 100000 in
theorem shipMaps_met (os : Os) : laidMet Tryd.prog Rows.shipMapsUptoRow.laid ((World.laidAll Tryd.prog os Rows.shipMapsUptoRow.laid).forCall (fun _ _ => 0) ⟨#[], #[.string ⟨#[]⟩, .slice none 0 0], []⟩).memory :=
  laidMet_laidAll _ (by kernel_rfl) (by kernel_rfl)

theorem shipMaps_reads (os : Os) {H : Type} (enc : TypeId × Value → H) : ∃ places, DataW.whole enc Tryd.prog ((World.laidAll Tryd.prog os Rows.shipMapsUptoRow.laid).forCall (fun _ _ => 0) ⟨#[], #[.string ⟨#[]⟩, .slice none 0 0], []⟩).memory Tryd.f3.params.toList Rows.shipMapsSpec.vars false (#[(.string ⟨#[]⟩ : Value), (.slice none 0 0 : Value)] : Array Value).toList 8 = some ([.lit (.string []), .nil], [], places) :=
  ⟨[], by kernel_rfl⟩

set_option maxRecDepth 100000 in
theorem shipMaps_lifted (os : Os) (started : os.Started) (H : Type) (enc : TypeId × Value → H) (F : Stop.Interp) :
    ReturnsInHanded {} Tryd.checked os 3 .any ((Rows.OpenSpec.upto Rows.shipMapsSpec).preRow enc Tryd.prog Tryd.f3 Rows.shipMapsUptoRow.domain false Rows.shipMapsUptoRow.laid) (((Rows.OpenSpec.upto Rows.shipMapsSpec).at F).post enc Tryd.prog Tryd.f3 false true false false) := by
  obtain ⟨places, hx⟩ := shipMaps_reads os enc
  refine returnsInHanded_of_row (C := Tryd.checked) (s := (Rows.OpenSpec.upto Rows.shipMapsSpec)) own started (by kernel_rfl) Tryd.func3
    (witness_row_at (enc := enc) (C := Tryd.checked) false (World.laidAll Tryd.prog os Rows.shipMapsUptoRow.laid) #[.string ⟨#[]⟩, .slice none 0 0] (World.laidAll_os _ _ _) (by kernel_rfl) (by kernel_rfl) (by kernel_rfl)
      (OpenSpec.preRow_of_cond 8 hx (by kernel_rfl) (fun k hk => by cases hk; kernel_rfl) (by kernel_rfl) (shipMaps_met os))) ?_
  intro W base args ds gs before hval hW _ hk _ hL hsh _
  exact shipMaps_calls H enc W base args ds gs before hval hW (hk _ rfl) hsh

theorem shipMaps_said : Rows.ShipMapsUptoSaid :=
  OpenClaim.holds_of_cond 3 Tryd.f3 rfl rfl rfl rfl rfl rfl rfl ⟨rfl, rfl, rfl, rfl, rfl⟩ rfl rfl rfl rfl rfl (by kernel_rfl) Tryd.func3 (by kernel_rfl)
    (of_decide_eq_true (by kernel_rfl)) (by unfold Func.isWrapper; first | (rw [if_pos (by decide +kernel)]; kernel_rfl) | (rw [if_neg (by decide +kernel)]; exact ⟨rfl, rfl⟩))
    (fun os started H enc _ F => by rw [OpenClaim.pre_eq_preRow]; exact shipMaps_lifted os started H enc F)

theorem shipMaps_plain (f : FuncId) (fn : Func) (hf : Tryd.pinned.checked.prog.funcNamed "masthead/mastlaw1.ShipMaps" = some f) (hfn : Tryd.pinned.checked.prog.funcs[f]? = some fn) :
    true = Tryd.pinned.checked.prog.looks [] ∧ ∀ (j : Nat) t, fn.params[j]? = some t → Tryd.pinned.checked.prog.wantsStandIn t = false := by
  obtain rfl : f = 3 := Option.some.inj ((show Tryd.prog.funcNamed "masthead/mastlaw1.ShipMaps" = some 3 by kernel_rfl).symm.trans hf) |>.symm
  obtain rfl : fn = Tryd.f3 := (Option.some.inj (Tryd.func3.symm.trans hfn)).symm
  refine ⟨by kernel_rfl, fun j t ht => ?_⟩
  rw [Tryd.params3] at ht
  have h2 := Array.mem_of_getElem? ht
  simp at h2
  rcases h2 with rfl | rfl
  · exact (show Tryd.prog.wantsStandIn 9 = false by kernel_rfl)
  · exact (show Tryd.prog.wantsStandIn 22 = false by kernel_rfl)

theorem shipMaps_card : Rows.ShipMapsUptoCardSaid :=
  Claim7.holds_tied_plain_at .later [] _ _ _ _ shipMaps_said (fun _ h => by cases h) (by kernel_rfl) (fun _ h => by cases h) shipMapsUpto_row_tie rfl ⟨rfl, rfl⟩ (by kernel_rfl) rfl shipMaps_plain (by kernel_rfl)

end Go.Proofs.YtenhhknmpafpdaaDoor
