/-
  ShipTokens is proved: for all strings Tokens returns what the reference's TokensOf returns, tokens and error. No condition.
-/
import Derived.Test.YtelelpjhepcmbaaGreatTokSame
import Derived.Test.YtelelpjhepcmbaaGreatLaw
import Derived.OpenShut
namespace Go.Proofs.YtelelpjhepcmbaaGreat
open Go.RowKit Go.ChangeShapes Go.WideShapes Go.ChangeAt Go.Deep

theorem maxLen_at {W : World} (h : W.ShapedOpen Tryz.prog) : ∃ m, W.cell? ⟨0, 0, none⟩ = some (.int .i64 m) := (Tryz.laysM143).s1_3 W h
theorem max_of {W : World} (h : ∃ m, W.cell? ⟨0, 0, none⟩ = some (.int .i64 m)) : MaxT W.heap.size W := by
  obtain ⟨m, hm⟩ := h
  exact ⟨World.block_lt_of_cell? _ _ hm, m, hm⟩
set_option maxRecDepth 100000 in
set_option maxHeartbeats 1000000 in
theorem shipTokens_walk (s : ByteArray) (w : World) (hm : MaxT w.heap.size w) :
    Calls Tryz.prog 3 #[.string s] w fun e w' => e = .returned (.bool true) ∧ Below w.heap.size w w' := by
  have HM := Lib.hid hm; clear hm
  obtain ⟨E, hE⟩ : ∃ E, tokE s = E := ⟨_, rfl⟩
  have e1 : (E == E) = true := by simp
  have HE := Lib.hid hE; clear hE
  go_enter Tryz.func3, Tryz.ntmps3
  go_wp2_with (first
    | (go_at_call 4; go_must (refine (tokens_q s w HM.out).mono ?_); rintro e w1 ⟨ov1, L1, rfl, hl1, hO1, hb1⟩; rw [HE.out]; have HL1 := Lib.hid hl1; have HO1 := Lib.hid hO1; have HB1 := Lib.hid hb1; clear hl1 hO1 hb1; have HM1 := Lib.hid ((HM.out.keep HB1.out).up HB1.out.size))
    | (go_at_call 5; go_must (refine (tokensOf_q s _ HM1.out).mono ?_); rintro e w2 ⟨ov2, L2, rfl, hl2, hO2, hb2⟩; rw [HE.out]; have HL2 := Lib.hid hl2; have HI1 := Lib.hid (ToksIn.of_own (HO1.out.below hb2)); have HI2 := Lib.hid (ToksIn.of_own hO2); have HB2 := Lib.hid (HB1.out.trans (hb2.mono HB1.out.size)); clear hl2 hO2 hb2)
    | (go_at_call 6; go_must (refine (sameToks_q L1 L2 _ _ _ HI1.out HI2.out (HL1.out.trans HL2.out.symm)).mono ?_); rintro e w3 ⟨rfl, hb3⟩; have HB3 := Lib.hid (HB2.out.trans (hb3.mono HB2.out.size)); clear hb3))
  go_ret
  exact ⟨rfl, HB3.out⟩

set_option maxRecDepth 100000 in
theorem shipTokens_calls (H : Type) (enc : TypeId × Value → H) (W : World) (base : Nat) (args : Array Value) (ds gs : List (DataW H)) (before : List MemPlace)
    (hval : ∀ (j : Nat) t v, Tryz.f3.params[j]? = some t → args[j]? = some v → Value.okWide Tryz.prog W .any base t v)
    (hW : DataW.Whole enc Tryz.prog Tryz.f3.params.toList Rows.shipTokensSpec.vars false W args.toList ds gs before) (hsh : W.ShapedOpen Tryz.checked.prog) :
    Calls Tryz.prog 3 args W fun e W' => ∃ v, e = .returned v ∧ Rows.shipTokensSpec.post enc Tryz.prog Tryz.f3 false true false false W args v W' := by
  have hW' := hW
  obtain ⟨p, q, hA0, hV, rfl, hfz, hnd⟩ := hW
  have hA : DataW.TrodAll enc Tryz.prog W 0 (fun _ => true) true Tryz.f3.params.toList args.toList ds p := hA0
  rw [Tryz.params3] at hA hval
  obtain ⟨v0, d0, rfl, rfl, h0⟩ := trodAll_one hA
  obtain ⟨rfl, rfl⟩ := trodVars_none hV
  obtain ⟨s0, rfl, hd0, _, hs0⟩ := Go.ChangeMaps.open_string Tryz.underlying9 (hval 0 9 v0 rfl rfl) h0
  refine (shipTokens_walk s0 W (max_of (maxLen_at hsh))).mono fun e W' ⟨he, hb⟩ => ?_
  subst he
  refine ⟨_, rfl, law_post rfl rfl (tb := 4) (by kernel_rfl) Tryz.underlying4 ?_ hW' hb⟩
  rw [Tryz.params3]
  intro t ht
  simp only [List.mem_cons, List.not_mem_nil, or_false] at ht
  subst ht
  exact ⟨by kernel_rfl, of_decide_eq_true (by kernel_rfl)⟩

set_option maxRecDepth 100000 in
theorem shipTokens_lifted (os : Os) (started : os.Started) (H : Type) (enc : TypeId × Value → H) :
    ReturnsInHanded {} Tryz.checked os 3 .any (Rows.shipTokensSpec.pre6 enc Tryz.prog Tryz.f3 Rows.shipTokensRow.domain false) (Rows.shipTokensSpec.post enc Tryz.prog Tryz.f3 false true false false) := by
  refine returnsInHanded_of_change_shaped (C := Tryz.checked) own started (by kernel_rfl) Tryz.func3
    (ChangeSpec.witness6 (enc := enc) (C := Tryz.checked) false ⟨#[], #[.string ⟨#[]⟩], []⟩ 8 (by kernel_rfl) (by kernel_rfl) (by kernel_rfl) (by kernel_rfl)) ?_
  intro W base args ds gs before hval0 hW _ _ hsh _
  exact shipTokens_calls H enc W base args ds gs before hval0 hW hsh

theorem shipTokens_holds : Rows.ShipTokensSaid :=
  OpenClaim.holds_of_wide 3 Tryz.f3 rfl rfl rfl rfl rfl rfl rfl ⟨rfl, rfl, rfl, rfl, rfl⟩ rfl rfl rfl rfl rfl (by kernel_rfl) Tryz.func3 (by kernel_rfl)
    (of_decide_eq_true (by kernel_rfl)) (by unfold Func.isWrapper; first | (rw [if_pos (by decide +kernel)]; kernel_rfl) | (rw [if_neg (by decide +kernel)]; exact ⟨rfl, rfl⟩))
    (fun os started H enc _ => shipTokens_lifted os started H enc)

end Go.Proofs.YtelelpjhepcmbaaGreat
