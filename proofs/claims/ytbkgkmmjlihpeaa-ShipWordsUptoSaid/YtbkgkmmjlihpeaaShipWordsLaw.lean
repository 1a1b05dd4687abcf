/-
  ShipWords is proved in its second form: for all strings, of 1,048,576 bytes together at most, Words and Stem answer as the reference's WordsIn and StemOf do.
-/
import Derived.Test.YtbkgkmmjlihpeaaWords2
import Derived.Test.YtbkgkmmjlihpeaaStem
import Derived.Test.YtbkgkmmjlihpeaaEqualStrs
import Derived.Test.YtbkgkmmjlihpeaaLaw
namespace Go.Proofs.Ytbkgkmmjlihpeaa
open Go.RowKit Go.ChangeShapes Go.WideShapes Go.ChangeAt Go.Deep

theorem bulk_str2 {H : Type} {d0 d1 : DataW H} {s t : ByteArray} (h0 : d0 = .lit (.string s.data.toList)) (h1 : d1 = .lit (.string t.data.toList)) (h : Rows.uptoBulkAll [d0, d1] ≤ 1048576) : s.size + t.size ≤ 1048576 := by
  subst h0 h1
  simp only [Rows.uptoBulkAll, Rows.uptoBulk, size_toList] at h
  omega

set_option maxHeartbeats 1000000 in
theorem shipWords_walk (s t : ByteArray) (w : World) (hs : s.size ≤ 1048576) (ht : t.size ≤ 1048576) :
    Calls Try.prog 4 #[.string s, .string t] w fun e w' => e = .returned (.bool true) ∧ Below w.heap.size w w' := by
  go_enter Try.func4, Try.ntmps4
  go_wp2_with fail
  refine (words_any s _ hs).mono ?_
  rintro e w1 ⟨v1, rfl, hv1, hb1⟩
  have B1 := Lib.hid hb1; clear hb1
  have V1 := Lib.hid hv1; clear hv1
  go_wp2_with fail
  refine (wordsIn_any s _ hs).mono ?_
  rintro e w2 ⟨v2, rfl, hv2, hb2⟩
  have V2 := Lib.hid hv2; clear hv2
  have V1' := Lib.hid (V1.out.keep (Keeps.of_below hb2))
  have B2 := Lib.hid (B1.out.trans (hb2.mono B1.out.size)); clear hb2
  go_wp2_with fail
  refine (equalStrs_any _ _ _ _ _ V1'.out V2.out).mono ?_
  rintro e w3 ⟨rfl, hb3⟩
  have B3 := Lib.hid (B2.out.trans (hb3.mono B2.out.size)); clear hb3
  have e1 : (wordsAux s.data.toList [] == wordsAux s.data.toList []) = true := by simp
  rw [e1]
  go_wp2_with fail
  refine (shipStem_any t _ ht).mono ?_
  rintro e w4 ⟨rfl, hb4⟩
  have B4 := Lib.hid (B3.out.trans (hb4.mono B3.out.size)); clear hb4
  go_wp2_with fail
  refine (stemOf_any t _ ht).mono ?_
  rintro e w5 ⟨rfl, hb5⟩
  have B5 := Lib.hid (B4.out.trans (hb5.mono B4.out.size)); clear hb5
  have e2 : (stemL t.data.toList == stemL t.data.toList) = true := by simp
  go_wp2_with fail
  go_ret
  exact ⟨rfl, B5.out⟩

set_option maxRecDepth 100000 in
theorem shipWords_calls (H : Type) (enc : TypeId × Value → H) (W : World) (base : Nat) (args : Array Value) (ds gs : List (DataW H)) (before : List MemPlace)
    (hval : ∀ (j : Nat) t v, Try.f4.params[j]? = some t → args[j]? = some v → Value.okWide Try.prog W .any base t v)
    (hW : DataW.Whole enc Try.prog Try.f4.params.toList Rows.shipWordsSpec.vars false W args.toList ds gs before) (hk : Rows.uptoSmall H (ds ++ gs) = true) :
    Calls Try.prog 4 args W fun e W' => ∃ v, e = .returned v ∧ Rows.shipWordsSpec.post enc Try.prog Try.f4 false true false false W args v W' := by
  have hW' := hW
  obtain ⟨p, q, hA0, hV, rfl, hfz, hnd⟩ := hW
  have hA : DataW.TrodAll enc Try.prog W 0 (fun _ => true) true Try.f4.params.toList args.toList ds p := hA0
  rw [Try.params4] at hA hval
  obtain ⟨v0, v1, d0, d1, p0, p1, rfl, rfl, rfl, h0, h1⟩ := trodAll_two hA
  obtain ⟨rfl, rfl⟩ := trodVars_none hV
  have hbulk : Rows.uptoBulkAll ([d0, d1]) ≤ 1048576 := of_decide_eq_true (by simpa [Rows.uptoSmall] using hk)
  obtain ⟨s0, rfl, hd0, _, hs0⟩ := Go.ChangeMaps.open_string Try.underlying9 (hval 0 9 v0 rfl rfl) h0
  obtain ⟨s1, rfl, hd1, _, hs1⟩ := Go.ChangeMaps.open_string Try.underlying9 (hval 1 9 v1 rfl rfl) h1
  refine (shipWords_walk _ _ W (by have := bulk_str2 hd0 hd1 hbulk; omega) (by have := bulk_str2 hd0 hd1 hbulk; omega)).mono fun e W' ⟨he, hb⟩ => ?_
  subst he
  refine ⟨_, rfl, law_post rfl rfl (tb := 4) (by kernel_rfl) Try.underlying4 ?_ hW' hb⟩
  rw [Try.params4]
  intro t ht
  simp only [List.mem_cons, List.not_mem_nil, or_false] at ht
  rcases ht with rfl | rfl <;> exact ⟨by kernel_rfl, of_decide_eq_true (by kernel_rfl)⟩

set_option maxRecDepth 100000 in
theorem shipWords_lifted (os : Os) (started : os.Started) (H : Type) (enc : TypeId × Value → H) (F : Stop.Interp) :
    ReturnsInHanded {} Try.checked os 4 .any ((Rows.OpenSpec.upto Rows.shipWordsSpec).pre6 enc Try.prog Try.f4 Rows.shipWordsUptoRow.domain false) (((Rows.OpenSpec.upto Rows.shipWordsSpec).at F).post enc Try.prog Try.f4 false true false false) := by
  refine returnsInHanded_of_cond (C := Try.checked) (s := Rows.OpenSpec.upto Rows.shipWordsSpec) (k := Rows.uptoSmall) rfl own started (by kernel_rfl) Try.func4
    (OpenSpec.witness (enc := enc) (C := Try.checked) (s := Rows.OpenSpec.upto Rows.shipWordsSpec) (k := Rows.uptoSmall) rfl false ⟨#[], #[.string ⟨#[]⟩, .string ⟨#[]⟩], []⟩ 8 (by kernel_rfl) (by kernel_rfl) (by kernel_rfl)
      (x := ([.lit (.string []), .lit (.string [])], [], [])) (by kernel_rfl) rfl (by kernel_rfl)) ?_
  intro W base args ds gs before hval hW _ hk _
  exact shipWords_calls H enc W base args ds gs before hval hW hk

theorem shipWords_holds : Rows.ShipWordsUptoSaid :=
  OpenClaim.holds_of_cond 4 Try.f4 rfl rfl rfl rfl rfl rfl rfl ⟨rfl, rfl, rfl, rfl, rfl⟩ rfl rfl rfl rfl rfl (by kernel_rfl) Try.func4 (by kernel_rfl)
    (of_decide_eq_true (by kernel_rfl)) (by unfold Func.isWrapper; first | (rw [if_pos (by decide +kernel)]; kernel_rfl) | (rw [if_neg (by decide +kernel)]; exact ⟨rfl, rfl⟩))
    (fun os started H enc _ F => shipWords_lifted os started H enc F)

end Go.Proofs.Ytbkgkmmjlihpeaa
