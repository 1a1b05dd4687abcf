/-
  MarkSummaries is proved, in its second form: for all documents and numbers whose reading stays below the given bound, Summary hands back the first blocks with so many words, and whether there are more, with DocError's error, or ErrRange.
-/
import Derived.Test.YtikcmmkeblgamaaSummary
import Derived.Test.YtikcmmkeblgamaaSameDoc
import Derived.Test.YtikcmmkeblgamaaLaw
namespace Go.Proofs.Ytikcmmkeblgamaa
open Go.RowKit Go.ChangeShapes Go.WideShapes Go.ChangeAt Go.Deep

set_option maxHeartbeats 2000000 in
theorem summary_any (l : List Node) (v : Value) (d : Int) (w : World) (h : NodesAt w v l) (ht : weight l ≤ 1073741824) :
    Calls Try.prog 19 #[v, .int .i64 d] w (SumRes d l w) := by
  have htt : total l ≤ 1073741824 := by have := total_weight _ l (Nat.le_refl _); omega
  by_cases h0 : docErr l = 0
  · by_cases hd : d < 0 ∨ 20000 < d
    · have H := Lib.hid h; clear h
      have HR := Lib.hid (And.intro h0 hd)
      have H0 := Lib.hid h0; clear h0
      rcases hd with hd | hd
      · have g1 : decide (d < 0) = true := by simp; omega
        go_enter Try.func19, Try.ntmps19
        go_wp2_with fail
        refine (check_any l v _ H.out htt).mono ?_
        rw [H0.out]
        rintro e w1 ⟨rfl, hb⟩
        have HB := Lib.hid hb; clear hb
        go_wp2_with fail
        go_ret3
        exact ⟨HB.out, Or.inr (Or.inl ⟨HR.out.1, HR.out.2, rfl⟩)⟩
      · have g1 : decide (d < 0) = false := by simp; omega
        have g2 : decide (20000 < d) = true := by simp; omega
        go_enter Try.func19, Try.ntmps19
        go_wp2_with fail
        refine (check_any l v _ H.out htt).mono ?_
        rw [H0.out]
        rintro e w1 ⟨rfl, hb⟩
        have HB := Lib.hid hb; clear hb
        go_wp2_with fail
        go_ret3
        exact ⟨HB.out, Or.inr (Or.inl ⟨HR.out.1, HR.out.2, rfl⟩)⟩
    · exact summary_good l v d w h ht h0 (by omega) (by omega)
  · have H := Lib.hid h; clear h
    have g1 : (docErr l != 0) = true := by simp [h0]
    have H0 := Lib.hid h0; clear h0
    go_enter Try.func19, Try.ntmps19
    go_wp2_with fail
    refine (check_any l v _ H.out htt).mono ?_
    rintro e w1 ⟨rfl, hb⟩
    have HB := Lib.hid hb; clear hb
    go_wp2_with fail
    go_ret3
    exact ⟨HB.out, Or.inl ⟨H0.out, rfl⟩⟩

theorem kidless_one {l : List Node} {k : Nat} {n : Node} (h : Kidless l) (hn : l[k]? = some n) : Kidless [n] := by
  obtain ⟨a, b⟩ := h.at_ hn
  cases n
  simp only [Kidless]
  exact ⟨a, b, trivial⟩

theorem plainOf_v (n : Node) (v : Value) (w : World) (h : NodesAt w v [n]) (ht : weight [n] ≤ 1073741824) (hk : Kidless [n]) : Calls Try.prog 17 #[v] w (StrRes w (plainL 0 [n])) := plainOf_any _ [n] v w (Nat.le_refl _) h ht hk

theorem wordsOf_v (s : ByteArray) (m : Nat) (w : World) (hs : s.size ≤ 1073741824) (hm : (wordsF s.data.toList).1 = m) : Calls Try.prog 18 #[.string s] w fun e w' => e = .returned (.int .i64 m) ∧ w = w' := by
  subst hm
  exact wordsOf_any s w hs

set_option maxRecDepth 100000 in
set_option maxHeartbeats 2000000 in
theorem markSummaries_walk (l : List Node) (v : Value) (d : Int) (w : World) (h : NodesAt w v l) (hx : I64 d) (ht : weight l ≤ 1073741824) :
    Calls Try.prog 6 #[v, .int .i64 d] w fun e w' => e = .returned (.bool true) ∧ Below w.heap.size w w' := by
  have hx1 := hx.1
  have hx2 := hx.2
  clear hx
  have htt : total l ≤ 1073741824 := by have := total_weight _ l (Nat.le_refl _); omega
  have H := Lib.hid h
  obtain ⟨A, c, bl, o, kv, rfl, hlc, hc, hA, hcell, hkid⟩ := h.inv
  have HCm := Lib.hid hc
  unfold maxLen at hc
  have HCell := Lib.hid hcell; clear hcell
  have HKid := Lib.hid hkid; clear hkid
  have hll := total_len l
  clear h
  go_enter Try.func6, Try.ntmps6
  go_wp2_with fail
  refine (summary_any l _ d _ H.out ht).mono ?_
  rintro e w1 ⟨hb, ⟨h0, rfl⟩ | ⟨h0, hd, rfl⟩ | ⟨h0, hd1, hd2, K, A5, c5, hstop, rfl, hT⟩⟩
  · have g1 : (docErr l != 0) = true := by simp [h0]
    have g2 : (docErr l == 0) = false := by simp [h0]
    have H0 := Lib.hid h0; clear h0
    have HB := Lib.hid hb; clear hb
    go_wp2_with fail
    refine (docError_any l _ _ (H.out.keep (Keeps.of_below HB.out)) htt).mono ?_
    rintro e w2 ⟨rfl, hb⟩
    have HB2 := Lib.hid (HB.out.trans (hb.mono HB.out.size)); clear hb
    go_wp2_with fail
    go_ret
    exact ⟨rfl, HB2.out⟩
  · have H0 := Lib.hid h0; clear h0
    have HB := Lib.hid hb; clear hb
    rcases hd with hd | hd
    · have g1 : decide (d < 0) = true := by simp; omega
      go_wp2_with fail
      refine (docError_any l _ _ (H.out.keep (Keeps.of_below HB.out)) htt).mono ?_
      rw [H0.out]
      rintro e w2 ⟨rfl, hb⟩
      have HB2 := Lib.hid (HB.out.trans (hb.mono HB.out.size)); clear hb
      go_wp2_with fail
      go_ret
      exact ⟨rfl, HB2.out⟩
    · have g1 : decide (d < 0) = false := by simp; omega
      have g2 : decide (20000 < d) = true := by simp; omega
      go_wp2_with fail
      refine (docError_any l _ _ (H.out.keep (Keeps.of_below HB.out)) htt).mono ?_
      rw [H0.out]
      rintro e w2 ⟨rfl, hb⟩
      have HB2 := Lib.hid (HB.out.trans (hb.mono HB.out.size)); clear hb
      go_wp2_with fail
      go_ret
      exact ⟨rfl, HB2.out⟩
  · have HKl := Lib.hid (docErr_kidless h0)
    have H0 := Lib.hid h0; clear h0
    have HB := Lib.hid hb; clear hb
    have g1 : decide (d < 0) = false := by simp; omega
    have g2 : decide (20000 < d) = false := by simp; omega
    have hK := hstop.1
    have HStop := Lib.hid hstop; clear hstop
    have HT := Lib.hid hT; clear hT
    generalize hmore : decide (K < l.length) = more
    have HMore := Lib.hid hmore; clear hmore
    go_wp2_with fail
    refine (docError_any l _ _ (H.out.keep (Keeps.of_below HB.out)) htt).mono ?_
    rw [H0.out]
    rintro e w2 ⟨rfl, hb⟩
    have HB2 := Lib.hid (HB.out.trans (hb.mono HB.out.size))
    have HT2 := Lib.hid (HT.out.keep (Keeps.of_below hb)); clear hb
    go_wp2_with fail
    clear g1 g2
    go_loopw [9, 10] (fun t9 t8 wr => ∃ (k : Nat), k ≤ l.length ∧ t8 = .int .i64 k ∧ t9 = .int .i64 (sumWords l k : Nat) ∧ Hid (∀ j, j < k → (sumWords l j : Int) < d) ∧ Hid (Below w2.heap.size w2 wr)) (fun _ t _ => l.length - (intOf t).toNat)
    case atStart => exact ⟨0, Nat.zero_le _, rfl, by simp [sumWords, sumBy], fun j hj => absurd hj (by omega), Below.refl _ _⟩
    case round =>
      obtain ⟨k, hk, rfl, rfl, hall, hbel⟩ := hrel
      have hsl := sumWords_le l k hk
      have hwl := weight_take_le l k
      obtain ⟨S, hS⟩ : ∃ S, sumWords l k = S := ⟨_, rfl⟩
      rw [hS]
      rw [hS] at hsl
      have HS := Lib.hid hS; clear hS
      have HBr := Lib.hid (HB2.out.trans (hbel.out.mono HB2.out.size))
      by_cases hlt : k < l.length
      · by_cases hsd : (S : Int) < d
        · have hA' := hA (by rintro rfl; simp at hlt)
          subst hA'
          obtain ⟨n, hn⟩ : ∃ n, l[k]? = some n := ⟨_, List.getElem?_eq_getElem hlt⟩
          have HNn := Lib.hid (NodesAt.one hlc HCm.out hn ((HCell.out k n hn).keep (Keeps.of_below HBr.out)) ((HKid.out k n hn).keep (Keeps.of_below HBr.out)))
          have HK1 := Lib.hid (kidless_one HKl.out hn)
          obtain ⟨W, hW⟩ : ∃ W, nodeWords n = W := ⟨_, rfl⟩
          have HSu := Lib.hid (show sumWords l (k + 1) = S + W by rw [sumWords_succ hn, HS.out, hW])
          have hwt := weight_take hn
          have hw1 : weight [n] ≤ 1073741824 := by rw [weight_one]; omega
          have hW2 : W ≤ 1073741824 := by rw [← hW]; have := nodeWords_le n; omega
          have HW := Lib.hid hW; clear hW
          clear hn hwt hsl hwl
          have hck : ¬ c = k := by omega
          have HSd := Lib.hid hsd
          go_wp2_with fail
          go_must (refine (plainOf_v n _ _ HNn.out hw1 HK1.out).mono ?_)
          rintro e w3 ⟨s, rfl, hs, hb⟩
          have hsz : s.size ≤ 1073741824 := by rw [← size_toList, hs]; have := plain_len [n] 0; omega
          have HWs := Lib.hid (show (wordsF s.data.toList).1 = W by rw [hs]; exact HW.out)
          clear hs
          have HB3 := Lib.hid (hbel.out.trans (hb.mono hbel.out.size)); clear hb
          go_wp2_with fail
          go_must (refine (wordsOf_v s W _ hsz HWs.out).mono ?_)
          rintro e w4 ⟨rfl, rfl⟩
          go_wp2_with fail
          go_roundw
          case rel =>
            refine ⟨k + 1, by omega, by go_num, by rw [HSu.out]; go_num, fun j hj => ?_, HB3⟩
            rcases Nat.lt_succ_iff_lt_or_eq.1 hj with h5 | rfl
            · exact hall.out j h5
            · rw [HS.out]; exact HSd.out
          case measure => simp [intOf]; omega
        · have HEq := Lib.hid (HStop.out.unique (show StopAt l d k from ⟨hk, hall.out, Or.inr (by rw [HS.out]; omega)⟩))
          have HT3 := Lib.hid (show NodesAt wr (.slice A5 k c5) (l.take k) by rw [← HEq.out]; exact HT2.out.keep (Keeps.of_below hbel.out))
          have HTake := Lib.hid (NodesAt.take (k := k) (H.out.keep (Keeps.of_below HBr.out)) hk)
          have hm : more = decide (k < l.length) := by rw [← HEq.out]; exact HMore.out.symm
          have hkK : K = k := HEq.out
          clear hsl hwl
          subst hkK
          subst hm
          go_wp2_with fail
          go_must (refine (sameDoc_any _ (l.take K) (l.take K) _ _ _ (Nat.le_refl _) HT3.out HTake.out).mono ?_)
          rw [same_refl]
          rintro e w5 ⟨rfl, hb⟩
          have HB5 := Lib.hid (HBr.out.trans (hb.mono HBr.out.size)); clear hb
          go_wp2_with fail
          go_ret
          exact ⟨rfl, HB5.out⟩
      · have HEq := Lib.hid (HStop.out.unique (show StopAt l d k from ⟨hk, hall.out, Or.inl (by omega)⟩))
        have HT3 := Lib.hid (show NodesAt wr (.slice A5 k c5) (l.take k) by rw [← HEq.out]; exact HT2.out.keep (Keeps.of_below hbel.out))
        have HTake := Lib.hid (NodesAt.take (k := k) (H.out.keep (Keeps.of_below HBr.out)) hk)
        have hm : more = decide (k < l.length) := by rw [← HEq.out]; exact HMore.out.symm
        have hkK : K = k := HEq.out
        clear hsl hwl
        subst hkK
        subst hm
        go_wp2_with fail
        go_must (refine (sameDoc_any _ (l.take K) (l.take K) _ _ _ (Nat.le_refl _) HT3.out HTake.out).mono ?_)
        rw [same_refl]
        rintro e w5 ⟨rfl, hb⟩
        have HB5 := Lib.hid (HBr.out.trans (hb.mono HBr.out.size)); clear hb
        go_wp2_with fail
        go_ret
        exact ⟨rfl, HB5.out⟩

set_option maxRecDepth 100000 in
theorem markSummaries_calls (H : Type) (enc : TypeId × Value → H) (W : World) (base : Nat) (args : Array Value) (ds gs : List (DataW H)) (before : List MemPlace)
    (hval : ∀ (j : Nat) t v, Try.f6.params[j]? = some t → args[j]? = some v → Value.okWide Try.prog W .any base t v)
    (hW : DataW.Whole enc Try.prog Try.f6.params.toList Rows.markSummariesSpec.vars false W args.toList ds gs before) (hk : Rows.uptoSmall H (ds ++ gs) = true) :
    Calls Try.prog 6 args W fun e W' => ∃ v, e = .returned v ∧ Rows.markSummariesSpec.post enc Try.prog Try.f6 false true false false W args v W' := by
  have hW' := hW
  obtain ⟨p, q, hA0, hV, rfl, hfz, hnd⟩ := hW
  have hA : DataW.TrodAll enc Try.prog W 0 (fun _ => true) true Try.f6.params.toList args.toList ds p := hA0
  rw [Try.params6] at hA hval
  obtain ⟨v0, v1, d0, d1, p0, p1, rfl, rfl, rfl, h0, h1⟩ := trodAll_two hA
  obtain ⟨rfl, rfl⟩ := trodVars_none hV
  have hbulk : Rows.uptoBulkAll ([d0, d1]) ≤ 1048576 := of_decide_eq_true (by simpa [Rows.uptoSmall] using hk)
  obtain ⟨fu0, g0⟩ := h0
  obtain ⟨u0, l0, e0, n0, w0⟩ := open_nodes _ _ _ g0
  obtain ⟨a0, len0, cap0, rfl⟩ := okWide_slice Try.underlying31 (hval 0 31 v0 rfl rfl)
  simp only [Value.cells, List.cons.injEq, and_true] at e0
  subst e0
  obtain ⟨x1, rfl, hd1, _, x1w⟩ := open_int Try.underlying3 (hval 1 3 v1 rfl rfl) h1
  refine (markSummaries_walk l0 _ x1 W n0 (I64.of_wf x1w) (by have := bulk_mem (show d0 ∈ [d0, d1] by simp); have : weight l0 + 1 ≤ Rows.uptoBulk d0 := w0; omega)).mono fun e W' ⟨he, hb⟩ => ?_
  subst he
  refine ⟨_, rfl, law_post rfl rfl (tb := 4) (by kernel_rfl) Try.underlying4 ?_ hW' hb⟩
  rw [Try.params6]
  intro t ht
  simp only [List.mem_cons, List.not_mem_nil, or_false] at ht
  rcases ht with rfl | rfl
  · exact ⟨by kernel_rfl, of_decide_eq_true (by kernel_rfl)⟩
  · exact ⟨by kernel_rfl, of_decide_eq_true (by kernel_rfl)⟩

set_option maxRecDepth 100000 in
theorem markSummaries_lifted (os : Os) (started : os.Started) (H : Type) (enc : TypeId × Value → H) (F : Stop.Interp) :
    ReturnsInHanded {} Try.checked os 6 .any ((Rows.OpenSpec.upto Rows.markSummariesSpec).pre6 enc Try.prog Try.f6 Rows.markSummariesUptoRow.domain false) (((Rows.OpenSpec.upto Rows.markSummariesSpec).at F).post enc Try.prog Try.f6 false true false false) := by
  refine returnsInHanded_of_cond (C := Try.checked) (s := Rows.OpenSpec.upto Rows.markSummariesSpec) (k := Rows.uptoSmall) rfl own started (by kernel_rfl) Try.func6
    (OpenSpec.witness (enc := enc) (C := Try.checked) (s := Rows.OpenSpec.upto Rows.markSummariesSpec) (k := Rows.uptoSmall) rfl false ⟨#[], #[.slice none 0 0, .int .i64 0], []⟩ 8 (by kernel_rfl) (by kernel_rfl) (by kernel_rfl)
      (x := ([.nil, .lit (.int .i64 0)], [], [])) (by kernel_rfl) rfl (by kernel_rfl)) ?_
  intro W base args ds gs before hval hW _ hk _
  exact markSummaries_calls H enc W base args ds gs before hval hW hk

theorem markSummaries_holds : Rows.MarkSummariesUptoSaid :=
  OpenClaim.holds_of_cond 6 Try.f6 rfl rfl rfl rfl rfl rfl rfl ⟨rfl, rfl, rfl, rfl, rfl⟩ rfl rfl rfl rfl rfl (by kernel_rfl) Try.func6 (by kernel_rfl)
    (of_decide_eq_true (by kernel_rfl)) (by unfold Func.isWrapper; first | (rw [if_pos (by decide +kernel)]; kernel_rfl) | (rw [if_neg (by decide +kernel)]; exact ⟨rfl, rfl⟩))
    (fun os started H enc _ F => markSummaries_lifted os started H enc F)
