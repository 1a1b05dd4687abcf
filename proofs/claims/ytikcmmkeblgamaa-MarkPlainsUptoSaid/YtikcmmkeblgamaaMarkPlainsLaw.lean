/-
  MarkPlains is proved, in its second form: for all documents whose reading stays below the given bound, Plain and Words answer as the reference's PlainOf and WordsOf do, with DocError's error.
-/
import Derived.Test.YtikcmmkeblgamaaPlainWords
import Derived.Test.YtikcmmkeblgamaaLaw
import Derived.Laws.BytesArg
namespace Go.Proofs.Ytikcmmkeblgamaa
open Go.RowKit Go.ChangeShapes Go.WideShapes Go.ChangeAt Go.Deep

theorem conv_own {w : World} {B : Nat} {A : Option Addr} {m c : Nat} {bs : List UInt8} (h : OwnM B w (.slice A m c) m bs) :
    (convert 76 9 (.slice A m c)).run Try.prog w = .ok (.string ⟨bs.toArray⟩) w := by
  have hl := ownM_len h
  subst hl
  cases A with
  | none =>
    obtain ⟨A', c', hv, _, _, hA⟩ := own_form h
    cases hv
    have h0 : bs = [] := by
      cases bs with
      | nil => rfl
      | cons a r =>
        obtain ⟨g, hg, _⟩ := hA (by simp)
        cases hg
    subst h0
    exact run_convert_bytes_nil (P := Try.prog) w 76 5 Try.underlying76 Try.underlying5 _ _ _ Try.underlying9
  | some a =>
    refine run_convert_bytes_back w 76 9 5 a c bs Try.underlying76 Try.underlying5 Try.underlying9 (fun j hj => ?_)
    obtain ⟨A', c', hv, _, _, hA⟩ := own_form h
    cases hv
    obtain ⟨g, hg, _, _⟩ := hA (by omega)
    cases hg
    have hadd : (⟨g, 0, none⟩ : Addr).add j = ⟨g, j, none⟩ := by unfold Addr.add; split <;> simp_all
    rw [hadd]
    exact own_cell h (byteCells_get (List.getElem?_eq_getElem hj))

/-- a plain text as a string -/
def plainStr (l : List Node) : ByteArray := ⟨(plainL 0 l).toArray⟩

def PlainRes (l : List Node) (w : World) (e : Ending) (w' : World) : Prop :=
  Below w.heap.size w w' ∧ ((docErr l ≠ 0 ∧ e = .returned (.tuple #[.string ⟨#[]⟩, .int .i64 (docErr l)])) ∨ (docErr l = 0 ∧ e = .returned (.tuple #[.string (plainStr l), .int .i64 0])))
def WordsRes2 (l : List Node) (w : World) (e : Ending) (w' : World) : Prop :=
  Below w.heap.size w w' ∧ ((docErr l ≠ 0 ∧ e = .returned (.tuple #[.int .i64 0, .int .i64 (docErr l)])) ∨ (docErr l = 0 ∧ e = .returned (.tuple #[.int .i64 (wordsF (plainL 0 l)).1, .int .i64 0])))

set_option maxHeartbeats 1000000 in
theorem markPlain_any (l : List Node) (v : Value) (w : World) (h : NodesAt w v l) (ht : weight l ≤ 1073741824) : Calls Try.prog 15 #[v] w (PlainRes l w) := by
  have H := Lib.hid h; clear h
  have htt : total l ≤ 1073741824 := by have := total_weight _ l (Nat.le_refl _); omega
  by_cases h0 : docErr l = 0
  · have H0 := Lib.hid h0; clear h0
    go_enter Try.func15, Try.ntmps15
    go_wp2_with fail
    refine (check_any l v _ H.out htt).mono ?_
    rw [H0.out]
    rintro e w1 ⟨rfl, hb⟩
    have HB := Lib.hid hb; clear hb
    have HO := Lib.hid (World.ownsRow_nil w1 w1.heap.size 5 1)
    go_wp2_with fail
    go_must (refine (plainInto_any w1 _ l v [] none 0 0 _ (Nat.le_refl _) (H.out.keep (Keeps.of_below HB.out)) (Below.refl _ _) HO.out (by omega)).mono ?_)
    rintro e w2 ⟨A, m, c, rfl, own, bel, kt⟩
    rw [List.nil_append] at own
    have hback := conv_own own
    have HB2 := Lib.hid (HB.out.trans (bel.mono HB.out.size)); clear bel kt own
    go_wp2_with fail
    go_ret2
    exact ⟨HB2.out, Or.inr ⟨H0.out, rfl⟩⟩
  · have g1 : (docErr l != 0) = true := by simp [h0]
    have H0 := Lib.hid h0; clear h0
    go_enter Try.func15, Try.ntmps15
    go_wp2_with fail
    refine (check_any l v _ H.out htt).mono ?_
    rintro e w1 ⟨rfl, hb⟩
    have HB := Lib.hid hb; clear hb
    go_wp2_with fail
    go_ret2
    exact ⟨HB.out, Or.inl ⟨H0.out, rfl⟩⟩

set_option maxHeartbeats 1000000 in
theorem markWords_any (l : List Node) (v : Value) (w : World) (h : NodesAt w v l) (ht : weight l ≤ 1073741824) : Calls Try.prog 16 #[v] w (WordsRes2 l w) := by
  have H := Lib.hid h; clear h
  have htt : total l ≤ 1073741824 := by have := total_weight _ l (Nat.le_refl _); omega
  by_cases h0 : docErr l = 0
  · have H0 := Lib.hid h0; clear h0
    go_enter Try.func16, Try.ntmps16
    go_wp2_with fail
    refine (check_any l v _ H.out htt).mono ?_
    rw [H0.out]
    rintro e w1 ⟨rfl, hb⟩
    have HB := Lib.hid hb; clear hb
    go_wp2_with fail
    go_must (refine (words_any l v _ (H.out.keep (Keeps.of_below HB.out)) ht).mono ?_)
    rintro e w2 ⟨rfl, bel⟩
    have HB2 := Lib.hid (HB.out.trans (bel.mono HB.out.size)); clear bel
    go_wp2_with fail
    go_ret2
    exact ⟨HB2.out, Or.inr ⟨H0.out, rfl⟩⟩
  · have g1 : (docErr l != 0) = true := by simp [h0]
    have H0 := Lib.hid h0; clear h0
    go_enter Try.func16, Try.ntmps16
    go_wp2_with fail
    refine (check_any l v _ H.out htt).mono ?_
    rintro e w1 ⟨rfl, hb⟩
    have HB := Lib.hid hb; clear hb
    go_wp2_with fail
    go_ret2
    exact ⟨HB.out, Or.inl ⟨H0.out, rfl⟩⟩

set_option maxHeartbeats 1000000 in
theorem markPlains_walk (l : List Node) (v : Value) (w : World) (h : NodesAt w v l) (ht : weight l ≤ 1073741824) :
    Calls Try.prog 5 #[v] w fun e w' => e = .returned (.bool true) ∧ Below w.heap.size w w' := by
  have H := Lib.hid h; clear h
  have htt : total l ≤ 1073741824 := by have := total_weight _ l (Nat.le_refl _); omega
  by_cases h0 : docErr l = 0
  · have HKl := Lib.hid (docErr_kidless h0)
    have H0 := Lib.hid h0; clear h0
    go_enter Try.func5, Try.ntmps5
    go_wp2_with fail
    refine (markPlain_any l v _ H.out ht).mono ?_
    rintro e w1 ⟨hb, ⟨hn, rfl⟩ | ⟨_, rfl⟩⟩
    · exact absurd H0.out hn
    have HB := Lib.hid hb; clear hb
    go_wp2_with fail
    refine (markWords_any l v _ (H.out.keep (Keeps.of_below HB.out)) ht).mono ?_
    rintro e w2 ⟨hb, ⟨hn, rfl⟩ | ⟨_, rfl⟩⟩
    · exact absurd H0.out hn
    have HB2 := Lib.hid (HB.out.trans (hb.mono HB.out.size)); clear hb
    go_wp2_with fail
    refine (docError_any l v _ (H.out.keep (Keeps.of_below HB2.out)) htt).mono ?_
    rw [H0.out]
    rintro e w3 ⟨rfl, hb⟩
    have HB3 := Lib.hid (HB2.out.trans (hb.mono HB2.out.size)); clear hb
    go_wp2_with fail
    refine (plainOf_any _ l v _ (Nat.le_refl _) (H.out.keep (Keeps.of_below HB3.out)) ht HKl.out).mono ?_
    rintro e w4 ⟨s, rfl, hs, hb⟩
    have hse : s = plainStr l := by apply bytes_ext; rw [hs]; simp [plainStr]
    subst hse
    have hsz : (plainStr l).size ≤ 1073741824 := by rw [← size_toList, hs]; have := plain_len l 0; omega
    have HS := Lib.hid hs; clear hs
    have HB4 := Lib.hid (HB3.out.trans (hb.mono HB3.out.size)); clear hb
    go_wp2_with fail
    refine (wordsOf_any (plainStr l) _ hsz).mono ?_
    rw [HS.out]
    rintro e w5 ⟨rfl, rfl⟩
    have g3 : (((wordsF (plainL 0 l)).1 : Int) == ((wordsF (plainL 0 l)).1 : Int)) = true := by simp
    go_wp2_with fail
    go_ret
    exact ⟨rfl, HB4.out⟩
  · have g1 : (docErr l != 0) = true := by simp [h0]
    have g2 : (docErr l == docErr l) = true := by simp
    have H0 := Lib.hid h0; clear h0
    go_enter Try.func5, Try.ntmps5
    go_wp2_with fail
    refine (markPlain_any l v _ H.out ht).mono ?_
    rintro e w1 ⟨hb, ⟨_, rfl⟩ | ⟨hn, rfl⟩⟩
    rotate_left
    · exact absurd hn H0.out
    have HB := Lib.hid hb; clear hb
    go_wp2_with fail
    refine (markWords_any l v _ (H.out.keep (Keeps.of_below HB.out)) ht).mono ?_
    rintro e w2 ⟨hb, ⟨_, rfl⟩ | ⟨hn, rfl⟩⟩
    rotate_left
    · exact absurd hn H0.out
    have HB2 := Lib.hid (HB.out.trans (hb.mono HB.out.size)); clear hb
    go_wp2_with fail
    refine (docError_any l v _ (H.out.keep (Keeps.of_below HB2.out)) htt).mono ?_
    rintro e w3 ⟨rfl, hb⟩
    have HB3 := Lib.hid (HB2.out.trans (hb.mono HB2.out.size)); clear hb
    go_wp2_with fail
    go_ret
    exact ⟨rfl, HB3.out⟩

set_option maxRecDepth 100000 in
theorem markPlains_calls (H : Type) (enc : TypeId × Value → H) (W : World) (base : Nat) (args : Array Value) (ds gs : List (DataW H)) (before : List MemPlace)
    (hval : ∀ (j : Nat) t v, Try.f5.params[j]? = some t → args[j]? = some v → Value.okWide Try.prog W .any base t v)
    (hW : DataW.Whole enc Try.prog Try.f5.params.toList Rows.markPlainsSpec.vars false W args.toList ds gs before) (hk : Rows.uptoSmall H (ds ++ gs) = true) :
    Calls Try.prog 5 args W fun e W' => ∃ v, e = .returned v ∧ Rows.markPlainsSpec.post enc Try.prog Try.f5 false true false false W args v W' := by
  have hW' := hW
  obtain ⟨p, q, hA0, hV, rfl, hfz, hnd⟩ := hW
  have hA : DataW.TrodAll enc Try.prog W 0 (fun _ => true) true Try.f5.params.toList args.toList ds p := hA0
  rw [Try.params5] at hA hval
  obtain ⟨v0, d0, rfl, rfl, h0⟩ := trodAll_one hA
  obtain ⟨rfl, rfl⟩ := trodVars_none hV
  have hbulk : Rows.uptoBulkAll ([d0]) ≤ 1048576 := of_decide_eq_true (by simpa [Rows.uptoSmall] using hk)
  obtain ⟨fu0, g0⟩ := h0
  obtain ⟨u0, l0, e0, n0, w0⟩ := open_nodes _ _ _ g0
  obtain ⟨a0, len0, cap0, rfl⟩ := okWide_slice Try.underlying31 (hval 0 31 v0 rfl rfl)
  simp only [Value.cells, List.cons.injEq, and_true] at e0
  subst e0
  refine (markPlains_walk l0 _ W n0 (by have := bulk_mem (show d0 ∈ [d0] by simp); have : weight l0 + 1 ≤ Rows.uptoBulk d0 := w0; omega)).mono fun e W' ⟨he, hb⟩ => ?_
  subst he
  refine ⟨_, rfl, law_post rfl rfl (tb := 4) (by kernel_rfl) Try.underlying4 ?_ hW' hb⟩
  rw [Try.params5]
  intro t ht
  simp only [List.mem_cons, List.not_mem_nil, or_false] at ht
  subst ht
  exact ⟨by kernel_rfl, of_decide_eq_true (by kernel_rfl)⟩

set_option maxRecDepth 100000 in
theorem markPlains_lifted (os : Os) (started : os.Started) (H : Type) (enc : TypeId × Value → H) (F : Stop.Interp) :
    ReturnsInHanded {} Try.checked os 5 .any ((Rows.OpenSpec.upto Rows.markPlainsSpec).pre6 enc Try.prog Try.f5 Rows.markPlainsUptoRow.domain false) (((Rows.OpenSpec.upto Rows.markPlainsSpec).at F).post enc Try.prog Try.f5 false true false false) := by
  refine returnsInHanded_of_cond (C := Try.checked) (s := Rows.OpenSpec.upto Rows.markPlainsSpec) (k := Rows.uptoSmall) rfl own started (by kernel_rfl) Try.func5
    (OpenSpec.witness (enc := enc) (C := Try.checked) (s := Rows.OpenSpec.upto Rows.markPlainsSpec) (k := Rows.uptoSmall) rfl false ⟨#[], #[.slice none 0 0], []⟩ 8 (by kernel_rfl) (by kernel_rfl) (by kernel_rfl)
      (x := ([.nil], [], [])) (by kernel_rfl) rfl (by kernel_rfl)) ?_
  intro W base args ds gs before hval hW _ hk _
  exact markPlains_calls H enc W base args ds gs before hval hW hk

theorem markPlains_holds : Rows.MarkPlainsUptoSaid :=
  OpenClaim.holds_of_cond 5 Try.f5 rfl rfl rfl rfl rfl rfl rfl ⟨rfl, rfl, rfl, rfl, rfl⟩ rfl rfl rfl rfl rfl (by kernel_rfl) Try.func5 (by kernel_rfl)
    (of_decide_eq_true (by kernel_rfl)) (by unfold Func.isWrapper; first | (rw [if_pos (by decide +kernel)]; kernel_rfl) | (rw [if_neg (by decide +kernel)]; exact ⟨rfl, rfl⟩))
    (fun os started H enc _ F => markPlains_lifted os started H enc F)
