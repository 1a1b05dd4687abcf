/-
  PageNames is proved, in its second form: for all parts and sets whose reading stays below the given bound, Shortcodes and Missing answer as the reference's NamesOf and MissingOf do.
-/
import Derived.Test.YtebhbgamdhjdkaaNames2
import Derived.Test.YtebhbgamdhjdkaaLaw
namespace Go.Proofs.Ytebhbgamdhjdkaa
open Go.RowKit Go.ChangeShapes Go.WideShapes Go.ChangeAt Go.Deep

/-- the name of a shortcode's template -/
def shortN (s : Str) : ByteArray := (⟨#[115, 104, 111, 114, 116, 47]⟩ : ByteArray) ++ ⟨s.toArray⟩
/-- the names without a template -/
def missF (S : List (ByteArray × ByteArray)) (l : List Str) : List Str := l.filter fun s => !(hasS S (shortN s))
theorem missF_take {S : List (ByteArray × ByteArray)} {l : List Str} {j : Nat} {x : Str} (h : l[j]? = some x) : missF S (l.take (j + 1)) = missF S (l.take j) ++ (if hasS S (shortN x) = true then [] else [x]) := by
  obtain ⟨hk, rfl⟩ := List.getElem?_eq_some_iff.1 h
  unfold missF
  rw [List.take_succ_eq_append_getElem hk, List.filter_append]
  congr 1
  rw [List.filter_cons]
  cases hasS S (shortN l[j]) <;> simp

set_option maxRecDepth 100000 in
set_option maxHeartbeats 4000000 in
theorem missing_q (l : List Prt) (S : List (ByteArray × ByteArray)) (v u : Value) (R : List Str) (w : World) (h : PrtsAt w v l) (hs : SrcsAt w u S) (ht : totalP l ≤ 1073741824) (hw : weightP l ≤ 1073741824) (hR : missF S (namesC l) = R) :
    Calls Try.prog 12 #[v, u] w (NamesPost R w) := by
  have HP := Lib.hid h; clear h
  have HS := Lib.hid hs; clear hs
  have HR := Lib.hid hR; clear hR
  have HSize := Lib.hid (fun (x : Str) (hx : x ∈ namesC l) => Nat.le_trans (namesC_size hx) hw)
  clear hw
  obtain ⟨C, hC⟩ : ∃ C, namesC l = C := ⟨_, rfl⟩
  have hCl : C.length ≤ 1073741824 := by rw [← hC]; exact Nat.le_trans (namesC_len _) ht
  rw [hC] at HR HSize
  have HC := Lib.hid hC; clear hC
  go_enter Try.func12, Try.ntmps12
  go_wp2_with (go_at_call 10; go_must (refine (shortcodes_q _ l v _ (Nat.le_refl _) HP.out ht).mono ?_); rw [HC.out]; rintro e w1 ⟨A2, c2, rfl, own2, hb1⟩; have HO2 := Lib.hid own2; have HB1 := Lib.hid hb1; clear own2 hb1)
  go_loopw [5, 11] (fun t5 t wr => ∃ (j m : Nat) (Ao : Option Addr) (co : Nat), j ≤ C.length ∧ t = .int .i64 j ∧ t5 = .slice Ao m co ∧ Hid (m = (missF S (C.take j)).length) ∧ Hid (wr.ownsRow w1.heap.size 9 1 (.slice Ao m co) m (strCells (missF S (C.take j)))) ∧ Hid (Below w1.heap.size w1 wr) ∧ m ≤ j) (fun _ t _ => C.length - (intOf t).toNat)
  case atStart => exact ⟨0, 0, none, 0, Nat.zero_le _, rfl, rfl, rfl, World.ownsRow_nil _ _ _ _, Below.refl _ _, Nat.le_refl _⟩
  case round =>
    obtain ⟨j, m, Ao, co, hj, rfl, rfl, hm, hown, hbel, hmj⟩ := hrel
    by_cases hjl : j < C.length
    · obtain ⟨x, hx⟩ : ∃ x, C[j]? = some x := ⟨_, List.getElem?_eq_getElem hjl⟩
      have hxs := HSize.out x (List.mem_of_getElem? hx)
      have HOc := Lib.hid (HO2.out.kept (grown_below (r := none) hbel.out) (by cases hx : (Value.slice A2 C.length c2).ownBlock <;> simp))
      obtain ⟨gc, rfl⟩ : ∃ g, A2 = some ⟨g, 0, none⟩ := by
        obtain ⟨A', c', hv, _, _, hA'⟩ := own_form HOc.out
        cases hv
        obtain ⟨g, h1, h2, _⟩ := hA' (by omega)
        exact ⟨g, h1⟩
      have q0 := own_cell HOc.out (strCells_get hx)
      obtain ⟨z, hz⟩ : ∃ z : ByteArray, (⟨x.toArray⟩ : ByteArray) = z := ⟨_, rfl⟩
      have hzs : z.size ≤ 1073741824 := by rw [← hz]; exact hxs
      rw [hz] at q0
      have HT := missF_take hx (S := S)
      rw [show shortN x = (⟨#[115, 104, 111, 114, 116, 47]⟩ : ByteArray) ++ z by rw [← hz]; rfl] at HT
      have HX := Lib.hid (show ∀ o, strCells o ++ [.string z] = strCells (o ++ [x]) from fun o => by rw [strCells_append, ← hz]; rfl)
      clear hx hz hxs
      have HSr := Lib.hid (HS.out.keep (Keeps.of_below (HB1.out.trans (hbel.out.mono HB1.out.size))))
      cases hhas : hasS S ((⟨#[115, 104, 111, 114, 116, 47]⟩ : ByteArray) ++ z)
      · have HHas := Lib.hid hhas
        rw [hhas] at HT
        have HT2 := Lib.hid HT
        clear hhas HT
        go_wp2_with (first
          | (go_at_call 23; go_must (refine (has_q S u _ false _ HSr.out HHas.out).mono ?_); rintro e w3 ⟨rfl, hb3⟩; have HB3 := Lib.hid (hbel.out.trans (hb3.mono hbel.out.size)); have HOX := Lib.hid (hown.out.kept (grown_below (r := none) hb3) (by cases hx : (Value.slice Ao m co).ownBlock <;> simp)); have hsz3 := HB3.out.size; clear hb3)
          | (at_builtin; have hh := HOX.out.alloc (.cells #[.string z] 9); have k1 : (m + 1) * 16 ≤ 140737488355328 := (by omega); have k2 : m + 1 ≤ maxLen := (by unfold maxLen; omega); have k3 : w1.heap.size ≤ (World.alloc w3 (.cells #[.string z] 9)).heap.size := (by simp; omega); have k4 := cell_new w3 [.string z] 9 (World.heap w3).size rfl; go_must (refine wpList_push _ rfl (.tmp 20) (.tmp 22) 31 rfl w1.heap.size 9 (.string ⟨#[]⟩) 1 16 Try.underlying31 info_strN rfl (by omega) (.slice Ao m co) m _ rfl hh [.string z] rfl _ rfl k4 (one_str _) k1 k2 k3 ?_); clear hh k1 k2 k3 k4; intro g1 c1 w4 own4 hg4 hgg hb4))
        have HO4 := Lib.hid own4
        have HB4 := Lib.hid ((HB3.out.alloc hsz3 (.cells #[.string z] 9)).trans hb4)
        clear own4 hg4 hb4 hgg
        go_roundw
        case rel => exact ⟨j + 1, m + 1, some ⟨g1, 0, none⟩, c1, by omega, by go_num, rfl, (show _ = _ by rw [HT2.out]; simp; exact hm.out), (show World.ownsRow _ _ _ _ _ _ _ by rw [HT2.out]; simp only [Bool.false_eq_true, if_false]; rw [← HX.out]; exact HO4.out), HB4.out, by omega⟩
        case measure => simp [intOf]; omega
      · have HHas := Lib.hid hhas
        rw [hhas] at HT
        have HT2 := Lib.hid HT
        clear hhas HT
        go_wp2_with (first
          | (go_at_call 23; go_must (refine (has_q S u _ true _ HSr.out HHas.out).mono ?_); rintro e w3 ⟨rfl, hb3⟩; have HB3 := Lib.hid (hbel.out.trans (hb3.mono hbel.out.size)); have HOX := Lib.hid (hown.out.kept (grown_below (r := none) hb3) (by cases hx : (Value.slice Ao m co).ownBlock <;> simp)); clear hb3)
          | fail)
        go_roundw
        case rel => exact ⟨j + 1, m, Ao, co, by omega, by go_num, rfl, (show _ = _ by rw [HT2.out]; simp; exact hm.out), (show World.ownsRow _ _ _ _ _ _ _ by rw [HT2.out]; simp only [if_true, List.append_nil]; exact HOX.out), HB3.out, by omega⟩
        case measure => simp [intOf]; omega
    · have HT := Lib.hid (show missF S (C.take j) = R by rw [← HR.out, List.take_of_length_le (by omega)])
      rw [HT.out] at hm hown
      go_wp2_with fail
      go_ret
      have hm2 := hm.out
      subst hm2
      exact ⟨_, _, rfl, own_lower hown.out HB1.out.size, HB1.out.trans (hbel.out.mono HB1.out.size)⟩

set_option maxRecDepth 100000 in
set_option maxHeartbeats 4000000 in
theorem missingOf_q (l : List Prt) (S : List (ByteArray × ByteArray)) (v u : Value) (R : List Str) (w : World) (h : PrtsAt w v l) (hs : SrcsAt w u S) (ht : totalP l ≤ 1073741824) (hw : weightP l ≤ 1073741824) (hR : missF S (namesC l) = R) :
    Calls Try.prog 13 #[v, u] w (NamesPost R w) := by
  have HP := Lib.hid h; clear h
  have HS := Lib.hid hs; clear hs
  have HR := Lib.hid hR; clear hR
  have HSize := Lib.hid (fun (x : Str) (hx : x ∈ namesC l) => Nat.le_trans (namesC_size hx) hw)
  clear hw
  obtain ⟨C, hC⟩ : ∃ C, namesC l = C := ⟨_, rfl⟩
  have hCl : C.length ≤ 1073741824 := by rw [← hC]; exact Nat.le_trans (namesC_len _) ht
  rw [hC] at HR HSize
  have HC := Lib.hid hC; clear hC
  go_enter Try.func13, Try.ntmps13
  go_wp2_with (go_at_call 11; go_must (refine (namesOf_q _ l v _ (Nat.le_refl _) HP.out ht).mono ?_); rw [HC.out]; rintro e w1 ⟨A2, c2, rfl, own2, hb1⟩; have HO2 := Lib.hid own2; have HB1 := Lib.hid hb1; clear own2 hb1)
  go_loopw [5, 11] (fun t5 t wr => ∃ (j m : Nat) (Ao : Option Addr) (co : Nat), j ≤ C.length ∧ t = .int .i64 j ∧ t5 = .slice Ao m co ∧ Hid (m = (missF S (C.take j)).length) ∧ Hid (wr.ownsRow w1.heap.size 9 1 (.slice Ao m co) m (strCells (missF S (C.take j)))) ∧ Hid (Below w1.heap.size w1 wr) ∧ m ≤ j) (fun _ t _ => C.length - (intOf t).toNat)
  case atStart => exact ⟨0, 0, none, 0, Nat.zero_le _, rfl, rfl, rfl, World.ownsRow_nil _ _ _ _, Below.refl _ _, Nat.le_refl _⟩
  case round =>
    obtain ⟨j, m, Ao, co, hj, rfl, rfl, hm, hown, hbel, hmj⟩ := hrel
    by_cases hjl : j < C.length
    · obtain ⟨x, hx⟩ : ∃ x, C[j]? = some x := ⟨_, List.getElem?_eq_getElem hjl⟩
      have hxs := HSize.out x (List.mem_of_getElem? hx)
      have HOc := Lib.hid (HO2.out.kept (grown_below (r := none) hbel.out) (by cases hx : (Value.slice A2 C.length c2).ownBlock <;> simp))
      obtain ⟨gc, rfl⟩ : ∃ g, A2 = some ⟨g, 0, none⟩ := by
        obtain ⟨A', c', hv, _, _, hA'⟩ := own_form HOc.out
        cases hv
        obtain ⟨g, h1, h2, _⟩ := hA' (by omega)
        exact ⟨g, h1⟩
      have q0 := own_cell HOc.out (strCells_get hx)
      obtain ⟨z, hz⟩ : ∃ z : ByteArray, (⟨x.toArray⟩ : ByteArray) = z := ⟨_, rfl⟩
      have hzs : z.size ≤ 1073741824 := by rw [← hz]; exact hxs
      rw [hz] at q0
      have HT := missF_take hx (S := S)
      rw [show shortN x = (⟨#[115, 104, 111, 114, 116, 47]⟩ : ByteArray) ++ z by rw [← hz]; rfl] at HT
      have HX := Lib.hid (show ∀ o, strCells o ++ [.string z] = strCells (o ++ [x]) from fun o => by rw [strCells_append, ← hz]; rfl)
      clear hx hz hxs
      have HSr := Lib.hid (HS.out.keep (Keeps.of_below (HB1.out.trans (hbel.out.mono HB1.out.size))))
      cases hhas : hasS S ((⟨#[115, 104, 111, 114, 116, 47]⟩ : ByteArray) ++ z)
      · have HHas := Lib.hid hhas
        rw [hhas] at HT
        have HT2 := Lib.hid HT
        clear hhas HT
        go_wp2_with (first
          | (go_at_call 24; go_must (refine (inSet_q S u _ false _ HSr.out HHas.out).mono ?_); rintro e w3 ⟨rfl, hb3⟩; have HB3 := Lib.hid (hbel.out.trans (hb3.mono hbel.out.size)); have HOX := Lib.hid (hown.out.kept (grown_below (r := none) hb3) (by cases hx : (Value.slice Ao m co).ownBlock <;> simp)); have hsz3 := HB3.out.size; clear hb3)
          | (at_builtin; have hh := HOX.out.alloc (.cells #[.string z] 9); have k1 : (m + 1) * 16 ≤ 140737488355328 := (by omega); have k2 : m + 1 ≤ maxLen := (by unfold maxLen; omega); have k3 : w1.heap.size ≤ (World.alloc w3 (.cells #[.string z] 9)).heap.size := (by simp; omega); have k4 := cell_new w3 [.string z] 9 (World.heap w3).size rfl; go_must (refine wpList_push _ rfl (.tmp 20) (.tmp 22) 31 rfl w1.heap.size 9 (.string ⟨#[]⟩) 1 16 Try.underlying31 info_strN rfl (by omega) (.slice Ao m co) m _ rfl hh [.string z] rfl _ rfl k4 (one_str _) k1 k2 k3 ?_); clear hh k1 k2 k3 k4; intro g1 c1 w4 own4 hg4 hgg hb4))
        have HO4 := Lib.hid own4
        have HB4 := Lib.hid ((HB3.out.alloc hsz3 (.cells #[.string z] 9)).trans hb4)
        clear own4 hg4 hb4 hgg
        go_roundw
        case rel => exact ⟨j + 1, m + 1, some ⟨g1, 0, none⟩, c1, by omega, by go_num, rfl, (show _ = _ by rw [HT2.out]; simp; exact hm.out), (show World.ownsRow _ _ _ _ _ _ _ by rw [HT2.out]; simp only [Bool.false_eq_true, if_false]; rw [← HX.out]; exact HO4.out), HB4.out, by omega⟩
        case measure => simp [intOf]; omega
      · have HHas := Lib.hid hhas
        rw [hhas] at HT
        have HT2 := Lib.hid HT
        clear hhas HT
        go_wp2_with (first
          | (go_at_call 24; go_must (refine (inSet_q S u _ true _ HSr.out HHas.out).mono ?_); rintro e w3 ⟨rfl, hb3⟩; have HB3 := Lib.hid (hbel.out.trans (hb3.mono hbel.out.size)); have HOX := Lib.hid (hown.out.kept (grown_below (r := none) hb3) (by cases hx : (Value.slice Ao m co).ownBlock <;> simp)); clear hb3)
          | fail)
        go_roundw
        case rel => exact ⟨j + 1, m, Ao, co, by omega, by go_num, rfl, (show _ = _ by rw [HT2.out]; simp; exact hm.out), (show World.ownsRow _ _ _ _ _ _ _ by rw [HT2.out]; simp only [if_true, List.append_nil]; exact HOX.out), HB3.out, by omega⟩
        case measure => simp [intOf]; omega
    · have HT := Lib.hid (show missF S (C.take j) = R by rw [← HR.out, List.take_of_length_le (by omega)])
      rw [HT.out] at hm hown
      go_wp2_with fail
      go_ret
      have hm2 := hm.out
      subst hm2
      exact ⟨_, _, rfl, own_lower hown.out HB1.out.size, HB1.out.trans (hbel.out.mono HB1.out.size)⟩

theorem equal_rows (L : List Str) (v1 v2 : Value) (w : World) (h1 : OnesAt w v1 (strCells L)) (h2 : OnesAt w v2 (strCells L)) :
    Calls Try.prog 9 #[v1, v2] w fun e w' => e = .returned (.bool true) ∧ Below w.heap.size w w' := by
  refine (equalStrs_any _ _ v1 v2 w h1 h2).mono fun e w' ⟨he, hb⟩ => ⟨?_, hb⟩
  rw [he]
  simp

set_option maxRecDepth 100000 in
set_option maxHeartbeats 4000000 in
theorem pageNames_walk (l : List Prt) (S : List (ByteArray × ByteArray)) (v u : Value) (w : World) (h : PrtsAt w v l) (hs : SrcsAt w u S) (hw : weightP l ≤ 1073741824) :
    Calls Try.prog 4 #[v, u] w fun e w' => e = .returned (.bool true) ∧ Below w.heap.size w w' := by
  have ht : totalP l ≤ 1073741824 := Nat.le_trans (totalP_weight l) hw
  have HP := Lib.hid h; clear h
  have HS := Lib.hid hs; clear hs
  go_enter Try.func4, Try.ntmps4
  go_wp2_with fail
  go_must (refine (shortcodes_q _ l v _ (Nat.le_refl _) HP.out ht).mono ?_)
  rintro e w1 ⟨A1, c1, rfl, own1, hb1⟩
  have HB1 := Lib.hid hb1
  have HO1 := Lib.hid (OnesAt.of_own own1)
  clear own1 hb1
  go_wp2_with fail
  go_must (refine (namesOf_q _ l v _ (Nat.le_refl _) (HP.out.keep (Keeps.of_below HB1.out)) ht).mono ?_)
  rintro e w2 ⟨A2, c2, rfl, own2, hb2⟩
  have HB2 := Lib.hid (HB1.out.trans (hb2.mono HB1.out.size))
  have HO1b := Lib.hid (HO1.out.keep (Keeps.of_below hb2))
  have HO2 := Lib.hid (OnesAt.of_own own2)
  clear own2 hb2
  go_wp2_with fail
  go_must (refine (equal_rows _ _ _ _ HO1b.out HO2.out).mono ?_)
  rintro e w3 ⟨rfl, hb3⟩
  have HB3 := Lib.hid (HB2.out.trans (hb3.mono HB2.out.size))
  clear hb3
  obtain ⟨R, hR⟩ : ∃ R, missF S (namesC l) = R := ⟨_, rfl⟩
  have HR := Lib.hid hR; clear hR
  go_wp2_with fail
  go_must (refine (missing_q l S v u R _ (HP.out.keep (Keeps.of_below HB3.out)) (HS.out.keep (Keeps.of_below HB3.out)) ht hw HR.out).mono ?_)
  rintro e w4 ⟨A4, c4, rfl, own4, hb4⟩
  have HB4 := Lib.hid (HB3.out.trans (hb4.mono HB3.out.size))
  have HO4 := Lib.hid (OnesAt.of_own own4)
  clear own4 hb4
  go_wp2_with fail
  go_must (refine (missingOf_q l S v u R _ (HP.out.keep (Keeps.of_below HB4.out)) (HS.out.keep (Keeps.of_below HB4.out)) ht hw HR.out).mono ?_)
  rintro e w5 ⟨A5, c5, rfl, own5, hb5⟩
  have HB5 := Lib.hid (HB4.out.trans (hb5.mono HB4.out.size))
  have HO4b := Lib.hid (HO4.out.keep (Keeps.of_below hb5))
  have HO5 := Lib.hid (OnesAt.of_own own5)
  clear own5 hb5
  go_wp2_with fail
  go_must (refine (equal_rows _ _ _ _ HO4b.out HO5.out).mono ?_)
  rintro e w6 ⟨rfl, hb6⟩
  have HB6 := Lib.hid (HB5.out.trans (hb6.mono HB5.out.size))
  clear hb6
  go_wp2_with fail
  go_ret
  exact ⟨rfl, HB6.out⟩

set_option maxRecDepth 100000 in
theorem pageNames_calls (H : Type) (enc : TypeId × Value → H) (W : World) (base : Nat) (args : Array Value) (ds gs : List (DataW H)) (before : List MemPlace)
    (hval : ∀ (j : Nat) t v, Try.f4.params[j]? = some t → args[j]? = some v → Value.okWide Try.prog W .any base t v)
    (hW : DataW.Whole enc Try.prog Try.f4.params.toList Rows.pageNamesSpec.vars false W args.toList ds gs before) (hk : Rows.uptoSmall H (ds ++ gs) = true) :
    Calls Try.prog 4 args W fun e W' => ∃ v, e = .returned v ∧ Rows.pageNamesSpec.post enc Try.prog Try.f4 false true false false W args v W' := by
  have hW' := hW
  obtain ⟨p, q, hA0, hV, rfl, hfz, hnd⟩ := hW
  have hA : DataW.TrodAll enc Try.prog W 0 (fun _ => true) true Try.f4.params.toList args.toList ds p := hA0
  rw [Try.params4] at hA hval
  obtain ⟨v0, v1, d0, d1, p0, p1, rfl, rfl, rfl, h0, h1⟩ := trodAll_two hA
  obtain ⟨rfl, rfl⟩ := trodVars_none hV
  have hbulk : Rows.uptoBulkAll ([d0, d1]) ≤ 1048576 := of_decide_eq_true (by simpa [Rows.uptoSmall] using hk)
  obtain ⟨fu0, g0⟩ := h0
  obtain ⟨u0, l0, e0, n0, w0⟩ := open_prts _ _ _ g0
  obtain ⟨a0, len0, cap0, rfl⟩ := okWide_slice Try.underlying28 (hval 0 28 v0 rfl rfl)
  simp only [Value.cells, List.cons.injEq, and_true] at e0
  subst e0
  obtain ⟨fu1, g1⟩ := h1
  obtain ⟨u1, l1, e1, n1⟩ := open_srcs _ _ _ g1
  obtain ⟨a1, len1, cap1, rfl⟩ := okWide_slice Try.underlying29 (hval 1 29 v1 rfl rfl)
  simp only [Value.cells, List.cons.injEq, and_true] at e1
  subst e1
  refine (pageNames_walk l0 l1 _ _ W n0 n1 (by have := bulk_mem (show d0 ∈ [d0, d1] by simp); have : weightP l0 + 1 ≤ Rows.uptoBulk d0 := w0; omega)).mono fun e W' ⟨he, hb⟩ => ?_
  subst he
  refine ⟨_, rfl, law_post rfl rfl (tb := 4) (by kernel_rfl) Try.underlying4 ?_ hW' hb⟩
  rw [Try.params4]
  intro t ht
  simp only [List.mem_cons, List.not_mem_nil, or_false] at ht
  rcases ht with rfl | rfl
  · exact ⟨by kernel_rfl, of_decide_eq_true (by kernel_rfl)⟩
  · exact ⟨by kernel_rfl, of_decide_eq_true (by kernel_rfl)⟩

set_option maxRecDepth 100000 in
theorem pageNames_lifted (os : Os) (started : os.Started) (H : Type) (enc : TypeId × Value → H) (F : Stop.Interp) :
    ReturnsInHanded {} Try.checked os 4 .any ((Rows.OpenSpec.upto Rows.pageNamesSpec).pre6 enc Try.prog Try.f4 Rows.pageNamesUptoRow.domain false) (((Rows.OpenSpec.upto Rows.pageNamesSpec).at F).post enc Try.prog Try.f4 false true false false) := by
  refine returnsInHanded_of_cond (C := Try.checked) (s := Rows.OpenSpec.upto Rows.pageNamesSpec) (k := Rows.uptoSmall) rfl own started (by kernel_rfl) Try.func4
    (OpenSpec.witness (enc := enc) (C := Try.checked) (s := Rows.OpenSpec.upto Rows.pageNamesSpec) (k := Rows.uptoSmall) rfl false ⟨#[], #[.slice none 0 0, .slice none 0 0], []⟩ 8 (by kernel_rfl) (by kernel_rfl) (by kernel_rfl)
      (x := ([.nil, .nil], [], [])) (by kernel_rfl) rfl (by kernel_rfl)) ?_
  intro W base args ds gs before hval hW _ hk _
  exact pageNames_calls H enc W base args ds gs before hval hW hk

theorem pageNames_holds : Rows.PageNamesUptoSaid :=
  OpenClaim.holds_of_cond 4 Try.f4 rfl rfl rfl rfl rfl rfl rfl ⟨rfl, rfl, rfl, rfl, rfl⟩ rfl rfl rfl rfl rfl (by kernel_rfl) Try.func4 (by kernel_rfl)
    (of_decide_eq_true (by kernel_rfl)) (by unfold Func.isWrapper; first | (rw [if_pos (by decide +kernel)]; kernel_rfl) | (rw [if_neg (by decide +kernel)]; exact ⟨rfl, rfl⟩))
    (fun os started H enc _ F => pageNames_lifted os started H enc F)

end Go.Proofs.Ytebhbgamdhjdkaa
