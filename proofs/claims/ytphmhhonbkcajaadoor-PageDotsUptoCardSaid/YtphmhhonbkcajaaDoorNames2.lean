/-
  mastref1.Sorted, mastref1.NamesOf.
-/
import Derived.Test.YtphmhhonbkcajaaDoorNames
import Derived.Laws.AppendOwnNone
namespace Go.Proofs.YtphmhhonbkcajaaDoor
open Go.RowKit Go.Deep

theorem grown_below2 {w wr wa w1 : World} {r : Option Nat} (h : w.grownBy wr r) (ha : Below w.heap.size wr wa) (hb : Below w.heap.size wa w1) : w.grownBy w1 r :=
  have hc := ha.trans hb
  ⟨hc.os.trans h.os, hc.tape.trans h.tape, hc.output.trans h.output, Nat.le_trans h.size hc.size, fun x hx hne => (hc.block x hx).trans (h.block x hx hne)⟩
theorem own_lower {w : World} {B B' : Nat} {e : TypeId} {K : Nat} {v : Value} {n : Nat} {xs : List Value} (h : w.ownsRow B e K v n xs) (hB : B' ≤ B) : w.ownsRow B' e K v n xs := by
  refine ⟨h.1, ?_⟩
  rcases h.2 with hn | ⟨g, cap, cur, rfl, hb, rest⟩
  · exact .inl hn
  · exact .inr ⟨g, cap, cur, rfl, Nat.le_trans hB hb, rest⟩
/-- append of another row of the call's own -/
theorem wpList_join {P : Program} {ops : Array Oper} {rest : List Oper} {o : Oper} {a : Act} {Q : Exit → Act → World → Prop} (W : World) (hgd : o.guard = none) (s x : Operand) (t : TypeId)
    (ho : o.op = .call { callee := .builtin .append, args := #[s, x], argTypes := #[t, t] })
    (B : Nat) (e : TypeId) (z : Value) (bytes : Nat) (ht : P.underlying t = some (.slice e)) (hi : (P.info? e).map (fun i => (i.zero, i.size, i.bytes)) = some (some z, 1, bytes)) (hzs : z.cells.size = 1)
    (v : Value) (n : Nat) (xs : List Value) (hs : a.eval s = v) (hown : W.ownsRow B e 1 v n xs)
    (B2 : Nat) (u : Value) (m : Nat) (ys : List Value) (hx : a.eval x = u) (hu : W.ownsRow B2 e 1 u m ys) (h1 : ∀ y ∈ ys, y.oneCell' = true)
    (hn : (n + m) * bytes ≤ 140737488355328) (hn' : n + m ≤ maxLen) (hB : B ≤ W.heap.size)
    (h : ∀ A c w', w'.ownsRow B e 1 (.slice A (n + m) c) (n + m) (xs ++ ys) → Below B W w' → W.heap.size ≤ w'.heap.size → wpList P ops Q rest (a.put o.dst (.slice A (n + m) c)) w') :
    wpList P ops Q (o :: rest) a W := by
  obtain ⟨i, hi1, hi2, hi3, hi4⟩ := info_parts hi
  rcases hu.2 with ⟨rfl, hm⟩ | ⟨g, cap, cur, rfl, hBg, hg, hnc, hcm, hcs, htake⟩
  · subst hm
    have hy : ys = [] := List.eq_nil_of_length_eq_zero (by have := hu.1; omega)
    subst hy
    refine wpList_append_own_none hgd s x t ho B e i 1 ht hi1 v n xs hs hown hx ?_
    obtain ⟨A, c, rfl, _, _, _⟩ := own_form hown
    exact h A c W (by simpa using hown) (Below.refl _ _) (Nat.le_refl _)
  · refine wpList_append_own_at (P := P) W hgd s x t ho B e i z 1 bytes ht hi1 hi2 hi3 hi4 hzs (by omega) v n xs hs hown ⟨g, 0, none⟩ m cap ys hx hu.1 ?_ h1 hn' hn hB ?_
    · intro j y hj
      have hadd : (⟨g, 0, none⟩ : Addr).add j = ⟨g, j, none⟩ := by unfold Addr.add; split <;> simp_all
      rw [hadd]
      exact own_cell hu hj
    · intro v' w' h2 hg2 _ _
      obtain ⟨A, c, rfl, _, _, _⟩ := own_form h2
      exact h A c w' h2 (below_of_grown hg2 hB (own_block_ge hown)) hg2.size

theorem sort_q (B : Nat) (L : List Str) (A : Option Addr) (m c : Nat) (w : World) (hm : m = L.length) (own : w.ownsRow B 9 1 (.slice A m c) m (strCells L)) (hl : m ≤ 1073741824) :
    Calls Tryd.prog 29 #[.slice A m c] w fun e w' => e = .returned (.tuple #[]) ∧ w'.ownsRow B 9 1 (.slice A m c) m (strCells (L.mergeSort leS)) ∧ w.grownBy w' (Value.slice A m c).ownBlock := by
  rcases Nat.eq_zero_or_pos m with h0 | h0
  · subst h0
    have : L = [] := List.eq_nil_of_length_eq_zero hm.symm
    subst this
    refine (Tryd.sort_Strings_none A c w).mono fun e w' ⟨h1, h2⟩ => ⟨h1, ?_, ?_⟩
    · rw [h2, List.mergeSort_nil]; exact own
    · rw [h2]; exact World.grownBy.refl _ _
  · obtain ⟨A', c', hv, hcm, hnc, hA⟩ := own_form own
    cases hv
    obtain ⟨g, rfl, hBg, hgl⟩ := hA h0
    obtain ⟨cur, hcb, hcl, hct, _, _, _⟩ := own_block own
    rw [hm, Nat.mul_one] at hct
    subst hm
    have hH : Sort.Holds encStr w g 0 L.toArray := holds_of_block hcb (by unfold strCells at hct; simpa using hct)
    refine (Tryd.sort_Strings g 0 c L w hH hgl (by omega)).mono fun e w' ⟨h1, n, os, h2⟩ => ⟨h1, ?_, ?_⟩
    · rw [h2]
      exact ownsRow_sorted (by rw [List.length_mergeSort]) hBg hcb hnc hcm (by simpa using hcl)
    · rw [h2]
      exact grownBy_sorted _

/-- the one before a place -/
def prevS (S : List Str) (i : Nat) : Option Str := if i = 0 then none else S[i - 1]?
theorem prevS_succ {S : List Str} {i : Nat} {x : Str} (h : S[i]? = some x) : prevS S (i + 1) = some x := by unfold prevS; rw [if_neg (by omega), Nat.add_sub_cancel]; exact h
theorem ddF_step {S : List Str} {i : Nat} {x : Str} (h : S[i]? = some x) : ddF (prevS S i) (S.drop i) = if prevS S i = some x then ddF (prevS S (i + 1)) (S.drop (i + 1)) else x :: ddF (prevS S (i + 1)) (S.drop (i + 1)) := by
  rw [prevS_succ h]
  obtain ⟨hk, rfl⟩ := List.getElem?_eq_some_iff.1 h
  rw [List.drop_eq_getElem_cons hk, ddF_cons]

set_option maxRecDepth 100000 in
set_option maxHeartbeats 4000000 in
theorem sorted_q (B : Nat) (L : List Str) (A : Option Addr) (m0 c : Nat) (R : List Str) (w : World) (hm0 : m0 = L.length) (own : w.ownsRow B 9 1 (.slice A m0 c) m0 (strCells L)) (hl : m0 ≤ 1073741824) (hR : canon L = R) :
    Calls Tryd.prog 19 #[.slice A m0 c] w fun e w' => ∃ A' m' c', e = .returned (.slice A' m' c') ∧ Hid (m' = R.length) ∧ w'.ownsRow w.heap.size 9 1 (.slice A' m' c') m' (strCells R) ∧ w.grownBy w' (Value.slice A m0 c).ownBlock := by
  obtain ⟨A', c', hv, hcm, hnc, hA⟩ := own_form own
  cases hv
  have HO := Lib.hid own; clear own
  have HM0 := Lib.hid hm0
  unfold maxLen at hcm
  obtain ⟨S, hS⟩ : ∃ S, L.mergeSort leS = S := ⟨_, rfl⟩
  have hSl : S.length = m0 := by rw [← hS, List.length_mergeSort, hm0]
  have HR := Lib.hid (show R = ddF (prevS S 0) (S.drop 0) by rw [← hR, ← hS]; rfl)
  have HS := Lib.hid hS
  clear hS hR hm0
  go_enter Tryd.func19, Tryd.ntmps19
  go_wp2_with (go_at_call 29; go_must (refine (sort_q B L A m0 c _ HM0.out HO.out hl).mono ?_); rintro e w1 ⟨rfl, own1, hg1⟩)
  rw [HS.out] at own1
  have HO1 := Lib.hid own1
  have HG1 := Lib.hid hg1
  have hw1 := hg1.size
  have HFr := Lib.hid (show ∀ g, (Value.slice A m0 c).ownBlock = some g → g < w.heap.size from fun g hg => (HO.out.lt g hg).2)
  clear own1 hg1
  go_loopw [3, 10] (fun t3 t wr => ∃ (i m : Nat) (Ao : Option Addr) (co : Nat) (o : List Str), i ≤ m0 ∧ t = .int .i64 i ∧ t3 = .slice Ao m co ∧ Hid (m = o.length) ∧ Hid (wr.ownsRow w.heap.size 9 1 (.slice Ao m co) m (strCells o)) ∧ Hid (R = o ++ ddF (prevS S i) (S.drop i)) ∧ Hid (wr.ownsRow B 9 1 (.slice A m0 c) m0 (strCells S)) ∧ Hid (w.grownBy wr (Value.slice A m0 c).ownBlock) ∧ m ≤ i) (fun _ t _ => m0 - (intOf t).toNat)
  case atStart => exact ⟨0, 0, none, 0, [], Nat.zero_le _, rfl, rfl, rfl, World.ownsRow_nil _ _ _ _, HR.out, HO1.out, HG1.out, Nat.le_refl _⟩
  case round =>
    obtain ⟨i, m, Ao, co, o, hi, rfl, rfl, hm, hown, hr, hos, hgr, hmi⟩ := hrel
    by_cases hlt : i < m0
    · obtain ⟨g, rfl, hBg, hgl⟩ := hA (by omega)
      obtain ⟨x, hx⟩ : ∃ x, S[i]? = some x := ⟨_, List.getElem?_eq_getElem (by omega)⟩
      have q0 := own_cell hos.out (strCells_get hx)
      obtain ⟨z, hz⟩ : ∃ z : ByteArray, (⟨x.toArray⟩ : ByteArray) = z := ⟨_, rfl⟩
      have hzl : z.toList = x := by rw [← hz]; exact mk_list x
      rw [hz] at q0
      have hstep := ddF_step hx
      have hwr := hgr.out.size
      have HApart := Lib.hid (show Apart (.slice Ao m co) (.slice (some ⟨g, 0, none⟩) m0 c) from fun g' h1 h2 => by
        have h3 := hown.out.lt g' h1
        have h4 := HFr.out g' h2
        omega)
      by_cases hi0 : i = 0
      · have b0 : ((i : Int) == 0) = true := by simp; omega
        have HT := Lib.hid (show R = (o ++ [x]) ++ ddF (prevS S (i + 1)) (S.drop (i + 1)) by
          rw [hr.out, hstep, if_neg (by unfold prevS; rw [if_pos hi0]; simp), List.append_assoc]; rfl)
        have HX := Lib.hid (show strCells o ++ [.string z] = strCells (o ++ [x]) by rw [strCells_append, ← hz]; rfl)
        clear hx hz hzl hstep hi0
        have HOX := hown
        go_wp2_with (at_builtin; have hh := HOX.out.alloc (.cells #[.string z] 9); have k1 : (m + 1) * 16 ≤ 140737488355328 := (by omega); have k2 : m + 1 ≤ maxLen := (by unfold maxLen; omega); have k3 : w.heap.size ≤ (World.alloc wr (.cells #[.string z] 9)).heap.size := (by simp; omega); have k4 := cell_new wr [.string z] 9 (World.heap wr).size rfl; go_must (refine wpList_push _ rfl (.tmp 26) (.tmp 28) 33 rfl w.heap.size 9 (.string ⟨#[]⟩) 1 16 Tryd.underlying33 info_strN rfl (by omega) (.slice Ao m co) m _ rfl hh [.string z] rfl _ (by first | rfl | simp) k4 (one_str _) k1 k2 k3 ?_); clear hh k1 k2 k3 k4; intro g1 c1 w1 own1 hg1 hgg hb1)
        have HO7 := Lib.hid own1
        have HB7 := Lib.hid hb1
        have HOS := Lib.hid ((hos.out.alloc (.cells #[.string z] 9)).kept hg1 HApart.out.symm.or)
        clear own1 hg1 hb1
        go_roundw
        case rel =>
          refine ⟨i + 1, m + 1, some ⟨g1, 0, none⟩, c1, o ++ [x], by omega, by go_num, rfl, (show _ = _ by rw [List.length_append, ← hm.out]; rfl), (show World.ownsRow _ _ _ _ _ _ _ by rw [← HX.out]; exact HO7.out), HT.out, HOS.out, ?_, by omega⟩
          exact grown_below2 hgr.out ((Below.refl _ wr).alloc hwr _) HB7.out
        case measure => simp [intOf]; omega

      · obtain ⟨j, hj⟩ : ∃ j : Nat, i = j + 1 := ⟨i - 1, by omega⟩
        obtain ⟨y, hy⟩ : ∃ y, S[j]? = some y := ⟨_, List.getElem?_eq_getElem (by omega)⟩
        have q1 := own_cell hos.out (strCells_get hy)
        obtain ⟨zy, hzy⟩ : ∃ z : ByteArray, (⟨y.toArray⟩ : ByteArray) = z := ⟨_, rfl⟩
        have hzyl : zy.toList = y := by rw [← hzy]; exact mk_list y
        rw [hzy] at q1
        have hp : prevS S i = some y := by unfold prevS; rw [if_neg hi0, hj, Nat.add_sub_cancel]; exact hy
        have b0 : ((i : Int) == 0) = false := by simp; omega
        have f0 : IntKind.i64.wrap ((i : Int) - 1) = (j : Int) := by rw [IntKind.wrap_i64]; omega
        have f1 : (j : Int) < (m0 : Int) := by omega
        have f2 : j < m0 := by omega
        by_cases hxy : y = x
        · have b1 : (z.toList == zy.toList) = true := by rw [hzl, hzyl, hxy]; simp
          have b2 : (z.toList != zy.toList) = false := by rw [hzl, hzyl, hxy]; simp
          have HT := Lib.hid (show R = o ++ ddF (prevS S (i + 1)) (S.drop (i + 1)) by rw [hr.out, hstep, if_pos (by rw [hp, hxy])])
          clear hx hz hzl hstep hi0 hj hy hzy hzyl hp hxy
          go_wp2_with fail
          go_roundw
          case rel => exact ⟨i + 1, m, Ao, co, o, by omega, by go_num, rfl, hm, hown, HT.out, hos, hgr, by omega⟩
          case measure => simp [intOf]; omega
        · have b1 : (z.toList == zy.toList) = false := by rw [hzl, hzyl]; simpa using Ne.symm hxy
          have b2 : (z.toList != zy.toList) = true := by rw [hzl, hzyl]; simpa using Ne.symm hxy
          have HT := Lib.hid (show R = (o ++ [x]) ++ ddF (prevS S (i + 1)) (S.drop (i + 1)) by
            rw [hr.out, hstep, if_neg (by rw [hp]; simpa using hxy), List.append_assoc]; rfl)
          have HX := Lib.hid (show strCells o ++ [.string z] = strCells (o ++ [x]) by rw [strCells_append, ← hz]; rfl)
          clear hx hz hzl hstep hi0 hj hy hzy hzyl hp hxy
          have HOX := hown
          go_wp2_with (at_builtin; have hh := HOX.out.alloc (.cells #[.string z] 9); have k1 : (m + 1) * 16 ≤ 140737488355328 := (by omega); have k2 : m + 1 ≤ maxLen := (by unfold maxLen; omega); have k3 : w.heap.size ≤ (World.alloc wr (.cells #[.string z] 9)).heap.size := (by simp; omega); have k4 := cell_new wr [.string z] 9 (World.heap wr).size rfl; go_must (refine wpList_push _ rfl (.tmp 26) (.tmp 28) 33 rfl w.heap.size 9 (.string ⟨#[]⟩) 1 16 Tryd.underlying33 info_strN rfl (by omega) (.slice Ao m co) m _ rfl hh [.string z] rfl _ (by first | rfl | simp) k4 (one_str _) k1 k2 k3 ?_); clear hh k1 k2 k3 k4; intro g1 c1 w1 own1 hg1 hgg hb1)
          have HO7 := Lib.hid own1
          have HB7 := Lib.hid hb1
          have HOS := Lib.hid ((hos.out.alloc (.cells #[.string z] 9)).kept hg1 HApart.out.symm.or)
          clear own1 hg1 hb1
          go_roundw
          case rel =>
            refine ⟨i + 1, m + 1, some ⟨g1, 0, none⟩, c1, o ++ [x], by omega, by go_num, rfl, (show _ = _ by rw [List.length_append, ← hm.out]; rfl), (show World.ownsRow _ _ _ _ _ _ _ by rw [← HX.out]; exact HO7.out), HT.out, HOS.out, ?_, by omega⟩
            exact grown_below2 hgr.out ((Below.refl _ wr).alloc hwr _) HB7.out
          case measure => simp [intOf]; omega

    · have HT := Lib.hid (show R = o by rw [hr.out, List.drop_eq_nil_of_le (by omega), ddF_nil, List.append_nil])
      go_wp2_with fail
      go_ret
      rw [HT.out]
      exact ⟨_, _, _, rfl, hm, hown.out, hgr.out⟩

end Go.Proofs.YtphmhhonbkcajaaDoor
