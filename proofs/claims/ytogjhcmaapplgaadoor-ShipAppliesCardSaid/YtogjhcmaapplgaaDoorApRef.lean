/-
  mastref1.ApplyOf.
-/
import Derived.Test.YtogjhcmaapplgaaDoorApWalk
import Derived.Test.YtogjhcmaapplgaaDoorInsSort
import Derived.Test.YtogjhcmaapplgaaDoorRowSwap
import Derived.Laws.AppendOwnNone
import Derived.BigRegion
namespace Go.Proofs.YtogjhcmaapplgaaDoor
open Go.RowKit Go.Deep

theorem run_app_none {P : Program} {w : World} (base : Nat) (t ty e : TypeId) (i : TypeInfo) (size : Nat) (ht : P.underlying t = some (.slice e)) (hi : P.info? e = some i)
    (v : Value) (n : Nat) (xs : List Value) (c : Nat) (hown : w.ownsRow base e size v n xs) : (Builtin.append_ #[t, t] ty #[v, .slice none 0 c]).run P w = .ok v w := by
  rcases hown.2 with ⟨rfl, rfl⟩ | ⟨g, cap, cur, rfl, _, _, hnc, _⟩
  · simp [Builtin.append_, run_underlying ht, sizeOf, typeInfo, hi, Builtin.lenOf, Builtin.firstCells]
  · simp [Builtin.append_, run_underlying ht, sizeOf, typeInfo, hi, Builtin.lenOf, Builtin.firstCells, hnc, storeCells]
/-- append of outputs that are only read -/
theorem wpList_joinF {P : Program} {ops : Array Oper} {rest : List Oper} {o : Oper} {a : Act} {Q : Exit → Act → World → Prop} (W : World) (hgd : o.guard = none) (s x : Operand) (t : TypeId)
    (ho : o.op = .call { callee := .builtin .append, args := #[s, x], argTypes := #[t, t] })
    (B : Nat) (e : TypeId) (z : Value) (bytes : Nat) (ht : P.underlying t = some (.slice e)) (hi : (P.info? e).map (fun i => (i.zero, i.size, i.bytes)) = some (some z, 2, bytes)) (hzs : z.cells.size = 2)
    (v : Value) (n : Nat) (xs : List Value) (hs : a.eval s = v) (hown : W.ownsRow B e 2 v n xs)
    (A : Option Addr) (c : Nat) (F : List OutV) (hx : a.eval x = .slice A F.length c) (hF : OutsAt W (.slice A F.length c) F) (hn : (n + F.length) * bytes ≤ 140737488355328) (hn' : n + F.length ≤ maxLen) (hB : B ≤ W.heap.size)
    (h : ∀ A' c' w', w'.ownsRow B e 2 (.slice A' (n + F.length) c') (n + F.length) (xs ++ outsC F) → Below B W w' → wpList P ops Q rest (a.put o.dst (.slice A' (n + F.length) c')) w') :
    wpList P ops Q (o :: rest) a W := by
  obtain ⟨i, hi1, hi2, hi3, hi4⟩ := info_parts hi
  obtain ⟨A', c', b, off, hv, hlc, hcm, hA, hcell⟩ := hF
  cases hv
  by_cases h0 : F = []
  · subst h0
    obtain ⟨A1, c1, rfl, _, _, _⟩ := own_form hown
    cases A with
    | none =>
      refine wpList_plain hgd fun K hK => ?_
      have hrun := run_app_none (P := P) (w := W) B t o.type e i 2 ht hi1 _ n xs c hown
      unfold Oper.wp
      simp [execOp, ho, resolve, invoke, builtin, hs, hx, hrun, Result.andThen]
      exact hK _ _ (h A1 c1 W (by simpa [outsC] using hown) (Below.refl _ _))
    | some ad =>
      refine wpList_append_own_at (P := P) W hgd s x t ho B e i z 2 bytes ht hi1 hi2 hi3 hi4 hzs (by omega) _ n xs hs hown ad 0 c [] hx (by simp) (fun j u hj => by simp at hj) (fun u hu => by simp at hu) hn' hn hB ?_
      intro v' w' h2 hg _ _
      obtain ⟨A2, c2, rfl, _, _, _⟩ := own_form h2
      exact h A2 c2 w' h2 (below_of_grown hg hB (own_block_ge hown))
  · obtain rfl := hA h0
    refine wpList_append_own_at (P := P) W hgd s x t ho B e i z 2 bytes ht hi1 hi2 hi3 hi4 hzs (by omega) _ n xs hs hown ⟨b, off, none⟩ F.length c (outsC F) hx (outsC_len F) ?_ (outsC_one F) hn' hn hB ?_
    · intro j u hj
      have hadd : (⟨b, off, none⟩ : Addr).add j = ⟨b, off + j, none⟩ := by unfold Addr.add; split <;> simp_all
      rw [hadd]
      have hjl : j < F.length * 2 := by have := (List.getElem?_eq_some_iff.1 hj).1; rwa [outsC_len] at this
      have hi9 : j / 2 < F.length := by omega
      have hc := hcell (j / 2) F[j / 2] (List.getElem?_eq_getElem hi9)
      obtain ⟨k1, k2⟩ := outsC_at F (j / 2) F[j / 2] (List.getElem?_eq_getElem hi9)
      rcases Nat.mod_two_eq_zero_or_one j with hm | hm
      · rw [show j / 2 * 2 = j by omega, hj] at k1
        rw [k1, ← hc.c0, show off + j / 2 * 2 = off + j by omega]
      · rw [show j / 2 * 2 + 1 = j by omega, hj] at k2
        rw [k2, ← hc.c1, show off + j / 2 * 2 + 1 = off + j by omega]
    · intro v' w' h2 hg _ _
      obtain ⟨A2, c2, rfl, _, _, _⟩ := own_form h2
      exact h A2 c2 w' h2 (below_of_grown hg hB (own_block_ge hown))

def kp (l F : List OutV) (j : Nat) : List OutV := (l.take j).filter (fun x => !inB F x)
theorem inB_at {F : List OutV} {x : OutV} : inB F x = (outAtN F x.path.data.toList).isSome := by
  cases h : outAtN F x.path.data.toList with
  | none =>
    rw [outAtN, List.findIdx?_eq_none_iff] at h
    rw [inB, Option.isSome_none, List.any_eq_false]
    exact fun y hy => by rw [show (pathL y == pathL x) = _ from h y hy]; simp
  | some i =>
    rw [outAtN, List.findIdx?_eq_some_iff_getElem] at h
    obtain ⟨h1, h2, _⟩ := h
    rw [inB, Option.isSome_some, List.any_eq_true]
    exact ⟨_, List.getElem_mem h1, h2⟩
theorem kp_yes {l F : List OutV} {j : Nat} {x : OutV} (h : l[j]? = some x) (hp : outAtN F x.path.data.toList = none) : kp l F (j + 1) = kp l F j ++ [x] := by
  obtain ⟨hj, rfl⟩ := List.getElem?_eq_some_iff.1 h
  rw [kp, kp, List.take_succ_eq_append_getElem hj, List.filter_append]
  simp [inB_at, hp]
theorem kp_no {l F : List OutV} {j : Nat} {x : OutV} {i : Nat} (h : l[j]? = some x) (hp : outAtN F x.path.data.toList = some i) : kp l F (j + 1) = kp l F j := by
  obtain ⟨hj, rfl⟩ := List.getElem?_eq_some_iff.1 h
  rw [kp, kp, List.take_succ_eq_append_getElem hj, List.filter_append]
  simp [inB_at, hp]
theorem kp_len (l F : List OutV) (j : Nat) : (kp l F j).length ≤ l.length := by
  rw [kp]
  have h1 := List.length_filter_le (fun x => !inB F x) (l.take j)
  have h2 : (l.take j).length ≤ l.length := List.length_take_le' ..
  omega
theorem kp_all (l F : List OutV) (rm : Bool) : kp l F l.length ++ (if rm then [] else F) = apM l F rm := by rw [kp, List.take_length]; rfl
theorem noneB_at {l F : List OutV} {j : Nat} {x : OutV} (hx : F[j]? = some x) (hb : outAtN l x.path.data.toList = none) : noneB l F = true :=
  List.any_eq_true.2 ⟨x, List.mem_of_getElem? hx, by rw [show outAtN l (pathL x) = none from hb]; rfl⟩
theorem noneB_not {l F : List OutV} (h : ∀ (i : Nat) (x : OutV), F[i]? = some x → outAtN l x.path.data.toList ≠ none) : noneB l F = false := by
  rw [noneB, List.any_eq_false]
  intro x hx hn
  obtain ⟨i, hi⟩ := List.mem_iff_getElem?.1 hx
  rw [Option.isNone_iff_eq_none] at hn
  exact h i x hi hn
theorem outAtI_none {l : List OutV} {s : List UInt8} (h : outAtN l s = none) : outAtI l s = -1 := by rw [outAtI, h]
theorem outAtI_some {l : List OutV} {s : List UInt8} {i : Nat} (h : outAtN l s = some i) : outAtI l s = (i : Int) := by rw [outAtI, h]
theorem rise_le {l : List OutV} (h : l.Pairwise (fun x y => x.path.data.toList < y.path.data.toList)) : l.Pairwise (fun x y => ¬ pathL y < pathL x) := h.imp (fun {a b} hab h2 => absurd (List.lt_trans (show pathL a < pathL b from hab) h2) (List.lt_irrefl _))
def leP (x y : OutV) : Prop := ¬ pathL y < pathL x
theorem leP_trans : ∀ a b c : OutV, leP a b → leP b c → leP a c := fun a b c h1 h2 => by
  have k1 : pathL a ≤ pathL b := List.not_lt.1 h1
  have k2 : pathL b ≤ pathL c := List.not_lt.1 h2
  exact List.not_lt.2 (List.le_trans k1 k2)
theorem leP_lt {x y : OutV} (h : pathL x < pathL y) : leP x y := fun h2 => absurd (List.lt_trans h h2) (List.lt_irrefl _)
/-- the cells of an output in an own row, and their marks -/
theorem own_out {w : World} {B g cap n : Nat} {L : List OutV} {j : Nat} {x : OutV} (h : w.ownsRow B 30 2 (.slice (some ⟨g, 0, none⟩) n cap) n (outsC L)) (hx : L[j]? = some x) :
    w.cell? ⟨g, j * 2, none⟩ = some (.string x.path) ∧ w.cell? ⟨g, j * 2 + 1, none⟩ = some (.string x.body) ∧ w.frozen? ⟨g, j * 2, none⟩ = false ∧ w.frozen? ⟨g, j * 2 + 1, none⟩ = false := by
  obtain ⟨cur, hg, hsz, ht, _, _, _⟩ := own_block h
  obtain ⟨k0, k1⟩ := outsC_at L j x hx
  have hn : L.length = n := by have := h.1; rw [outsC_len] at this; omega
  have hj := (List.getElem?_eq_some_iff.1 hx).1
  rw [← ht, List.getElem?_take_of_lt (by omega)] at k0 k1
  refine ⟨?_, ?_, frozen_of_row w g _ _ _ hg, frozen_of_row w g _ _ _ hg⟩
  · rw [cell_of_row w g _ _ _ (0, 0) hg]; simpa using k0
  · rw [cell_of_row w g _ _ _ (0, 0) hg]; simpa using k1
theorem outs_swap (A B : List OutV) (y x : OutV) : ((((outsC (A ++ y :: x :: B)).set ((A.length + 1) * 2) (.string y.path)).set ((A.length + 1) * 2 + 1) (.string y.body)).set (A.length * 2) (.string x.path)).set (A.length * 2 + 1) (.string x.body) = outsC (A ++ x :: y :: B) := by
  have h1 : ∀ p q : OutV, outsC (A ++ p :: q :: B) = outsC A ++ Value.string p.path :: Value.string p.body :: Value.string q.path :: Value.string q.body :: outsC B := fun p q => by rw [outsC_append]; rfl
  rw [h1, h1]
  have hk : (outsC A).length = 2 * A.length := by rw [outsC_len]; omega
  have := swap4 (outsC A) (outsC B) (.string y.path) (.string y.body) (.string x.path) (.string x.body) hk
  rw [Nat.mul_comm A.length 2, Nat.mul_comm (A.length + 1) 2]
  exact this

set_option maxRecDepth 100000 in
set_option maxHeartbeats 16000000 in
theorem applyOf_q (l F : List OutV) (vl vF : Value) (rm : Bool) (w : World) (hl : OutsAt w vl l) (hF : OutsAt w vF F) (hm : MaxAt w) : Calls Tryd.prog 5 #[vl, .agg #[.bool rm, vF]] w (ApPost w.heap.size l F rm w) := by
  have HL := Lib.hid hl
  have HF := Lib.hid hF
  have HMx := Lib.hid hm; clear hm
  obtain ⟨e1, he1⟩ : ∃ e, outsE l = e := ⟨_, rfl⟩
  obtain ⟨e2, he2⟩ : ∃ e, outsE F = e := ⟨_, rfl⟩
  have HE1 := Lib.hid he1
  have HE2 := Lib.hid he2
  obtain ⟨N, hN⟩ : ∃ N, w.heap.size = N := ⟨_, rfl⟩
  have HN := Lib.hid hN
  rw [hN]
  obtain ⟨A1, c1, b1, o1, rfl, hlc1, hc1, hA1, hcell1⟩ := hl
  obtain ⟨A2, c2, b2, o2, rfl, hlc2, hc2, hA2, hcell2⟩ := hF
  have HC1 := Lib.hid hcell1
  have HA1 := Lib.hid hA1
  have HC2 := Lib.hid hcell2
  have HA2 := Lib.hid hA2
  have HX0 := Lib.hid (CB.new w #[.bool rm, .slice A2 F.length c2] 24)
  have HB0 := Lib.hid (show Below N w (w.alloc (.cells #[.bool rm, .slice A2 F.length c2] 24)) from (Below.refl _ _).alloc (by omega) _)
  unfold maxLen at hc1 hc2
  by_cases h1 : e1 = 0
  case neg =>
    have HEv := Lib.hid (apE_l (F := F) (rm := rm) he1 h1)
    have h1b : (e1 != 0) = true := by simpa using h1
    have h1c : (e1 == 0) = false := by simpa using h1
    clear he1 he2 hN hcell1 hcell2 hA1 hA2
    go_enter Tryd.func5, Tryd.ntmps5
    go_wp2_with fail
    refine (outsError_q l _ e1 _ (HL.out.keep (Keeps.alloc _ _)) (HMx.out.keep (Keeps.alloc _ _)) HE1.out).mono ?_
    rintro e w1 ⟨rfl, hb1⟩
    have B1 := Lib.hid (HB0.out.trans (hb1.mono (by have := HN.out; simp; omega))); clear hb1
    go_wp2_with fail
    go_ret2
    exact ApPost.err HEv.out h1 B1.out
  subst h1
  by_cases h2 : e2 = 0
  case neg =>
    have HEv := Lib.hid (apE_F (rm := rm) he1 he2 h2)
    have h2b : (e2 != 0) = true := by simpa using h2
    have h2c : (e2 == 0) = false := by simpa using h2
    clear he1 he2 hN hcell1 hcell2 hA1 hA2
    go_enter Tryd.func5, Tryd.ntmps5
    go_wp2_with fail
    refine (outsError_q l _ 0 _ (HL.out.keep (Keeps.alloc _ _)) (HMx.out.keep (Keeps.alloc _ _)) HE1.out).mono ?_
    rintro e w1 ⟨rfl, hb1⟩
    have X1 := Lib.hid (HX0.out.below hb1)
    have bx0 := X1.out.c 0
    have bx1 := X1.out.c 1
    have B1 := Lib.hid (HB0.out.trans (hb1.mono (by have := HN.out; simp; omega))); clear hb1
    go_wp2_with fail
    refine (outsError_q F _ e2 _ (HF.out.keep (Keeps.of_below (by rw [HN.out]; exact B1.out))) (HMx.out.keep (Keeps.of_below (by rw [HN.out]; exact B1.out))) HE2.out).mono ?_
    rintro e w2 ⟨rfl, hb2⟩
    have B2 := Lib.hid (B1.out.trans (hb2.mono (by have := B1.out.size; have := HN.out; omega))); clear hb2
    go_wp2_with fail
    go_ret2
    exact ApPost.err HEv.out h2 B2.out
  subst h2
  have hla := outsE_len he1
  have hlb := outsE_len he2
  have HPl := Lib.hid (parted_of he1)
  have HPF := Lib.hid (parted_of he2)
  have HRi := Lib.hid (outs_rise he1)
  clear he1 he2 hcell1 hcell2 hA1 hA2 hN
  cases rm
  case false =>
    go_enter Tryd.func5, Tryd.ntmps5
    go_wp2_with fail
    refine (outsError_q l _ 0 _ (HL.out.keep (Keeps.alloc _ _)) (HMx.out.keep (Keeps.alloc _ _)) HE1.out).mono ?_
    rintro e w1 ⟨rfl, hb1⟩
    have X1 := Lib.hid (HX0.out.below hb1)
    have bx0 := X1.out.c 0
    have bx1 := X1.out.c 1
    have B1 := Lib.hid (HB0.out.trans (hb1.mono (by have := HN.out; simp; omega))); clear hb1
    go_wp2_with fail
    refine (outsError_q F _ 0 _ (HF.out.keep (Keeps.of_below (by rw [HN.out]; exact B1.out))) (HMx.out.keep (Keeps.of_below (by rw [HN.out]; exact B1.out))) HE2.out).mono ?_
    rintro e w2 ⟨rfl, hb2⟩
    have X2 := Lib.hid (X1.out.below hb2)
    have B2 := Lib.hid (B1.out.trans (hb2.mono (by have := B1.out.size; have := HN.out; omega)))
    clear hb2 bx0 bx1 X1
    have bx0 := X2.out.c 0
    have bx1 := X2.out.c 1
    go_wp2_with fail
    go_loopw [32] (fun t32 wr => ∃ j : Nat, j ≤ F.length ∧ t32 = .int .i64 j ∧ Hid (CB wr w.heap.size 24 #[.bool false, .slice A2 F.length c2]) ∧ Hid (Below N w wr)) (fun t _ => F.length - (intOf t).toNat)
    case atStart => exact ⟨0, Nat.zero_le _, rfl, X2, B2⟩
    case round =>
      clear bx0 bx1 X2
      obtain ⟨j, hj, rfl, HX, HB⟩ := hrel
      have bx0 := HX.out.c 0
      have bx1 := HX.out.c 1
      have hNl := HX.out.lt
      have hNw : N ≤ wr.heap.size := by have := HB.out.size; have := HN.out; omega
      by_cases hlt : j < F.length
      · obtain ⟨x, hx⟩ : ∃ x, F[j]? = some x := ⟨_, List.getElem?_eq_getElem hlt⟩
        obtain rfl : A2 = some ⟨b2, o2, none⟩ := HA2.out (by intro h0; rw [h0] at hlt; simp at hlt)
        have kc := (HC2.out j x hx).keep (Keeps.of_below (by rw [HN.out]; exact HB.out))
        have k0 := kc.c0
        have k1 := kc.c1
        have HXx := Lib.hid hx
        clear hx kc
        go_wp2_with fail
        go_roundw
        case rel => exact ⟨j + 1, by omega, by go_num, HX.out.alloc _, HB.out.alloc hNw _⟩
        case measure => simp [intOf]; omega
      · obtain rfl : j = F.length := by omega
        have X3 := HX
        have B3 := HB
        clear HX HB hNw hNl
        go_wp2_with fail
        go_loopw [47] (fun t47 wr => ∃ j : Nat, j ≤ F.length ∧ t47 = .int .i64 j ∧ Hid (CB wr w.heap.size 24 #[.bool false, .slice A2 F.length c2]) ∧ Hid (Below N w wr)) (fun t _ => F.length - (intOf t).toNat)
        case atStart => exact ⟨0, Nat.zero_le _, rfl, X3, B3⟩
        case round =>
          clear bx0 bx1 X3
          obtain ⟨j, hj, rfl, HX, HB⟩ := hrel
          have bx0 := HX.out.c 0
          have bx1 := HX.out.c 1
          have hNl := HX.out.lt
          have hNw : N ≤ wr.heap.size := by have := HB.out.size; have := HN.out; omega
          by_cases hlt : j < F.length
          · obtain ⟨x, hx⟩ : ∃ x, F[j]? = some x := ⟨_, List.getElem?_eq_getElem hlt⟩
            obtain rfl : A2 = some ⟨b2, o2, none⟩ := HA2.out (by intro h0; rw [h0] at hlt; simp at hlt)
            have kc := (HC2.out j x hx).keep (Keeps.of_below (by rw [HN.out]; exact HB.out))
            have k0 := kc.c0
            have k1 := kc.c1
            have HXx := Lib.hid hx
            clear hx kc
            go_wp2_with fail
            go_roundw
            case rel => exact ⟨j + 1, by omega, by go_num, HX.out.alloc _, HB.out.alloc hNw _⟩
            case measure => simp [intOf]; omega
          · obtain rfl : j = F.length := by omega
            have HEr := Lib.hid (apE_put HE1.out HE2.out)
            have X4 := HX
            have B4 := HB
            clear HX HB hNw hNl
            go_wp2_with fail
            go_loopw [63, 12] (fun t63 t12 wr => ∃ (j n : Nat) (A : Option Addr) (c : Nat), j ≤ l.length ∧ t63 = .int .i64 j ∧ t12 = .slice A n c ∧ Hid (n = (kp l F j).length) ∧ Hid (wr.ownsRow (N + 1) 30 2 (.slice A n c) n (outsC (kp l F j))) ∧ Hid (CB wr w.heap.size 24 #[.bool false, .slice A2 F.length c2]) ∧ Hid (Below N w wr)) (fun t _ _ => l.length - (intOf t).toNat)
            case atStart => exact ⟨0, 0, none, 0, Nat.zero_le _, rfl, rfl, rfl, World.ownsRow_nil _ _ _ _, X4, B4⟩
            case round =>
              clear bx0 bx1 X4
              obtain ⟨j, n, A, c, hj, rfl, rfl, HNn, HOw, HX, HB⟩ := hrel
              have bx0 := HX.out.c 0
              have bx1 := HX.out.c 1
              have hNl := HX.out.lt
              have hNw : N ≤ wr.heap.size := by have := HB.out.size; have := HN.out; omega
              have hnle : n ≤ 480 := by have := kp_len l F j; have := HNn.out; omega
              by_cases hlt : j < l.length
              · obtain ⟨x, hx⟩ : ∃ x, l[j]? = some x := ⟨_, List.getElem?_eq_getElem hlt⟩
                obtain rfl : A1 = some ⟨b1, o1, none⟩ := HA1.out (by intro h0; rw [h0] at hlt; simp at hlt)
                have kc := (HC1.out j x hx).keep (Keeps.of_below (by rw [HN.out]; exact HB.out))
                have k0 := kc.c0
                have k1 := kc.c1
                have HXx := Lib.hid hx
                clear hx kc
                have HFa := Lib.hid (show OutsAt (wr.alloc (.cells #[.string x.path, .string x.body] 30)) (.slice A2 F.length c2) F from HF.out.keep (Keeps.of_below (by rw [HN.out]; exact HB.out.alloc hNw _)))
                have hN1 : N + 1 ≤ wr.heap.size := by have := HN.out; omega
                cases ho : outAtN F x.path.data.toList with
                | none =>
                  have HOi := Lib.hid (outAtI_none ho)
                  have HK := Lib.hid (kp_yes HXx.out ho)
                  clear ho
                  go_wp2_with (first | (go_at_call 12; go_must (refine (outAt_q F _ x.path (-1) _ HFa.out HOi.out).mono ?_); rintro e w4 ⟨rfl, hb4⟩; have HB4 := Lib.hid ((HB.out.alloc hNw (.cells #[.string x.path, .string x.body] 30)).trans (hb4.mono (by rw [World.size_alloc]; omega))); have HX4 := Lib.hid ((HX.out.alloc (.cells #[.string x.path, .string x.body] 30)).below hb4); have HO4 := Lib.hid (own_keepB2 (own_alloc HOw.out (.cells #[.string x.path, .string x.body] 30)) hb4); have HY4 := (CB.new wr #[.string x.path, .string x.body] 30).below hb4; have by0 := HY4.c 0; have by1 := HY4.c 1; have hz4 : N + 1 ≤ w4.heap.size := (by have h9 := hb4.size; rw [World.size_alloc] at h9; omega); clear hb4 HY4) | (at_builtin; go_loud (go_must (refine wpList_push _ rfl (.tmp 73) (.tmp 75) 22 rfl (N + 1) 30 _ 2 32 Tryd.underlying22 info_out rfl (by omega) (.slice A n c) n _ rfl (own_alloc HO4.out _) [.string x.path, .string x.body] rfl _ rfl (cell_new _ [.string x.path, .string x.body] 30 _ rfl) (two_str _ _) (by omega) (by unfold maxLen; omega) (by simp; omega) ?_); intro g7 c7 w7 own7 hg7 hgg7 hb7; have HO7 := Lib.hid own7; have HB7 := Lib.hid ((HB4.out.alloc (by omega) (.cells #[.string x.path, .string x.body] 30)).trans (hb7.mono (by omega))); have HX7 := Lib.hid ((HX4.out.alloc (.cells #[.string x.path, .string x.body] 30)).other hg7 (row_ne_low HO4.out (by have := HN.out; omega))); clear own7 hg7 hgg7 hb7)))
                  go_roundw
                  case rel => exact ⟨j + 1, n + 1, _, c7, by omega, by go_num, rfl, by rw [HK.out, List.length_append, ← HNn.out]; rfl, by rw [HK.out, outsC_snoc]; exact HO7.out, HX7, HB7⟩
                  case measure => simp [intOf]; omega
                | some i0 =>
                  have HOi := Lib.hid (outAtI_some ho)
                  have hi0 : decide ((i0 : Int) < 0) = false := by simp
                  have HK := Lib.hid (kp_no HXx.out ho)
                  clear ho
                  go_wp2_with (go_at_call 12; go_must (refine (outAt_q F _ x.path (i0 : Int) _ HFa.out HOi.out).mono ?_); rintro e w4 ⟨rfl, hb4⟩; have HB4 := Lib.hid ((HB.out.alloc hNw (.cells #[.string x.path, .string x.body] 30)).trans (hb4.mono (by rw [World.size_alloc]; omega))); have HX4 := Lib.hid ((HX.out.alloc (.cells #[.string x.path, .string x.body] 30)).below hb4); have HO4 := Lib.hid (own_keepB2 (own_alloc HOw.out (.cells #[.string x.path, .string x.body] 30)) hb4); have HY4 := (CB.new wr #[.string x.path, .string x.body] 30).below hb4; have by0 := HY4.c 0; have by1 := HY4.c 1; have hz4 : N + 1 ≤ w4.heap.size := (by have h9 := hb4.size; rw [World.size_alloc] at h9; omega); clear hb4 HY4)
                  go_roundw
                  case rel => exact ⟨j + 1, n, A, c, by omega, by go_num, rfl, by rw [HK.out]; exact HNn.out, by rw [HK.out]; exact HO4.out, HX4, HB4⟩
                  case measure => simp [intOf]; omega
              · obtain rfl : j = l.length := by omega
                have HL0 := Lib.hid (show kp l F l.length ++ F = apM l F false by rw [← kp_all l F false]; rfl)
                have HFa := Lib.hid (show OutsAt wr (.slice A2 F.length c2) F from HF.out.keep (Keeps.of_below (by rw [HN.out]; exact HB.out)))
                have hN1 : N + 1 ≤ wr.heap.size := by have := HN.out; omega
                obtain ⟨m0, hm0⟩ : ∃ m, n + F.length = m := ⟨_, rfl⟩
                have hm9 : m0 ≤ 960 := by omega
                have HM0 := Lib.hid hm0
                clear hm0
                go_wp2_with (at_builtin; go_loud (go_must (refine wpList_joinF _ rfl (.tmp 81) (.tmp 83) 22 rfl (N + 1) 30 _ 32 Tryd.underlying22 info_out rfl (.slice A n c) n _ rfl HOw.out A2 c2 F rfl HFa.out (by omega) (by unfold maxLen; omega) (by omega) ?_); intro A7 c7 w7 own7 hb7; rw [HM0.out] at own7 ⊢; rw [← outsC_append, HL0.out] at own7; have HO7 := Lib.hid own7; have HB7 := Lib.hid (HB.out.trans (hb7.mono (by omega))); clear own7 hb7))
                obtain ⟨L0, hL0⟩ : ∃ L, apM l F false = L := ⟨_, rfl⟩
                have HUq := Lib.hid (fun (U : List OutV) (hp : U.Perm (apM l F false)) hs => apR_unique (rm := false) HPl.out HPF.out hp hs)
                obtain ⟨rr, hrr⟩ : ∃ r, apR l F false = r := ⟨_, rfl⟩
                rw [hL0] at HO7 HUq
                rw [hrr] at HUq HEr
                have HRr2 := Lib.hid hrr
                have HLm := Lib.hid (show L0.length = m0 by have := HO7.out.1; rw [outsC_len] at this; omega)
                clear hrr hL0 HOw HNn HL0 HFa
                obtain ⟨A9, c9, hv9, hc9, _, hA9⟩ := own_form HO7.out
                cases hv9
                have HA9 := Lib.hid hA9
                unfold maxLen at hc9
                clear hA9
                go_loopw [87] (fun t87 wr => ∃ (i : Nat) (S C : List OutV), i ≤ m0 ∧ t87 = .int .i64 i ∧ Hid (S.length = i) ∧ Hid (S.length + C.length = m0) ∧ Hid ((S ++ C).Perm L0) ∧ Hid (S.Pairwise leP) ∧ Hid (wr.ownsRow (N + 1) 30 2 (.slice A7 m0 c7) m0 (outsC (S ++ C))) ∧ Hid (Below N w wr)) (fun t _ => m0 - (intOf t).toNat)
                case atStart => exact ⟨0, [], L0, Nat.zero_le _, rfl, rfl, Lib.hid (by have h9 := HLm.out; simp only [List.length_nil]; omega), Lib.hid (by rw [List.nil_append]), List.Pairwise.nil, HO7, HB7⟩
                case round =>
                  clear HO7 HB7 bx0 bx1 HX HB
                  obtain ⟨i, S, C, hi, rfl, HSl, HSc, HPm, HSs, HOw, HBw⟩ := hrel
                  by_cases hlt : i < m0
                  · obtain ⟨x, C', rfl⟩ : ∃ x C', C = x :: C' := by
                      cases C with
                      | nil => have h1 := HSc.out; have h2 := HSl.out; simp at h1; omega
                      | cons x C' => exact ⟨x, C', rfl⟩
                    obtain ⟨g, rfl, _, hgl⟩ := HA9.out (by omega)
                    have HIn := Lib.hid (InsAt.start HPm.out HSs.out)
                    have hi64 : (i : Int) < 9223372036854775807 := by omega
                    clear HA9
                    go_wp2_with fail
                    go_loopw [16] (fun t16 wr => ∃ (k : Nat) (A' B : List OutV), k ≤ i ∧ t16 = .int .i64 k ∧ Hid (A'.length = k) ∧ Hid (A'.length + B.length = i) ∧ Hid (InsAt leP L0 A' x B C') ∧ Hid (wr.ownsRow (N + 1) 30 2 (.slice (some ⟨g, 0, none⟩) m0 c7) m0 (outsC (A' ++ x :: (B ++ C')))) ∧ Hid (Below N w wr)) (fun t _ => (intOf t).toNat)
                    case atStart => exact ⟨i, S, [], Nat.le_refl _, rfl, HSl, Lib.hid (by have h9 := HSl.out; simp only [List.length_nil]; omega), HIn, HOw, HBw⟩
                    case round =>
                      clear HOw HBw HIn HSs HPm
                      obtain ⟨k, A', B, hk, rfl, HAl, HBl, HIn, HOw, HBw⟩ := hrel
                      have HQx := Lib.hid (own_out HOw.out (j := k) (x := x) (by rw [List.getElem?_append_right (by rw [HAl.out]; exact Nat.le_refl _), HAl.out]; simp))
                      have HCl : Hid (i + 1 + C'.length = m0) := Lib.hid (by have h1 := HSc.out; have h2 := HSl.out; simp at h1; omega)
                      by_cases hk0 : k = 0
                      · subst hk0
                        obtain rfl : A' = [] := List.eq_nil_of_length_eq_zero HAl.out
                        have HFi := Lib.hid HIn.out.first
                        clear HQx
                        go_wp2_with fail
                        go_quiet (fail)
                        go_wp2_with fail
                        go_roundw
                        case rel => exact ⟨i + 1, x :: B, C', by omega, by go_num, Lib.hid (by have h9 := HBl.out; simp only [List.length_nil] at h9; simp only [List.length_cons]; omega), Lib.hid (by have h1 := HBl.out; have h2 := HCl.out; simp only [List.length_nil] at h1; simp only [List.length_cons]; omega), HFi.out.2, HFi.out.1, own_drewN HOw.out _, Below.drewN' HBw.out _⟩
                        case measure => simp [intOf]; omega
                      · obtain ⟨A'', y, rfl⟩ : ∃ A'' y, A' = A'' ++ [y] := by
                          rcases List.eq_nil_or_concat A' with h9 | ⟨a, b, h9⟩
                          · exact absurd (by rw [← HAl.out, h9]; rfl) hk0
                          · exact ⟨a, b, by rw [h9, List.concat_eq_append]⟩
                        have hq1 : A''.length + 1 = k := by have := HAl.out; simpa using this
                        have HQy := Lib.hid (own_out HOw.out (j := k - 1) (x := y) (by rw [List.append_assoc, List.getElem?_append_right (by omega), show k - 1 - A''.length = 0 by omega]; rfl))
                        have hxp := HQx.out.1
                        have hxb := HQx.out.2.1
                        have hyp := HQy.out.1
                        have hyb := HQy.out.2.1
                        have hk1 : (0 : Int) < (k : Int) := by omega
                        have hk6 : 0 < k := by omega
                        have hk7 : decide (0 < k) = true := by simpa using hk6
                        have hk2 : (0 : Int) ≤ (k : Int) - 1 := by omega
                        have hk3 : ((k : Int) - 1).toNat = k - 1 := by omega
                        have hk4 : (k : Int) - 1 < (m0 : Int) := by omega
                        have hk5 : (k : Int) < (m0 : Int) := by omega
                        have HQ1 := Lib.hid hq1
                        clear hq1
                        by_cases hxy : pathL x < pathL y
                        · have HXY := Lib.hid hxy
                          have hle : Op.bytesLess x.path.toList y.path.toList = true := by rw [Go.ByteArray.toList_eq, Go.ByteArray.toList_eq, Go.Proofs.bytesLess_eq]; exact decide_eq_true hxy
                          clear hxy
                          go_wp2_with fail
                          go_quiet (fail)
                          go_wp2_with fail
                          have HOq := Lib.hid (own_drewN HOw.out nq)
                          have HBq := Lib.hid (Below.drewN' HBw.out nq)
                          have d0 : (wr.drewN nq).cell? ⟨g, k * 2, none⟩ = some (.string x.path) := HQx.out.1
                          have d1 : (wr.drewN nq).cell? ⟨g, k * 2 + 1, none⟩ = some (.string x.body) := HQx.out.2.1
                          have d2 : (wr.drewN nq).cell? ⟨g, (k - 1) * 2, none⟩ = some (.string y.path) := HQy.out.1
                          have d3 : (wr.drewN nq).cell? ⟨g, (k - 1) * 2 + 1, none⟩ = some (.string y.body) := HQy.out.2.1
                          have f0 : (wr.drewN nq).frozen? ⟨g, k * 2, none⟩ = false := HQx.out.2.2.1
                          have f1 : (wr.drewN nq).frozen? ⟨g, k * 2 + 1, none⟩ = false := HQx.out.2.2.2
                          have f2 : (wr.drewN nq).frozen? ⟨g, (k - 1) * 2, none⟩ = false := HQy.out.2.2.1
                          have f3 : (wr.drewN nq).frozen? ⟨g, (k - 1) * 2 + 1, none⟩ = false := HQy.out.2.2.2
                          generalize wr.drewN nq = wq at HOq HBq d0 d1 d2 d3 f0 f1 f2 f3 ⊢
                          clear hxp hxb hyp hyb HQx HQy hle hk0 HOw HBw
                          go_region
                          go_wp2_with fail
                          go_roundw
                          case rel =>
                            have hq := HQ1.out
                            subst hq
                            refine ⟨A''.length, A'', y :: B, by omega, by rw [show (((A''.length + 1 : Nat) : Int) - 1) = (A''.length : Int) by omega], rfl, Lib.hid (by have h9 := HBl.out; simp only [List.length_append, List.length_cons, List.length_nil] at h9 ⊢; omega), HIn.out.down (leP_lt HXY.out), ?_, ?_⟩
                            · have h4 := own_put (own_put (own_put (own_put HOq.out ((A''.length + 1) * 2) (.string y.path)) ((A''.length + 1) * 2 + 1) (.string y.body)) ((A''.length + 1 - 1) * 2) (.string x.path)) ((A''.length + 1 - 1) * 2 + 1) (.string x.body)
                              rw [show A'' ++ [y] ++ x :: (B ++ C') = A'' ++ y :: x :: (B ++ C') by simp, Nat.add_sub_cancel, outs_swap A'' (B ++ C') y x] at h4
                              rw [Nat.add_sub_cancel]
                              exact own_drew h4
                            · have hgN : N ≤ g := by omega
                              exact ((((HBq.out.setCell hgN _).setCell hgN _).setCell hgN _).setCell hgN _).drew
                          case measure => simp [intOf]; omega
                        · have HXY := Lib.hid hxy
                          have hle : Op.bytesLess x.path.toList y.path.toList = false := by rw [Go.ByteArray.toList_eq, Go.ByteArray.toList_eq, Go.Proofs.bytesLess_eq]; exact decide_eq_false hxy
                          have HSt := Lib.hid (HIn.out.stop leP_trans hxy)
                          clear hxy
                          go_wp2_with fail
                          go_quiet (fail)
                          go_wp2_with fail
                          go_roundw
                          case rel => exact ⟨i + 1, A'' ++ [y] ++ x :: B, C', by omega, by go_num, Lib.hid (by have h9 := HBl.out; simp only [List.length_append, List.length_cons, List.length_nil] at h9 ⊢; omega), Lib.hid (by have h1 := HBl.out; have h2 := HCl.out; simp only [List.length_append, List.length_cons, List.length_nil] at h1 ⊢; omega), HSt.out.2, HSt.out.1, Lib.hid (by have h9 := own_drewN HOw.out nq; rw [show A'' ++ [y] ++ x :: B ++ C' = A'' ++ [y] ++ x :: (B ++ C') by simp]; exact h9), Below.drewN' HBw.out _⟩
                          case measure => simp [intOf]; omega
                  · obtain rfl : i = m0 := by omega
                    obtain rfl : C = [] := List.eq_nil_of_length_eq_zero (by have h1 := HSc.out; have h2 := HSl.out; omega)
                    obtain rfl : S = rr := HUq.out S (by have := HPm.out; rwa [List.append_nil] at this) HSs.out
                    have HO6 := Lib.hid (show wr.ownsRow (N + 1) 30 2 (.slice A7 i c7) i (outsC S) by have := HOw.out; rwa [List.append_nil] at this)
                    have HN6 := HSl
                    have HB6 := HBw
                    clear HOw HBw
                    have HMx6 := Lib.hid (HMx.out.keep (Keeps.of_below (by rw [HN.out]; exact HB6.out)))
                    have HOo := Lib.hid (outs_own_n HN6.out HO6.out)
                    obtain ⟨e3, he3⟩ : ∃ e, outsE S = e := ⟨_, rfl⟩
                    have HE3 := Lib.hid he3
                    clear he3
                    by_cases h3 : e3 = 0
                    · subst h3
                      go_wp2_with fail
                      refine (outsError_q S _ 0 _ HOo.out HMx6.out HE3.out).mono ?_
                      rintro e w7 ⟨rfl, hb7⟩
                      have HO7 := Lib.hid (own_keepB2 HO6.out hb7)
                      have HB7 := Lib.hid (HB6.out.trans (hb7.mono (by have := HB6.out.size; have := HN.out; omega)))
                      clear hb7
                      go_wp2_with fail
                      go_ret2
                      exact ApPost.ok (v := .slice A7 i c7) (n := i) (HEr.out.trans HE3.out) (HN6.out.symm.trans (by rw [HRr2.out])) (by rw [HRr2.out]; exact own_baseE HO7.out (by omega)) HB7.out
                    · have HEv := Lib.hid (HEr.out.trans HE3.out)
                      have h3b : (e3 != 0) = true := by simpa using h3
                      have h3c : (e3 == 0) = false := by simpa using h3
                      go_wp2_with fail
                      refine (outsError_q S _ e3 _ HOo.out HMx6.out HE3.out).mono ?_
                      rintro e w7 ⟨rfl, hb7⟩
                      have HB7 := Lib.hid (HB6.out.trans (hb7.mono (by have := HB6.out.size; have := HN.out; omega)))
                      clear hb7
                      go_wp2_with fail
                      go_ret2
                      exact ApPost.err HEv.out h3 HB7.out
  case true =>
    go_enter Tryd.func5, Tryd.ntmps5
    go_wp2_with fail
    refine (outsError_q l _ 0 _ (HL.out.keep (Keeps.alloc _ _)) (HMx.out.keep (Keeps.alloc _ _)) HE1.out).mono ?_
    rintro e w1 ⟨rfl, hb1⟩
    have X1 := Lib.hid (HX0.out.below hb1)
    have bx0 := X1.out.c 0
    have bx1 := X1.out.c 1
    have B1 := Lib.hid (HB0.out.trans (hb1.mono (by have := HN.out; simp; omega))); clear hb1
    go_wp2_with fail
    refine (outsError_q F _ 0 _ (HF.out.keep (Keeps.of_below (by rw [HN.out]; exact B1.out))) (HMx.out.keep (Keeps.of_below (by rw [HN.out]; exact B1.out))) HE2.out).mono ?_
    rintro e w2 ⟨rfl, hb2⟩
    have X2 := Lib.hid (X1.out.below hb2)
    have B2 := Lib.hid (B1.out.trans (hb2.mono (by have := B1.out.size; have := HN.out; omega)))
    clear hb2 bx0 bx1 X1
    have bx0 := X2.out.c 0
    have bx1 := X2.out.c 1
    go_wp2_with fail
    go_loopw [32] (fun t32 wr => ∃ j : Nat, j ≤ F.length ∧ t32 = .int .i64 j ∧ Hid (CB wr w.heap.size 24 #[.bool true, .slice A2 F.length c2]) ∧ Hid (Below N w wr) ∧ Hid (∀ (i : Nat) (x : OutV), i < j → F[i]? = some x → x.body.toList = [])) (fun t _ => F.length - (intOf t).toNat)
    case atStart => exact ⟨0, Nat.zero_le _, rfl, X2, B2, fun i x hi => absurd hi (by omega)⟩
    case round =>
      clear bx0 bx1 X2
      obtain ⟨j, hj, rfl, HX, HB, HFm⟩ := hrel
      have bx0 := HX.out.c 0
      have bx1 := HX.out.c 1
      have hNl := HX.out.lt
      have hNw : N ≤ wr.heap.size := by have := HB.out.size; have := HN.out; omega
      by_cases hlt : j < F.length
      · obtain ⟨x, hx⟩ : ∃ x, F[j]? = some x := ⟨_, List.getElem?_eq_getElem hlt⟩
        obtain rfl : A2 = some ⟨b2, o2, none⟩ := HA2.out (by intro h0; rw [h0] at hlt; simp at hlt)
        have kc := (HC2.out j x hx).keep (Keeps.of_below (by rw [HN.out]; exact HB.out))
        have k0 := kc.c0
        have k1 := kc.c1
        have HXx := Lib.hid hx
        clear hx kc
        by_cases hbd : x.body.toList = []
        · have HBd := Lib.hid hbd
          have hbd2 : (x.body.toList == []) = true := by simpa using hbd
          have hbd3 : (x.body.toList != []) = false := by simpa using hbd
          go_wp2_with fail
          go_roundw
          case rel => exact ⟨j + 1, by omega, by go_num, HX.out.alloc _, HB.out.alloc hNw _, fun i y hi hy => by
            rcases Nat.lt_or_ge i j with h9 | h9
            · exact HFm.out i y h9 hy
            · obtain rfl : i = j := by omega
              rw [HXx.out] at hy
              cases hy
              exact HBd.out⟩
          case measure => simp [intOf]; omega
        · have HEv := Lib.hid (apE_form HE1.out HE2.out (formB_of HXx.out hbd))
          have hbd2 : (x.body.toList == []) = false := by simpa using hbd
          have hbd3 : (x.body.toList != []) = true := by simpa using hbd
          go_wp2_with fail
          go_ret2
          exact ApPost.err HEv.out (by decide) (HB.out.alloc hNw _)
      · obtain rfl : j = F.length := by omega
        have HFo := Lib.hid (formB_no (fun i x hx => HFm.out i x (List.getElem?_eq_some_iff.1 hx).1 hx))
        clear HFm
        have X3 := HX
        have B3 := HB
        clear HX HB hNw hNl
        go_wp2_with fail
        go_loopw [47] (fun t47 wr => ∃ j : Nat, j ≤ F.length ∧ t47 = .int .i64 j ∧ Hid (CB wr w.heap.size 24 #[.bool true, .slice A2 F.length c2]) ∧ Hid (Below N w wr) ∧ Hid (∀ (i : Nat) (x : OutV), i < j → F[i]? = some x → outAtN l x.path.data.toList ≠ none)) (fun t _ => F.length - (intOf t).toNat)
        case atStart => exact ⟨0, Nat.zero_le _, rfl, X3, B3, fun i x hi => absurd hi (by omega)⟩
        case round =>
          clear bx0 bx1 X3
          obtain ⟨j, hj, rfl, HX, HB, HNn⟩ := hrel
          have bx0 := HX.out.c 0
          have bx1 := HX.out.c 1
          have hNl := HX.out.lt
          have hNw : N ≤ wr.heap.size := by have := HB.out.size; have := HN.out; omega
          by_cases hlt : j < F.length
          · obtain ⟨x, hx⟩ : ∃ x, F[j]? = some x := ⟨_, List.getElem?_eq_getElem hlt⟩
            obtain rfl : A2 = some ⟨b2, o2, none⟩ := HA2.out (by intro h0; rw [h0] at hlt; simp at hlt)
            have kc := (HC2.out j x hx).keep (Keeps.of_below (by rw [HN.out]; exact HB.out))
            have k0 := kc.c0
            have k1 := kc.c1
            have HXx := Lib.hid hx
            clear hx kc
            have HLa := Lib.hid (show OutsAt (wr.alloc (.cells #[.string x.path, .string x.body] 30)) (.slice A1 l.length c1) l from HL.out.keep (Keeps.of_below (by rw [HN.out]; exact HB.out.alloc hNw _)))
            cases ho : outAtN l x.path.data.toList with
            | none =>
              have HEv := Lib.hid (apE_none HE1.out HE2.out HFo.out (noneB_at HXx.out ho))
              have HOi := Lib.hid (outAtI_none ho)
              clear ho
              go_wp2_with (go_at_call 12; go_must (refine (outAt_q l _ x.path (-1) _ HLa.out HOi.out).mono ?_); rintro e w4 ⟨rfl, hb4⟩; have HB4 := Lib.hid ((HB.out.alloc hNw (.cells #[.string x.path, .string x.body] 30)).trans (hb4.mono (by rw [World.size_alloc]; omega))); clear hb4)
              go_ret2
              exact ApPost.err HEv.out (by decide) HB4.out
            | some i0 =>
              have HOi := Lib.hid (outAtI_some ho)
              have HNo := Lib.hid (show outAtN l x.path.data.toList ≠ none by rw [ho]; simp)
              have hi0 : decide ((i0 : Int) < 0) = false := by simp
              clear ho
              go_wp2_with (go_at_call 12; go_must (refine (outAt_q l _ x.path (i0 : Int) _ HLa.out HOi.out).mono ?_); rintro e w4 ⟨rfl, hb4⟩; have HB4 := Lib.hid ((HB.out.alloc hNw (.cells #[.string x.path, .string x.body] 30)).trans (hb4.mono (by rw [World.size_alloc]; omega))); have HX4 := Lib.hid ((HX.out.alloc (.cells #[.string x.path, .string x.body] 30)).below hb4); clear hb4)
              go_roundw
              case rel => exact ⟨j + 1, by omega, by go_num, HX4, HB4, fun i y hi hy => by
                rcases Nat.lt_or_ge i j with h9 | h9
                · exact HNn.out i y h9 hy
                · obtain rfl : i = j := by omega
                  rw [HXx.out] at hy
                  cases hy
                  exact HNo.out⟩
              case measure => simp [intOf]; omega
          · obtain rfl : j = F.length := by omega
            have HNo := Lib.hid (noneB_not (fun i x hx => HNn.out i x (List.getElem?_eq_some_iff.1 hx).1 hx))
            have HEr := Lib.hid (apE_del HE1.out HE2.out HFo.out HNo.out)
            clear HNn
            have X4 := HX
            have B4 := HB
            clear HX HB hNw hNl
            go_wp2_with fail
            go_loopw [63, 12] (fun t63 t12 wr => ∃ (j n : Nat) (A : Option Addr) (c : Nat), j ≤ l.length ∧ t63 = .int .i64 j ∧ t12 = .slice A n c ∧ Hid (n = (kp l F j).length) ∧ Hid (wr.ownsRow (N + 1) 30 2 (.slice A n c) n (outsC (kp l F j))) ∧ Hid (CB wr w.heap.size 24 #[.bool true, .slice A2 F.length c2]) ∧ Hid (Below N w wr)) (fun t _ _ => l.length - (intOf t).toNat)
            case atStart => exact ⟨0, 0, none, 0, Nat.zero_le _, rfl, rfl, rfl, World.ownsRow_nil _ _ _ _, X4, B4⟩
            case round =>
              clear bx0 bx1 X4
              obtain ⟨j, n, A, c, hj, rfl, rfl, HNn, HOw, HX, HB⟩ := hrel
              have bx0 := HX.out.c 0
              have bx1 := HX.out.c 1
              have hNl := HX.out.lt
              have hNw : N ≤ wr.heap.size := by have := HB.out.size; have := HN.out; omega
              have hnle : n ≤ 480 := by have := kp_len l F j; have := HNn.out; omega
              by_cases hlt : j < l.length
              · obtain ⟨x, hx⟩ : ∃ x, l[j]? = some x := ⟨_, List.getElem?_eq_getElem hlt⟩
                obtain rfl : A1 = some ⟨b1, o1, none⟩ := HA1.out (by intro h0; rw [h0] at hlt; simp at hlt)
                have kc := (HC1.out j x hx).keep (Keeps.of_below (by rw [HN.out]; exact HB.out))
                have k0 := kc.c0
                have k1 := kc.c1
                have HXx := Lib.hid hx
                clear hx kc
                have HFa := Lib.hid (show OutsAt (wr.alloc (.cells #[.string x.path, .string x.body] 30)) (.slice A2 F.length c2) F from HF.out.keep (Keeps.of_below (by rw [HN.out]; exact HB.out.alloc hNw _)))
                have hN1 : N + 1 ≤ wr.heap.size := by have := HN.out; omega
                cases ho : outAtN F x.path.data.toList with
                | none =>
                  have HOi := Lib.hid (outAtI_none ho)
                  have HK := Lib.hid (kp_yes HXx.out ho)
                  clear ho
                  go_wp2_with (first | (go_at_call 12; go_must (refine (outAt_q F _ x.path (-1) _ HFa.out HOi.out).mono ?_); rintro e w4 ⟨rfl, hb4⟩; have HB4 := Lib.hid ((HB.out.alloc hNw (.cells #[.string x.path, .string x.body] 30)).trans (hb4.mono (by rw [World.size_alloc]; omega))); have HX4 := Lib.hid ((HX.out.alloc (.cells #[.string x.path, .string x.body] 30)).below hb4); have HO4 := Lib.hid (own_keepB2 (own_alloc HOw.out (.cells #[.string x.path, .string x.body] 30)) hb4); have HY4 := (CB.new wr #[.string x.path, .string x.body] 30).below hb4; have by0 := HY4.c 0; have by1 := HY4.c 1; have hz4 : N + 1 ≤ w4.heap.size := (by have h9 := hb4.size; rw [World.size_alloc] at h9; omega); clear hb4 HY4) | (at_builtin; go_loud (go_must (refine wpList_push _ rfl (.tmp 73) (.tmp 75) 22 rfl (N + 1) 30 _ 2 32 Tryd.underlying22 info_out rfl (by omega) (.slice A n c) n _ rfl (own_alloc HO4.out _) [.string x.path, .string x.body] rfl _ rfl (cell_new _ [.string x.path, .string x.body] 30 _ rfl) (two_str _ _) (by omega) (by unfold maxLen; omega) (by simp; omega) ?_); intro g7 c7 w7 own7 hg7 hgg7 hb7; have HO7 := Lib.hid own7; have HB7 := Lib.hid ((HB4.out.alloc (by omega) (.cells #[.string x.path, .string x.body] 30)).trans (hb7.mono (by omega))); have HX7 := Lib.hid ((HX4.out.alloc (.cells #[.string x.path, .string x.body] 30)).other hg7 (row_ne_low HO4.out (by have := HN.out; omega))); clear own7 hg7 hgg7 hb7)))
                  go_roundw
                  case rel => exact ⟨j + 1, n + 1, _, c7, by omega, by go_num, rfl, by rw [HK.out, List.length_append, ← HNn.out]; rfl, by rw [HK.out, outsC_snoc]; exact HO7.out, HX7, HB7⟩
                  case measure => simp [intOf]; omega
                | some i0 =>
                  have HOi := Lib.hid (outAtI_some ho)
                  have hi0 : decide ((i0 : Int) < 0) = false := by simp
                  have HK := Lib.hid (kp_no HXx.out ho)
                  clear ho
                  go_wp2_with (go_at_call 12; go_must (refine (outAt_q F _ x.path (i0 : Int) _ HFa.out HOi.out).mono ?_); rintro e w4 ⟨rfl, hb4⟩; have HB4 := Lib.hid ((HB.out.alloc hNw (.cells #[.string x.path, .string x.body] 30)).trans (hb4.mono (by rw [World.size_alloc]; omega))); have HX4 := Lib.hid ((HX.out.alloc (.cells #[.string x.path, .string x.body] 30)).below hb4); have HO4 := Lib.hid (own_keepB2 (own_alloc HOw.out (.cells #[.string x.path, .string x.body] 30)) hb4); have HY4 := (CB.new wr #[.string x.path, .string x.body] 30).below hb4; have by0 := HY4.c 0; have by1 := HY4.c 1; have hz4 : N + 1 ≤ w4.heap.size := (by have h9 := hb4.size; rw [World.size_alloc] at h9; omega); clear hb4 HY4)
                  go_roundw
                  case rel => exact ⟨j + 1, n, A, c, by omega, by go_num, rfl, by rw [HK.out]; exact HNn.out, by rw [HK.out]; exact HO4.out, HX4, HB4⟩
                  case measure => simp [intOf]; omega
              · obtain rfl : j = l.length := by omega
                have HRr : Hid (kp l F l.length = apR l F true) := Lib.hid (apR_unique HPl.out HPF.out (by rw [← kp_all l F true]; simp) (rise_le (by rw [kp, List.take_length]; exact HRi.out.filter _)))
                obtain ⟨rr, hrr⟩ : ∃ r, apR l F true = r := ⟨_, rfl⟩
                rw [HRr.out, hrr] at HOw HNn
                rw [hrr] at HEr
                have HRr2 := Lib.hid hrr
                clear hrr HRr
                have HO6 := HOw
                have HN6 : Hid (rr.length = n) := Lib.hid HNn.out.symm
                have HB6 := HB
                clear HOw HNn HB
                have HMx6 := Lib.hid (HMx.out.keep (Keeps.of_below (by rw [HN.out]; exact HB6.out)))
                have HOo := Lib.hid (outs_own_n HN6.out HO6.out)
                obtain ⟨e3, he3⟩ : ∃ e, outsE rr = e := ⟨_, rfl⟩
                have HE3 := Lib.hid he3
                clear he3
                by_cases h3 : e3 = 0
                · subst h3
                  go_wp2_with fail
                  refine (outsError_q rr _ 0 _ HOo.out HMx6.out HE3.out).mono ?_
                  rintro e w7 ⟨rfl, hb7⟩
                  have HO7 := Lib.hid (own_keepB2 HO6.out hb7)
                  have HB7 := Lib.hid (HB6.out.trans (hb7.mono (by have := HB6.out.size; have := HN.out; omega)))
                  clear hb7
                  go_wp2_with fail
                  go_ret2
                  exact ApPost.ok (v := .slice A n c) (n := n) (HEr.out.trans HE3.out) (HN6.out.symm.trans (by rw [HRr2.out])) (by rw [HRr2.out]; exact own_baseE HO7.out (by omega)) HB7.out
                · have HEv := Lib.hid (HEr.out.trans HE3.out)
                  have h3b : (e3 != 0) = true := by simpa using h3
                  have h3c : (e3 == 0) = false := by simpa using h3
                  go_wp2_with fail
                  refine (outsError_q rr _ e3 _ HOo.out HMx6.out HE3.out).mono ?_
                  rintro e w7 ⟨rfl, hb7⟩
                  have HB7 := Lib.hid (HB6.out.trans (hb7.mono (by have := HB6.out.size; have := HN.out; omega)))
                  clear hb7
                  go_wp2_with fail
                  go_ret2
                  exact ApPost.err HEv.out h3 HB7.out

end Go.Proofs.YtogjhcmaapplgaaDoor
