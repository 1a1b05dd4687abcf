/-
  page.insert: one name inserted in order, once.
-/
import Derived.Test.YtphmhhonbkcajaaDoorRowOps
import Derived.Test.YtphmhhonbkcajaaDoorNamesPlain
import Derived.Test.YtphmhhonbkcajaaDoorBytes
import Derived.Deep.DeepMust
import Derived.Outline
import Derived.BigGuardPart
import Derived.RegionTactic
namespace Go.Proofs.YtphmhhonbkcajaaDoor
open Go.RowKit Go.Deep

theorem info_strN : (Tryd.prog.info? 9).map (fun i => (i.zero, i.size, i.bytes)) = some (some (.string ⟨#[]⟩), 1, 16) := by kernel_rfl
theorem info_strS : (Tryd.prog.info? 9).map (·.size) = some 1 := by kernel_rfl

/-- a row of names that the call has made or written -/
def RowPost (B : Nat) (v : Value) (L : List Str) (w : World) (e : Ending) (w' : World) : Prop :=
  ∃ A c, e = .returned (.slice A L.length c) ∧ w'.ownsRow B 9 1 (.slice A L.length c) L.length (strCells L) ∧ w.grownBy w' v.ownBlock ∧ (∀ g, (Value.slice A L.length c).ownBlock = some g → v.ownBlock = some g ∨ w.heap.size ≤ g)

theorem grown_of_drew {a b : World} {r : Option Nat} (h : a.drew.grownBy b r) : a.grownBy b r := ⟨h.os, h.tape, h.output, h.size, h.block⟩
theorem grown_setB1 (W : World) (g o : Nat) (v : Value) : W.grownBy (W.setCell ⟨g, o, none⟩ v) (some g) :=
  ⟨rfl, rfl, rfl, by simp [World.setCell], fun k _ hk => Below.heap_setCell _ _ _ k (fun e => hk (by rw [e]))⟩
theorem ins_cells {L r : List Str} {s : ByteArray} {cur cs : List Value} {k c1 : Nat} (h1 : cur.take ((L.length + 1) * 1) = strCells L ++ [.string ⟨#[]⟩]) (h2 : (strCells L).drop k = cs) (h3 : r = L.take k ++ (s.data.toList :: L.drop k)) (hk : k ≤ L.length) (hc : cur.length = c1 * 1) (hn : L.length + 1 ≤ c1) :
    ((splice cur (k + 1) cs).set k (.string s)).take (r.length * 1) = strCells r := by
  have hrl : r.length = L.length + 1 := by rw [h3]; simp; omega
  have hcl : cs.length = L.length - k := by rw [← h2, List.length_drop, strCells_len]
  rw [Nat.mul_one] at h1 ⊢
  apply List.ext_getElem?
  intro j
  rw [List.getElem?_take]
  by_cases hj : j < r.length
  · rw [if_pos hj]
    have hstr : (strCells r)[j]? = (r[j]?).map (fun t => Value.string ⟨t.toArray⟩) := by unfold strCells; rw [List.getElem?_map]
    rw [hstr, h3]
    rcases Nat.lt_trichotomy j k with h | h | h
    · rw [List.getElem?_set_ne (by omega), splice, List.getElem?_append_left (by rw [List.length_take]; omega), List.getElem?_take, if_pos (by omega), List.getElem?_append_left (by rw [List.length_take]; omega), List.getElem?_take, if_pos h]
      have h5 : (cur.take (L.length + 1))[j]? = (strCells L)[j]? := by rw [h1, List.getElem?_append_left (by rw [strCells_len]; omega)]
      rw [List.getElem?_take, if_pos (by omega)] at h5
      rw [h5]; unfold strCells; rw [List.getElem?_map]
    · subst h
      rw [List.getElem?_set_self (by rw [length_splice _ _ _ (by omega)]; omega), List.getElem?_append_right (by rw [List.length_take]; omega)]
      rw [List.length_take, Nat.min_eq_left hk, Nat.sub_self]
      rfl
    · rw [List.getElem?_set_ne (by omega), splice, List.getElem?_append_right (by rw [List.length_take]; omega), List.length_take, Nat.min_eq_left (by omega), List.getElem?_append_left (by omega), ← h2, List.getElem?_drop,
        List.getElem?_append_right (by rw [List.length_take]; omega), List.length_take, Nat.min_eq_left hk]
      obtain ⟨m, rfl⟩ : ∃ m, j = k + 1 + m := ⟨j - (k + 1), by omega⟩
      rw [show k + 1 + m - (k + 1) = m by omega, show k + 1 + m - k = m + 1 by omega, List.getElem?_cons_succ, List.getElem?_drop]
      unfold strCells; rw [List.getElem?_map]
  · rw [if_neg hj, List.getElem?_eq_none (by rw [strCells_len]; omega)]

set_option maxRecDepth 100000 in
set_option maxHeartbeats 4000000 in
theorem insert_q (B : Nat) (L : List Str) (A : Option Addr) (c : Nat) (s : ByteArray) (r : List Str) (w : World) (own : w.ownsRow B 9 1 (.slice A L.length c) L.length (strCells L)) (hB : B ≤ w.heap.size) (hl : L.length ≤ 1073741824) (hr : insS s.data.toList L = r) :
    Calls Tryd.prog 14 #[.slice A L.length c, .string s] w (RowPost B (.slice A L.length c) r w) := by
  obtain ⟨A', c', hv, hcm, hnc, hA⟩ := own_form own
  cases hv
  have HO := Lib.hid own; clear own
  have HR := Lib.hid hr; clear hr
  unfold maxLen at hcm
  go_enter Tryd.func14, Tryd.ntmps14
  go_wp2_with fail
  go_loopw [5] (fun t wr => ∃ k : Nat, k ≤ L.length ∧ t = .int .i64 k ∧ EqW wr w ∧ Hid (∀ (j : Nat) (a : Str), L[j]? = some a → j < k → a < s.data.toList)) (fun t _ => L.length - (intOf t).toNat)
  case atStart => exact ⟨0, Nat.zero_le _, rfl, EqW.refl _, fun j a _ h => absurd h (by omega)⟩
  case round =>
    obtain ⟨k, hk, rfl, hww, hlow⟩ := hrel
    unfold EqW at hww
    subst hww
    by_cases hlt : k < L.length
    · obtain ⟨g, rfl, hBg, hgl⟩ := hA (by omega)
      obtain ⟨x, hx⟩ : ∃ x, L[k]? = some x := ⟨_, List.getElem?_eq_getElem hlt⟩
      have HXk := Lib.hid hx
      have p0 := own_cell HO.out (strCells_get hx)
      obtain ⟨z, hz⟩ : ∃ z : ByteArray, (⟨x.toArray⟩ : ByteArray) = z := ⟨_, rfl⟩
      have hzl : z.toList = x := by rw [← hz]; exact mk_list x
      have hsl : s.toList = s.data.toList := Go.ByteArray.toList_eq s
      rw [hz] at p0
      by_cases hls : x < s.data.toList
      · have b1 : Op.bytesLess z.toList s.toList = true := by rw [bytesLess_lt, hzl, hsl]; exact decide_eq_true hls
        have HLow := Lib.hid (show ∀ (j : Nat) (a : Str), L[j]? = some a → j < k + 1 → a < s.data.toList from fun j a ha hj => by
          rcases Nat.lt_succ_iff_lt_or_eq.1 hj with h1 | rfl
          · exact hlow.out j a ha h1
          · rw [hx] at ha; cases ha; exact hls)
        clear hx hz hzl hls hsl hlow
        go_wp2_with fail
        go_roundw
        case rel => exact ⟨k + 1, by omega, by go_num, EqW.refl _, HLow.out⟩
        case measure => simp [intOf]; omega
      · have b1 : Op.bytesLess z.toList s.toList = false := by rw [bytesLess_lt, hzl, hsl]; exact decide_eq_false hls
        have HI := Lib.hid (insS_at hk hlow.out (fun a ha => by rw [hx] at ha; cases ha; exact hls))
        by_cases he : x = s.data.toList
        · have b2 : (z.toList == s.toList) = true := by rw [hzl, hsl, he]; simp
          have HE := Lib.hid (show r = L by rw [← HR.out, HI.out, hx, he, if_pos rfl])
          clear hx hz hzl hls hsl hlow he
          go_wp2_with fail
          go_ret
          rw [HE.out]
          exact ⟨_, _, rfl, HO.out, World.grownBy.refl _ _, fun g hg => Or.inl hg⟩
        · have b2 : (z.toList == s.toList) = false := by rw [hzl, hsl]; simpa using he
          have HE := Lib.hid (show r = L.take k ++ (s.data.toList :: L.drop k) by rw [← HR.out, HI.out, if_neg (by rw [hx]; simpa using he)])
          clear hx hz hzl hls hsl hlow he
          go_wp2_with (at_builtin; have hh := HO.out.alloc (.cells #[.string ⟨#[]⟩] 9); have k1 : (L.length + 1) * 16 ≤ 140737488355328 := (by omega); have k2 : L.length + 1 ≤ maxLen := (by unfold maxLen; omega); have k3 : B ≤ (wr.alloc (.cells #[.string ⟨#[]⟩] 9)).heap.size := (by simp; omega); have k4 := cell_new wr [.string ⟨#[]⟩] 9 wr.heap.size rfl; go_must (refine wpList_push _ rfl (.tmp 33) (.tmp 34) 33 rfl B 9 (.string ⟨#[]⟩) 1 16 Tryd.underlying33 info_strN rfl (by omega) (.slice (some ⟨g, 0, none⟩) L.length c) L.length _ rfl hh [.string ⟨#[]⟩] rfl _ rfl k4 (one_str _) k1 k2 k3 ?_); clear hh k1 k2 k3 k4; intro g1 c1 w1 own1 hg1 hgg hb1)
          obtain ⟨cur, hcb, hcl, hct, hnc, hcm, hBg⟩ := own_block own1
          have HR1 := Lib.hid (grown_trans (World.grownBy_alloc wr (.cells #[.string ⟨#[]⟩] 9) (Value.slice (some ⟨g, 0, none⟩) L.length c).ownBlock) hg1)
          have HGG := Lib.hid (show (Value.slice (some ⟨g, 0, none⟩) L.length c).ownBlock = some g1 ∨ wr.heap.size ≤ g1 by
            rcases hgg with h | h
            · exact Or.inl h
            · right; simp at h; omega)
          have HCB := Lib.hid hcb
          have HCT := Lib.hid hct
          unfold maxLen at hcm
          obtain ⟨cs, hcs⟩ : ∃ cs, (strCells L).drop k = cs := ⟨_, rfl⟩
          have hcsl : cs.length = L.length - k := by rw [← hcs, List.length_drop, strCells_len]
          have HCs := Lib.hid hcs
          have hone : ∀ v ∈ cs, v.oneCell' = true := by
            intro v hv; rw [← hcs] at hv; exact strCells_one L v (List.mem_of_mem_drop hv)
          have HSrc := Lib.hid (show ∀ (j : Nat) (v : Value), cs[j]? = some v → w1.cell? ⟨g1, k + j, none⟩ = some v from fun j v hv => by
            have hj := (List.getElem?_eq_some_iff.1 hv).1
            rw [cell_of_row w1 g1 (k + j) _ _ _ hcb]
            rw [← hcs, List.getElem?_drop] at hv
            have h2 : (cur.take ((L.length + 1) * 1))[k + j]? = some v := by
              rw [hct, List.getElem?_append_left (by rw [strCells_len]; omega)]
              exact hv
            rw [List.getElem?_take] at h2
            split at h2
            · simpa using h2
            · cases h2)
          clear own1 hg1 hgg hb1 hcb hct hcs
          have f0 : IntKind.i64.wrap ((k : Int) + 1) = (k : Int) + 1 := by rw [IntKind.wrap_i64]; omega
          have f1 : (k : Int) + 1 ≤ (L.length : Int) + 1 := by omega
          have f5 : 0 ≤ (k : Int) + 1 := by omega
          have f2 : (k : Int) ≤ (L.length : Int) + 1 := by omega
          have f3 : ¬ c1 = k := by omega
          have f4 : ¬ c1 = k + 1 := by omega
          go_wp2_with fail
          go_region_law (refine step_copy_row rfl (.tmp 39) (.tmp 42) 33 33 rfl 9 Tryd.underlying33 info_strS (some ⟨g1, k + 1, none⟩) (some ⟨g1, k, none⟩) (L.length - k) (c1 - (k + 1)) (L.length + 1 - k) (c1 - k) (by simp [Act.eval, Act.put]) (by simp [Act.eval, Act.put]) g1 (k + 1) cur 9 HCB.out cs (by show cs.length = min _ _; omega) ?hpos (by omega) hone ?_
                         case hpos =>
                           intro h0
                           refine ⟨rfl, _, rfl, fun j v hv => ?_⟩
                           have := HSrc.out j v hv
                           have e : (⟨g1, k, none⟩ : Addr).add j = ⟨g1, k + j, none⟩ := by unfold Addr.add; split <;> simp_all
                           rw [e]; exact this
                         intro w2 hc2 hgr2)
          all_goals
            have hsl : (splice cur (k + 1) cs).length = c1 := by rw [length_splice _ _ _ (by omega)]; omega
            obtain ⟨v0, hv0⟩ : ∃ v0, (splice cur (k + 1) cs).toArray[k]? = some v0 := ⟨_, Array.getElem?_eq_getElem (by simp; omega)⟩
            have x0 := cell_of_row w2 g1 k _ _ (0, 0) hc2.out
            rw [hv0] at x0
            have x1 := frozen_of_row w2 g1 k _ _ hc2.out
            have x2 : w2.shape? g1 = some (9, (splice cur (k + 1) cs).toArray.size) := by simp [World.shape?, hc2.out]
            rw [List.size_toArray, hsl] at x2
            have HG2 := Lib.hid hgr2
            have HC2 := Lib.hid hc2.out
            have HSl := Lib.hid hsl
            clear hgr2 hc2 hv0 hsl
            go_wp2_with fail
            go_ret
            have hC3 := heap_setCell_same w2 g1 k _ _ (.string s) HC2.out
            have hrl : r.length = L.length + 1 := by rw [HE.out]; simp; omega
            refine ⟨some ⟨g1, 0, none⟩, c1, by rw [hrl]; rfl, ?_, ?_, fun g' hg' => ?_⟩
            · refine own_of_block (cur := (splice cur (k + 1) cs).set k (.string s)) (by simpa using hC3) (by rw [strCells_len]; omega) (by rw [List.length_set, HSl.out]; omega) ?_ (by omega) (by unfold maxLen; omega) hBg
              exact ins_cells HCT.out HCs.out HE.out hk hcl hnc
            · exact grown_trans2 (grown_trans2 HR1.out (grown_of_drew HG2.out) HGG.out) (grown_setB1 w2 g1 k (.string s)) HGG.out
            · cases hg'
              exact HGG.out

    · have hn : L[k]? = none := List.getElem?_eq_none (by omega)
      have HE := Lib.hid (show r = L.take k ++ (s.data.toList :: L.drop k) by
        rw [← HR.out, insS_at hk hlow.out (fun a ha => by rw [hn] at ha; cases ha), hn, if_neg (by simp)])
      clear hlow hn
      go_wp2_with (at_builtin; have hh := HO.out.alloc (.cells #[.string ⟨#[]⟩] 9); have k1 : (L.length + 1) * 16 ≤ 140737488355328 := (by omega); have k2 : L.length + 1 ≤ maxLen := (by unfold maxLen; omega); have k3 : B ≤ (wr.alloc (.cells #[.string ⟨#[]⟩] 9)).heap.size := (by simp; omega); have k4 := cell_new wr [.string ⟨#[]⟩] 9 wr.heap.size rfl; go_must (refine wpList_push _ rfl (.tmp 33) (.tmp 34) 33 rfl B 9 (.string ⟨#[]⟩) 1 16 Tryd.underlying33 info_strN rfl (by omega) (.slice A L.length c) L.length _ rfl hh [.string ⟨#[]⟩] rfl _ rfl k4 (one_str _) k1 k2 k3 ?_); clear hh k1 k2 k3 k4; intro g1 c1 w1 own1 hg1 hgg hb1)
      obtain ⟨cur, hcb, hcl, hct, hnc, hcm, hBg⟩ := own_block own1
      have HR1 := Lib.hid (grown_trans (World.grownBy_alloc wr (.cells #[.string ⟨#[]⟩] 9) (Value.slice A L.length c).ownBlock) hg1)
      have HGG := Lib.hid (show (Value.slice A L.length c).ownBlock = some g1 ∨ wr.heap.size ≤ g1 by
        rcases hgg with h | h
        · exact Or.inl h
        · right; simp at h; omega)
      have HCB := Lib.hid hcb
      have HCT := Lib.hid hct
      unfold maxLen at hcm
      obtain ⟨cs, hcs⟩ : ∃ cs, (strCells L).drop k = cs := ⟨_, rfl⟩
      have hcsl : cs.length = L.length - k := by rw [← hcs, List.length_drop, strCells_len]
      have HCs := Lib.hid hcs
      have hone : ∀ v ∈ cs, v.oneCell' = true := by
        intro v hv; rw [← hcs] at hv; exact strCells_one L v (List.mem_of_mem_drop hv)
      have HSrc := Lib.hid (show ∀ (j : Nat) (v : Value), cs[j]? = some v → w1.cell? ⟨g1, k + j, none⟩ = some v from fun j v hv => by
        have hj := (List.getElem?_eq_some_iff.1 hv).1
        rw [cell_of_row w1 g1 (k + j) _ _ _ hcb]
        rw [← hcs, List.getElem?_drop] at hv
        have h2 : (cur.take ((L.length + 1) * 1))[k + j]? = some v := by
          rw [hct, List.getElem?_append_left (by rw [strCells_len]; omega)]
          exact hv
        rw [List.getElem?_take] at h2
        split at h2
        · simpa using h2
        · cases h2)
      clear own1 hg1 hgg hb1 hcb hct hcs
      have f0 : IntKind.i64.wrap ((k : Int) + 1) = (k : Int) + 1 := by rw [IntKind.wrap_i64]; omega
      have f1 : (k : Int) + 1 ≤ (L.length : Int) + 1 := by omega
      have f5 : 0 ≤ (k : Int) + 1 := by omega
      have f2 : (k : Int) ≤ (L.length : Int) + 1 := by omega
      have f3 : ¬ c1 = k := by omega
      by_cases f4 : c1 = k + 1
      · subst f4
        go_wp2_with fail
        go_region_law (refine step_copy_row rfl (.tmp 39) (.tmp 42) 33 33 rfl 9 Tryd.underlying33 info_strS (some ⟨g1, 0, none⟩) (some ⟨g1, k, none⟩) 0 0 (L.length + 1 - k) 1 (by simp [Act.eval, Act.put]) (by simp [Act.eval, Act.put]) g1 (k + 1) cur 9 HCB.out cs (by show cs.length = min _ _; omega) ?hpos (by omega) hone ?_
                       case hpos =>
                         intro h0
                         exfalso; omega
                       intro w2 hc2 hgr2)
        all_goals
          have hsl : (splice cur (k + 1) cs).length = (k + 1) := by rw [length_splice _ _ _ (by omega)]; omega
          obtain ⟨v0, hv0⟩ : ∃ v0, (splice cur (k + 1) cs).toArray[k]? = some v0 := ⟨_, Array.getElem?_eq_getElem (by simp; omega)⟩
          have x0 := cell_of_row w2 g1 k _ _ (0, 0) hc2.out
          rw [hv0] at x0
          have x1 := frozen_of_row w2 g1 k _ _ hc2.out
          have x2 : w2.shape? g1 = some (9, (splice cur (k + 1) cs).toArray.size) := by simp [World.shape?, hc2.out]
          rw [List.size_toArray, hsl] at x2
          have HG2 := Lib.hid hgr2
          have HC2 := Lib.hid hc2.out
          have HSl := Lib.hid hsl
          clear hgr2 hc2 hv0 hsl
          go_wp2_with fail
          go_ret
          have hC3 := heap_setCell_same w2 g1 k _ _ (.string s) HC2.out
          have hrl : r.length = L.length + 1 := by rw [HE.out]; simp; omega
          refine ⟨some ⟨g1, 0, none⟩, (k + 1), by rw [hrl]; rfl, ?_, ?_, fun g' hg' => ?_⟩
          · refine own_of_block (cur := (splice cur (k + 1) cs).set k (.string s)) (by simpa using hC3) (by rw [strCells_len]; omega) (by rw [List.length_set, HSl.out]; omega) ?_ (by omega) (by unfold maxLen; omega) hBg
            exact ins_cells HCT.out HCs.out HE.out hk hcl hnc
          · exact grown_trans2 (grown_trans2 HR1.out (grown_of_drew HG2.out) HGG.out) (grown_setB1 w2 g1 k (.string s)) HGG.out
          · cases hg'
            exact HGG.out
      · skip
        go_wp2_with fail
        go_region_law (refine step_copy_row rfl (.tmp 39) (.tmp 42) 33 33 rfl 9 Tryd.underlying33 info_strS (some ⟨g1, k + 1, none⟩) (some ⟨g1, k, none⟩) (L.length - k) (c1 - (k + 1)) (L.length + 1 - k) (c1 - k) (by simp [Act.eval, Act.put]) (by simp [Act.eval, Act.put]) g1 (k + 1) cur 9 HCB.out cs (by show cs.length = min _ _; omega) ?hpos (by omega) hone ?_
                       case hpos =>
                         intro h0
                         refine ⟨rfl, _, rfl, fun j v hv => ?_⟩
                         have := HSrc.out j v hv
                         have e : (⟨g1, k, none⟩ : Addr).add j = ⟨g1, k + j, none⟩ := by unfold Addr.add; split <;> simp_all
                         rw [e]; exact this
                       intro w2 hc2 hgr2)
        all_goals
          have hsl : (splice cur (k + 1) cs).length = c1 := by rw [length_splice _ _ _ (by omega)]; omega
          obtain ⟨v0, hv0⟩ : ∃ v0, (splice cur (k + 1) cs).toArray[k]? = some v0 := ⟨_, Array.getElem?_eq_getElem (by simp; omega)⟩
          have x0 := cell_of_row w2 g1 k _ _ (0, 0) hc2.out
          rw [hv0] at x0
          have x1 := frozen_of_row w2 g1 k _ _ hc2.out
          have x2 : w2.shape? g1 = some (9, (splice cur (k + 1) cs).toArray.size) := by simp [World.shape?, hc2.out]
          rw [List.size_toArray, hsl] at x2
          have HG2 := Lib.hid hgr2
          have HC2 := Lib.hid hc2.out
          have HSl := Lib.hid hsl
          clear hgr2 hc2 hv0 hsl
          go_wp2_with fail
          go_ret
          have hC3 := heap_setCell_same w2 g1 k _ _ (.string s) HC2.out
          have hrl : r.length = L.length + 1 := by rw [HE.out]; simp; omega
          refine ⟨some ⟨g1, 0, none⟩, c1, by rw [hrl]; rfl, ?_, ?_, fun g' hg' => ?_⟩
          · refine own_of_block (cur := (splice cur (k + 1) cs).set k (.string s)) (by simpa using hC3) (by rw [strCells_len]; omega) (by rw [List.length_set, HSl.out]; omega) ?_ (by omega) (by unfold maxLen; omega) hBg
            exact ins_cells HCT.out HCs.out HE.out hk hcl hnc
          · exact grown_trans2 (grown_trans2 HR1.out (grown_of_drew HG2.out) HGG.out) (grown_setB1 w2 g1 k (.string s)) HGG.out
          · cases hg'
            exact HGG.out

end Go.Proofs.YtphmhhonbkcajaaDoor
