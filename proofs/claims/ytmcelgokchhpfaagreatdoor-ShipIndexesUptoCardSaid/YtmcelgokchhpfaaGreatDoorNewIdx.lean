/-
  ship.NewIndex.
-/
import Derived.Test.YtmcelgokchhpfaaGreatDoorNixIn
import Derived.Test.YtmcelgokchhpfaaGreatDoorNixSort
import Derived.Test.YtmcelgokchhpfaaGreatDoorNixOwn
import Derived.Test.YtmcelgokchhpfaaGreatDoorIdxText
import Derived.Test.YtmcelgokchhpfaaGreatDoorWords2
import Derived.Test.YtmcelgokchhpfaaGreatDoorRowSwap
import Derived.Test.YtmcelgokchhpfaaGreatDoorNixFin
import Derived.BigQuiet
import Derived.StillTailTactics
import Derived.Deep.QuietTactic
import Derived.RegionTactic
namespace Go.Proofs.YtmcelgokchhpfaaGreatDoor
open Go.RowKit Go.ChangeShapes Go.WideShapes Go.Deep

theorem shipStem_v (x s : List UInt8) (w : World) (hx : x.length ≤ 1048576) (hs : stemL x = s) : Calls Tryz.prog 10 #[.string (str0 x)] w fun e w' => e = .returned (.string (str0 s)) ∧ Below w.heap.size w w' := by
  subst hs
  exact shipStem_any (str0 x) w (by rw [← size_toList]; exact hx)
theorem own_rowM {w w' : World} {B K n m : Nat} {e : TypeId} {v : Value} {xs : List Value} (h : w.ownsRow B e K v n xs) (hg : w.grownBy w' (some m)) (hm : ∃ es clock, w.heap[m]? = some (.map es clock)) : w'.ownsRow B e K v n xs := by
  refine h.kept hg ?_
  rcases h.2 with ⟨rfl, _⟩ | ⟨g, cap, cur, rfl, _, hg', _⟩
  · exact Or.inl rfl
  · refine Or.inr (fun e2 => ?_)
    obtain ⟨es, clock, hm⟩ := hm
    simp only [Value.ownBlock, Option.some.injEq] at e2
    rw [← e2, hg'] at hm
    cases hm
theorem zero_ptr (w : World) : (zeroValue 41).run Tryz.prog w = .ok (.pointer none) w := by kernel_rfl
set_option maxRecDepth 100000 in
set_option maxHeartbeats 4000000 in
theorem newIndex_q (D : List DocR) (dv : Value) (w : World) (h : DocsAt w dv D) (hz : ∀ d ∈ D, d.addr.size ≤ 1048576 ∧ d.title.size ≤ 1048576 ∧ d.text.size ≤ 1048576) (hm : MaxAt w) (htab : TabOk w) (hw : nixW D ≤ 1048576) :
    Calls Tryz.prog 4 #[dv] w (NixPost w.heap.size D w) := by
  obtain ⟨A, c, b, o, rfl, hlc, hc, hA, hcell⟩ := h
  unfold maxLen at hc
  have HCell := Lib.hid hcell; clear hcell
  have HM := Lib.hid hm; clear hm
  have HZ := Lib.hid hz; clear hz
  have HTb := Lib.hid htab; clear htab
  obtain ⟨N, hN⟩ : ∃ N, w.heap.size = N := ⟨_, rfl⟩
  rw [hN]
  have HX0 := Lib.hid (show CB (w.alloc (.cells #[.slice none 0 0, .slice none 0 0, .slice none 0 0] 26)) N 26 #[.slice none 0 0, .slice none 0 0, .slice none 0 0] by rw [← hN]; exact CB.new w _ _)
  have HB0 := Lib.hid (show Below N w (w.alloc (.cells #[.slice none 0 0, .slice none 0 0, .slice none 0 0] 26)) from (Below.refl _ _).alloc (by omega) _)
  by_cases hbig : 120 < D.length
  · have HR := Lib.hid (show nixE D = 4 from nixE_docs (by rw [docsFE, if_pos hbig]) (by decide))
    go_enter Tryz.func4, Tryz.ntmps4
    go_wp2_with fail
    refine idx_done rfl HX0.out rfl rfl rfl rfl (NixPost.err HR.out (by decide) HB0.out)
  have HE := Lib.hid (show docsFE D = firstE (docF1 D) (D.length - 0) 0 by rw [docsFE, if_neg hbig]; rfl)
  go_enter Tryz.func4, Tryz.ntmps4
  go_wp2_with fail
  have HNw := Lib.hid hN
  go_loopw [29] (fun t wr => ∃ k : Nat, k ≤ D.length ∧ t = .int .i64 k ∧ Hid (Below N w wr) ∧ Hid (docsFE D = firstE (docF1 D) (D.length - k) k) ∧ Hid (CB wr N 26 #[.slice none 0 0, .slice none 0 0, .slice none 0 0])) (fun t _ => D.length - (intOf t).toNat)
  case atStart => exact ⟨0, Nat.zero_le _, rfl, HB0.out, HE.out, HX0.out⟩
  case round =>
    clear HE HX0 HB0
    obtain ⟨k, hk, rfl, HB, HE, HX⟩ := hrel
    obtain ⟨wo, rfl⟩ : ∃ wo : World, wo = wr := ⟨_, rfl⟩
    have hNo : N < wo.heap.size := HX.out.lt
    by_cases hlt : k < D.length
    · have hA' := hA (by rintro rfl; simp at hlt)
      subst hA'
      clear hA
      obtain ⟨⟨addr, title, text⟩, hn⟩ : ∃ n, D[k]? = some n := ⟨_, List.getElem?_eq_getElem hlt⟩
      have h1 := docF1_at hn
      simp only at h1
      have H1 := Lib.hid h1; clear h1
      obtain ⟨hza, hzt, hzx⟩ := HZ.out _ (List.mem_of_getElem? hn)
      simp only at hza hzt hzx
      have HBw := Lib.hid (show Below w.heap.size w wo by rw [HNw.out]; exact HB.out)
      obtain ⟨p0, p1, p2⟩ := (HCell.out k _ hn).keep (Keeps.of_below HBw.out)
      simp only at p0 p1 p2
      have bb := World.block_lt_of_cell? _ _ p0
      simp only at bb
      have HN := Lib.hid hn; clear hn
      obtain ⟨W1, hW1⟩ : ∃ W1, wo.alloc (.cells #[.string addr, .string title, .string text] 33) = W1 := ⟨_, rfl⟩
      obtain ⟨nd, hnd⟩ : ∃ nd, wo.heap.size = nd := ⟨_, rfl⟩
      have HB1 := Lib.hid (show Below N w W1 from hW1 ▸ HB.out.alloc (by omega) _)
      have HD1 := Lib.hid (show CB W1 nd 33 #[.string addr, .string title, .string text] by rw [← hW1, ← hnd]; exact CB.new wo _ _)
      have HX1 := Lib.hid (HX.out.alloc (.cells #[.string addr, .string title, .string text] 33))
      rw [hW1] at HX1
      have HW1 := Lib.hid hW1
      have HNd := Lib.hid hnd
      have hNs1 : N ≤ W1.heap.size := by have := HX1.out.lt; omega
      clear hW1 HX
      obtain ⟨pv, hpv⟩ : ∃ pv, pathV addr = pv := ⟨_, rfl⟩
      have HPV := Lib.hid hpv; clear hpv
      clear hnd
      cases pv
      · have H2 := Lib.hid (show nixE D = 3 from nixE_docs (HE.out.trans (firstE_bad hlt (H1.out.trans (if_pos HPV.out)) (by decide))) (by decide))
        go_wp2_with (go_at_call 7; rw [HW1.out, HNd.out]; go_must (refine (pathS_q addr false HPV.out _ hza (HM.out.keep (Keeps.of_below (by rw [HNw.out]; exact HB1.out)))).mono ?_); rintro e w1 ⟨rfl, hb⟩; have HB3 := Lib.hid (HB1.out.trans (hb.mono hNs1)); have HX3 := Lib.hid (HX1.out.below hb); have x0 : w1.cell? ⟨N, 0, none⟩ = some (.slice none 0 0) := HX3.out.c 0; have x1 : w1.cell? ⟨N, 1, none⟩ = some (.slice none 0 0) := HX3.out.c 1; have x2 : w1.cell? ⟨N, 2, none⟩ = some (.slice none 0 0) := HX3.out.c 2; have x0f := HX3.out.f 0; have x1f := HX3.out.f 1; have x2f := HX3.out.f 2; have xs := HX3.out.sh; clear hb)
        refine idx_done rfl (((HX3.out.put 0 _).put 1 _).put 2 _) rfl rfl rfl rfl (NixPost.err H2.out (by decide) ?_)
        exact ((HB3.out.setCell (p := ⟨N, 0, none⟩) (show N ≤ N from Nat.le_refl N) _).setCell (p := ⟨N, 1, none⟩) (show N ≤ N from Nat.le_refl N) _).setCell (p := ⟨N, 2, none⟩) (show N ≤ N from Nat.le_refl N) _
      have H2 := Lib.hid (H1.out.trans (if_neg (by rw [HPV.out]; simp)))
      clear H1
      go_wp2_with (go_at_call 7; rw [HW1.out, HNd.out]; go_must (refine (pathS_q addr true HPV.out _ hza (HM.out.keep (Keeps.of_below (by rw [HNw.out]; exact HB1.out)))).mono ?_); rintro e w1 ⟨rfl, hb⟩; have HB2 := Lib.hid (HB1.out.trans (hb.mono hNs1)); have HD2 := Lib.hid (HD1.out.below hb); have d0 := HD2.out.c 0; have d1 := HD2.out.c 1; have d2 := HD2.out.c 2; have dsh := HD2.out.sh; have HX2 := Lib.hid (HX1.out.below hb); have bx0 := HX2.out.c 0; have bsh := HX2.out.sh; clear hb)
      clear HB1 HD1 HW1 HPV HX1
      rcases Nat.eq_zero_or_pos k with hk0 | hk0
      have hk3 : ¬ (0 : Int) < k := by omega
      have H3 := Lib.hid (H2.out.trans (if_neg (by rw [hk0]; simp [docPrev])))
      clear H2
      have hk0 := Lib.hid hk0
      go_quiet (fail)
      go_wp2_with fail
      rotate_left
      obtain ⟨j, hj⟩ : ∃ j, k = j + 1 := ⟨k - 1, by omega⟩
      obtain ⟨⟨pa, pt, px⟩, hpn⟩ : ∃ n, D[j]? = some n := ⟨_, List.getElem?_eq_getElem (by omega)⟩
      obtain ⟨s0, s1, s2⟩ := (HCell.out j _ hpn).keep (Keeps.of_below (show Below w.heap.size w w1 by rw [HNw.out]; exact HB2.out))
      simp only at s0 s1 s2
      have HPB := Lib.hid (show docPrev D addr k = lsB addr pa by rw [hj]; exact docPrev_succ (x := addr) hpn); clear hpn
      have hwr : IntKind.i64.wrap ((k : Int) - 1) = (j : Int) := by rw [show (k : Int) - 1 = (j : Int) by omega]; rw [IntKind.wrap_i64]; omega
      have hjl : j < D.length := by omega
      have hk3 : (0 : Int) < k := by omega
      have HJ := Lib.hid hj; clear hj
      have bb2 := World.block_lt_of_cell? _ _ s0
      simp only at bb2
      have hleq : ∀ W : World, Sem.run Tryz.prog (binOp BinOp.leq 9 (Value.string addr) (Value.string pa)) W = Result.ok (Value.bool (lsB addr pa)) W := fun W => rfl
      have hk0 := Lib.hid hk0
      cases hls : lsB addr pa
      have H3 := Lib.hid (H2.out.trans (if_neg (by rw [HPB.out, hls]; simp)))
      clear H2
      rw [hls] at hleq
      go_quiet (fail)
      go_wp2_with fail
      clear s0 s1 s2 bb2 hleq hwr
      rotate_left
      have H4 := Lib.hid (show nixE D = 5 from nixE_docs (HE.out.trans (firstE_bad hlt (H2.out.trans (if_pos (by rw [HPB.out, hls]))) (by decide))) (by decide))
      clear H2
      rw [hls] at hleq
      go_quiet (fail)
      have HB3 := Lib.hid (Below.drewN' HB2.out nq)
      have HX3 := Lib.hid (HX2.out.drewN nq)
      have x0 : (w1.drewN nq).cell? ⟨N, 0, none⟩ = some (.slice none 0 0) := HX3.out.c 0
      have x1 : (w1.drewN nq).cell? ⟨N, 1, none⟩ = some (.slice none 0 0) := HX3.out.c 1
      have x2 : (w1.drewN nq).cell? ⟨N, 2, none⟩ = some (.slice none 0 0) := HX3.out.c 2
      have x0f := HX3.out.f 0
      have x1f := HX3.out.f 1
      have x2f := HX3.out.f 2
      have xs := HX3.out.sh
      go_wp2_with fail
      refine idx_done rfl (((HX3.out.put 0 _).put 1 _).put 2 _) rfl rfl rfl rfl (NixPost.err H4.out (by decide) ?_)
      exact ((HB3.out.setCell (p := ⟨N, 0, none⟩) (show N ≤ N from Nat.le_refl N) _).setCell (p := ⟨N, 1, none⟩) (show N ≤ N from Nat.le_refl N) _).setCell (p := ⟨N, 2, none⟩) (show N ≤ N from Nat.le_refl N) _
      all_goals
        (obtain ⟨w2, hw2⟩ : ∃ w2, w1.drewN nq = w2 := ⟨_, rfl⟩
         have HB3 := Lib.hid (show Below N w w2 from hw2 ▸ Below.drewN' HB2.out _)
         have HD3 := Lib.hid (show CB w2 nd 33 #[.string addr, .string title, .string text] by rw [← hw2]; exact HD2.out)
         have HX3 := Lib.hid (show CB w2 N 26 _ by rw [← hw2]; exact HX2.out)
         clear HX2 bx0 bsh
         rw [hw2]
         clear hw2 HB2 HD2 d0 d1 d2 dsh
         have d0 := HD3.out.c 0
         have d1 := HD3.out.c 1
         have d2 := HD3.out.c 2
         have dsh := HD3.out.sh
         have x0 : w2.cell? ⟨N, 0, none⟩ = some (.slice none 0 0) := HX3.out.c 0
         have x1 : w2.cell? ⟨N, 1, none⟩ = some (.slice none 0 0) := HX3.out.c 1
         have x2 : w2.cell? ⟨N, 2, none⟩ = some (.slice none 0 0) := HX3.out.c 2
         have x0f := HX3.out.f 0
         have x1f := HX3.out.f 1
         have x2f := HX3.out.f 2
         have xs := HX3.out.sh
         cases hct : ctlL title.data.toList
         · have HCt := Lib.hid hct; clear hct
           have H4 := Lib.hid (H3.out.trans (if_neg (by rw [HCt.out]; simp)))
           clear H3
           by_cases hbg : 200000 < title.size + text.size
           · have H5 := Lib.hid (show nixE D = 4 from nixE_docs (HE.out.trans (firstE_bad hlt (H4.out.trans (if_pos hbg)) (by decide))) (by decide))
             clear H4
             have hbg2 : (200000 : Int) < (title.size : Int) + (text.size : Int) := by omega
             go_wp2_with (go_at_call 8; go_must (refine (control_q title false _ hzt HCt.out).mono ?_); rintro e w3 ⟨rfl, rfl⟩)
             refine idx_done rfl (((HX3.out.put 0 _).put 1 _).put 2 _) rfl rfl rfl rfl (NixPost.err H5.out (by decide) ?_)
             exact ((HB3.out.setCell (p := ⟨N, 0, none⟩) (show N ≤ N from Nat.le_refl N) _).setCell (p := ⟨N, 1, none⟩) (show N ≤ N from Nat.le_refl N) _).setCell (p := ⟨N, 2, none⟩) (show N ≤ N from Nat.le_refl N) _
           · have H5 := Lib.hid (H4.out.trans (if_neg hbg))
             clear H4
             have hbg2 : ¬ (200000 : Int) < (title.size : Int) + (text.size : Int) := by omega
             go_wp2_with (go_at_call 8; go_must (refine (control_q title false _ hzt HCt.out).mono ?_); rintro e w3 ⟨rfl, rfl⟩)
             go_roundw
             case rel => exact ⟨k + 1, by omega, by go_num, HB3.out, HE.out.trans (firstE_ok hlt H5.out), HX3.out⟩
             case measure => simp [intOf]; omega
         · have HCt := Lib.hid hct; clear hct
           have H4 := Lib.hid (show nixE D = 9 from nixE_docs (HE.out.trans (firstE_bad hlt (H3.out.trans (if_pos HCt.out)) (by decide))) (by decide))
           clear H3
           go_wp2_with (go_at_call 8; go_must (refine (control_q title true _ hzt HCt.out).mono ?_); rintro e w3 ⟨rfl, rfl⟩)
           refine idx_done rfl (((HX3.out.put 0 _).put 1 _).put 2 _) rfl rfl rfl rfl (NixPost.err H4.out (by decide) ?_)
           exact ((HB3.out.setCell (p := ⟨N, 0, none⟩) (show N ≤ N from Nat.le_refl N) _).setCell (p := ⟨N, 1, none⟩) (show N ≤ N from Nat.le_refl N) _).setCell (p := ⟨N, 2, none⟩) (show N ≤ N from Nat.le_refl N) _)
    · have H0 := Lib.hid (show docsFE D = 0 from HE.out.trans (firstE_end (by omega)))
      clear HE
      obtain ⟨k0, rfl⟩ : ∃ x : Nat, x = k := ⟨_, rfl⟩
      obtain ⟨X, hXe⟩ : ∃ X, wo.heap.size = X := ⟨_, rfl⟩
      have HI0 := Lib.hid (NixIn.start HX.out hXe.symm (fun _ => ⟨0, .slice none 0 0, .slice none 0 0⟩) (fun _ => []) (fun _ => []))
      have HB0 := Lib.hid (show Below N w ((wo.alloc (.cells #[.slice none 0 0, .slice none 0 0, .slice none 0 0] 26)).alloc (.map #[] 0)) from (HB.out.alloc (by omega) _).alloc (by rw [World.size_alloc]; omega) _)
      have hL := docsFE_len H0.out
      have HF2 := Lib.hid (show 2 * sumBy fwN D ≤ 1048576 from Nat.le_trans (fwN_sum D) hw)
      have HW := Lib.hid hw; clear hw
      have HAll := Lib.hid (docsFE_all H0.out)
      have HA := Lib.hid hA; clear hA
      have HNX := Lib.hid hNo
      clear HX HB hNo
      have hmm := @run_makeMap Tryz.prog
      go_wp2_with fail
      clear hmm
      have HXe := Lib.hid hXe; clear hXe
      go_loopw [80] (fun t wr => ∃ (k : Nat) (dvv sv : Value) (K : List (List UInt8)) (T : List UInt8 → TB), k ≤ D.length ∧ t = .int .i64 k ∧ Hid (NixIn wr N X (X + 1) dvv sv (nixD (D.take k)) (nixS (D.take k)) K T (pD (wAt D) k) (pM (wAt D) k)) ∧ Hid (∀ s, s ∈ K ↔ pD (wAt D) k s ≠ []) ∧ Hid (K.length ≤ sumBy fwN (D.take k)) ∧ Hid (Below N w wr)) (fun t _ => D.length - (intOf t).toNat)
      case atStart => exact ⟨0, _, _, _, _, Nat.zero_le _, rfl, HI0.out, fun s => by simp [pD], Nat.zero_le _, HB0.out⟩
      case round =>
        clear HI0 HB0
        obtain ⟨k, dvv, sv, K, T, hk, rfl, HI, HK, HKl, HB⟩ := hrel
        obtain ⟨wp, rfl⟩ : ∃ wp : World, wp = wr := ⟨_, rfl⟩
        by_cases hlt : k < D.length
        · have hA' := HA.out (by rintro rfl; simp at hlt)
          subst hA'
          obtain ⟨⟨addr, title, text⟩, hn⟩ : ∃ n, D[k]? = some n := ⟨_, List.getElem?_eq_getElem hlt⟩
          obtain ⟨hza, hzt, hzx⟩ := HZ.out _ (List.mem_of_getElem? hn)
          have hall := HAll.out _ (List.mem_of_getElem? hn)
          simp only at hza hzt hzx hall
          have HWk := Lib.hid (fun s => wAt_at hn s)
          have HDk := Lib.hid (show nixD (D.take (k + 1)) = nixD (D.take k) ++ [⟨addr, title, ⟨#[]⟩⟩] by obtain ⟨h1, h2⟩ := List.getElem?_eq_some_iff.1 hn; rw [nixD, List.take_succ_eq_append_getElem h1, List.map_append, h2]; rfl)
          have HSk := Lib.hid (show nixS (D.take (k + 1)) = nixS (D.take k) ++ [(((wordsAux title.data.toList []).length + (wordsAux text.data.toList []).length : Nat) : Int)] by obtain ⟨h1, h2⟩ := List.getElem?_eq_some_iff.1 hn; rw [nixS, List.take_succ_eq_append_getElem h1, List.map_append, h2]; rfl)
          have hdl : (nixD (D.take k)).length = k := by simp [nixD]; omega
          have hsl : (nixS (D.take k)).length = k := by simp [nixS]; omega
          obtain ⟨ds, hds⟩ : ∃ x, nixD (D.take k) = x := ⟨_, rfl⟩
          obtain ⟨ss, hss⟩ : ∃ x, nixS (D.take k) = x := ⟨_, rfl⟩
          rw [hds] at HI hdl HDk
          rw [hss] at HI hsl HSk
          have hdle : ds.length ≤ 120 := by omega
          have hsle : ss.length ≤ 120 := by omega
          clear hds hss hdl hsl
          obtain ⟨TW, hTW⟩ : ∃ x, wordsAux title.data.toList [] = x := ⟨_, rfl⟩
          obtain ⟨XW, hXW⟩ : ∃ x, wordsAux text.data.toList [] = x := ⟨_, rfl⟩
          have hTl : TW.length ≤ title.size + 1 := by have := words_many title.data.toList []; rw [hTW, size_toList] at this; exact this
          have hXl : XW.length ≤ text.size + 1 := by have := words_many text.data.toList []; rw [hXW, size_toList] at this; exact this
          have HT30 := Lib.hid (show ∀ x ∈ TW ++ XW, x.length ≤ 30 from fun x hx => by
            rcases List.mem_append.1 hx with h | h
            · exact word_le _ _ x (by rw [hTW]; exact h)
            · exact word_le _ _ x (by rw [hXW]; exact h))
          have HWd := Lib.hid (show ∀ s, wAt D k s = 3 * (TW.map stemL).count s + (XW.map stemL).count s from fun s => by rw [HWk.out]; simp only [twL, bwL, hTW, hXW])
          rw [hTW, hXW] at HSk
          clear HWk
          have HBw := Lib.hid (show Below w.heap.size w wp by rw [HNw.out]; exact HB.out)
          obtain ⟨p0, p1, p2⟩ := (HCell.out k _ hn).keep (Keeps.of_below HBw.out)
          simp only at p0 p1 p2
          have bb := World.block_lt_of_cell? _ _ p0
          simp only at bb
          have HN := Lib.hid hn; clear hn
          obtain ⟨A1, c1, rfl, hc1, _, _⟩ := own_form HI.out.hd
          obtain ⟨A2, c2, rfl, hc2, _, _⟩ := own_form HI.out.hs
          have hXN : N < X := HI.out.hNX
          have hXlt : X < wp.heap.size := HI.out.hx.lt
          go_upto_region 21 with fail
          obtain ⟨W1, hW1⟩ : ∃ W1, wp.alloc (.cells #[.string addr, .string title, .string text] 33) = W1 := ⟨_, rfl⟩
          obtain ⟨nd, hnd⟩ : ∃ nd, wp.heap.size = nd := ⟨_, rfl⟩
          have HI1 := Lib.hid (HI.out.below ((Below.refl _ _).alloc (Nat.le_refl _) (.cells #[.string addr, .string title, .string text] 33)))
          have HB1 := Lib.hid (show Below N w (wp.alloc (.cells #[.string addr, .string title, .string text] 33)) from HB.out.alloc (by omega) _)
          have HD1 := Lib.hid (CB.new wp #[.string addr, .string title, .string text] 33)
          rw [hW1] at HI1 HB1 HD1
          rw [hnd] at HD1 hXlt
          rw [hW1, hnd]
          clear hW1 hnd HI HB HBw p0 p1 p2 bb
          have d0 : W1.cell? ⟨nd, 0, none⟩ = some (.string addr) := HD1.out.c 0
          have d1 : W1.cell? ⟨nd, 1, none⟩ = some (.string title) := HD1.out.c 1
          have d2 : W1.cell? ⟨nd, 2, none⟩ = some (.string text) := HD1.out.c 2
          have hTW2 := Lib.hid hTW
          have hXW2 := Lib.hid hXW
          clear hTW hXW
          go_cut [12, 13] from 81 to 195 (fun s12 s13 wx => ∃ (At : Option Addr) (ct : Nat) (Ax : Option Addr) (cx : Nat), s12 = .slice At TW.length ct ∧ s13 = .slice Ax XW.length cx ∧ ct ≤ maxLen ∧ cx ≤ maxLen ∧ Hid (wx.ownsRow N 9 1 (.slice At TW.length ct) TW.length (strCells TW)) ∧ Hid (wx.ownsRow N 9 1 (.slice Ax XW.length cx) XW.length (strCells XW)) ∧ Hid (NixIn wx N X (X + 1) (.slice A1 ds.length c1) (.slice A2 ss.length c2) ds ss K T (pD (wAt D) k) (pM (wAt D) k)) ∧ Hid (CB wx nd 33 #[.string addr, .string title, .string text]) ∧ Hid (Below N w wx))
          case first =>
            go_region_law (first
              | (go_simp
                 go_at_call 9
                 have hk2 := HO2
                 go_must (refine (words_own text _ hzx).mono ?_)
                 rintro e w3 ⟨v3, rfl, ho3, hb3⟩
                 rw [hXW2.out] at ho3
                 have HO3 := Lib.hid (own_base ho3 HS2.out)
                 have HO23 := Lib.hid (own_rowT HO2.out (grown_none hb3) (RowT.none _ _))
                 have HI3 := Lib.hid (HI2.out.below hb3)
                 have HD3 := Lib.hid (HD2.out.below hb3)
                 have HB3 := Lib.hid (HB2.out.trans (hb3.mono HS2.out))
                 clear ho3 hb3)
              | (go_simp
                 go_at_call 9
                 go_must (refine (words_own title _ hzt).mono ?_)
                 rintro e w2 ⟨v2, rfl, ho2, hb2⟩
                 rw [hTW2.out] at ho2
                 have HB2 := Lib.hid (Below.trans (by first | exact HB1.out | exact Below.drewN' HB1.out _ | exact HB1.out.drew) (hb2.mono (Nat.le_of_lt HI1.out.hr.lt)))
                 have HI2 := Lib.hid (NixIn.below (by first | exact HI1.out | exact HI1.out.below (Below.drewN' (Below.refl _ _) _) | exact HI1.out.below ((Below.refl _ _).drew)) hb2)
                 have HD2 := Lib.hid (CB.below (by first | exact HD1.out | exact HD1.out.drewN _ | exact HD1.out.drew) hb2)
                 have HO2 := Lib.hid (own_base ho2 (show N ≤ _ from Nat.le_of_lt HI1.out.hr.lt))
                 have HS2 := Lib.hid (show N ≤ w2.heap.size from Nat.le_of_lt HI2.out.hr.lt)
                 clear ho2 hb2
                 have d2' : w2.cell? ⟨nd, 2, none⟩ = some (.string text) := HD2.out.c 2))
            all_goals
              (try go_wp2_with fail)
              go_meet
              obtain ⟨At, ct, rfl, hct, _, _⟩ := own_form HO2.out
              obtain ⟨Ax, cx, rfl, hcx, _, _⟩ := own_form HO3.out
              exact ⟨At, ct, Ax, cx, rfl, rfl, hct, hcx, HO23.out, HO3.out, HI3.out, HD3.out, HB3.out⟩
          case rest =>
            obtain ⟨At, ct, Ax, cx, rfl, rfl, hct, hcx, HOt, HOx, HI, HD, HB⟩ := hcut
            obtain ⟨wq, rfl⟩ : ∃ x : World, x = wc := ⟨_, rfl⟩
            clear d0 d1 d2 HI1 HB1 HD1
            have d0 : wq.cell? ⟨nd, 0, none⟩ = some (.string addr) := HD.out.c 0
            have d1 : wq.cell? ⟨nd, 1, none⟩ = some (.string title) := HD.out.c 1
            have x0 : wq.cell? ⟨X, 0, none⟩ = some (.slice A1 ds.length c1) := HI.out.hx.c 0
            have x0f := HI.out.hx.f 0
            have hXw : X < wq.heap.size := HI.out.hx.lt
            have hNw : N ≤ wq.heap.size := Nat.le_of_lt HI.out.hr.lt
            go_upto_region 23 with (at_builtin; go_must (refine wpList_push _ rfl (.tmp 92) (.tmp 98) 22 rfl N 33 _ 3 48 Tryz.underlying22 info_doc rfl (by omega) (.slice A1 ds.length c1) ds.length _ rfl (own_alloc HI.out.hd _) [.string addr, .string title, .string ⟨#[]⟩] rfl _ rfl (cell_new _ [.string addr, .string title, .string ⟨#[]⟩] 33 _ rfl) (by intro u hu; simp at hu; rcases hu with rfl | rfl | rfl <;> rfl) (by omega) (by unfold maxLen; omega) (by simp; omega) ?_); intro g5 k5 w5 own5 hg5 hgg5 hb5; have HXb := Lib.hid (CB.push ((HI.out.below ((Below.refl _ _).alloc (Nat.le_refl _) (.cells #[.string addr, .string title, .string ⟨#[]⟩] 33))).hx) (own_alloc HI.out.hd _) (by decide) hg5); have u0 : w5.cell? ⟨X, 0, none⟩ = some (.slice A1 ds.length c1) := HXb.out.c 0; have u0f := HXb.out.f 0; have u0s := HXb.out.sh)
            have HIa := Lib.hid (NixIn.pushD (HI.out.below ((Below.refl _ _).alloc (Nat.le_refl _) (.cells #[.string addr, .string title, .string ⟨#[]⟩] 33))) ⟨addr, title, ⟨#[]⟩⟩ hg5 own5)
            have HOta := Lib.hid (own_rowT (own_rowT (own_alloc HOt.out (.cells #[.string addr, .string title, .string ⟨#[]⟩] 33)) hg5 (RowT.own (own_alloc HI.out.hd _) (by decide))) (grown_setB w5 X 0 (.slice (some ⟨g5, 0, none⟩) (ds.length + 1) k5)) (RowT.cb HXb.out (by decide)))
            have HOxa := Lib.hid (own_rowT (own_rowT (own_alloc HOx.out (.cells #[.string addr, .string title, .string ⟨#[]⟩] 33)) hg5 (RowT.own (own_alloc HI.out.hd _) (by decide))) (grown_setB w5 X 0 (.slice (some ⟨g5, 0, none⟩) (ds.length + 1) k5)) (RowT.cb HXb.out (by decide)))
            have HBa := Lib.hid (show Below N w (w5.setCell ⟨X, 0, none⟩ (.slice (some ⟨g5, 0, none⟩) (ds.length + 1) k5)) from ((HB.out.alloc hNw _).trans hb5).setCell (p := ⟨X, 0, none⟩) (show N ≤ X by omega) _)
            clear HXb u0 u0f u0s own5 hg5 hgg5 hb5 HI HB HOt HOx HD d0 d1 x0 x0f hXw hNw
            obtain ⟨w6, hw6⟩ : ∃ x, w5.setCell ⟨X, 0, none⟩ (.slice (some ⟨g5, 0, none⟩) (ds.length + 1) k5) = x := ⟨_, rfl⟩
            rw [hw6] at HIa HOta HOxa HBa
            rw [hw6]
            clear hw6
            obtain ⟨ds2, hds2⟩ : ∃ x, ds ++ [⟨addr, title, ⟨#[]⟩⟩] = x := ⟨_, rfl⟩
            rw [hds2] at HIa HDk
            have HDs2 := Lib.hid (show ds.length + 1 = ds2.length by rw [← hds2]; simp)
            clear hds2
            have x1 : w6.cell? ⟨X, 1, none⟩ = some (.slice A2 ss.length c2) := HIa.out.hx.c 1
            have x1f := HIa.out.hx.f 1
            have hXw : X < w6.heap.size := HIa.out.hx.lt
            have hNw : N ≤ w6.heap.size := Nat.le_of_lt HIa.out.hr.lt
            obtain ⟨sz, hsz⟩ : ∃ x : Int, ((TW.length : Int) + (XW.length : Int)) = x := ⟨_, rfl⟩
            have hszw : IntKind.i64.wrap sz = sz := by rw [IntKind.wrap_i64]; omega
            go_upto_region 24 with (at_builtin; go_must (refine wpList_push _ rfl (.tmp 102) (.tmp 108) 23 rfl N 3 _ 1 8 Tryz.underlying23 info_intR rfl (by omega) (.slice A2 ss.length c2) ss.length _ rfl (own_alloc HIa.out.hs _) [.int .i64 sz] rfl _ rfl (cell_new _ [.int .i64 sz] 3 _ rfl) (one_int _ _) (by omega) (by unfold maxLen; omega) (by simp; omega) ?_); intro g7 k7 w7 own7 hg7 hgg7 hb7; have HXb := Lib.hid (CB.push ((HIa.out.below ((Below.refl _ _).alloc (Nat.le_refl _) (.cells #[.int .i64 sz] 3))).hx) (own_alloc HIa.out.hs _) (by decide) hg7); have u1 : w7.cell? ⟨X, 1, none⟩ = some (.slice A2 ss.length c2) := HXb.out.c 1; have u1f := HXb.out.f 1; have u1s := HXb.out.sh)
            have HIb := Lib.hid (NixIn.pushS (sv' := .slice (some ⟨g7, 0, none⟩) (ss.length + 1) k7) (HIa.out.below ((Below.refl _ _).alloc (Nat.le_refl _) (.cells #[.int .i64 sz] 3))) sz (by unfold I64; omega) hg7 own7 (fun b hb => by
              simp only [Value.ownBlock, Option.some.injEq] at hb
              subst hb
              exact hgg7))
            have HOtb := Lib.hid (own_rowT (own_rowT (own_alloc HOta.out (.cells #[.int .i64 sz] 3)) hg7 (RowT.own (own_alloc HIa.out.hs _) (by decide))) (grown_setB w7 X 1 (.slice (some ⟨g7, 0, none⟩) (ss.length + 1) k7)) (RowT.cb HXb.out (by decide)))
            have HOxb := Lib.hid (own_rowT (own_rowT (own_alloc HOxa.out (.cells #[.int .i64 sz] 3)) hg7 (RowT.own (own_alloc HIa.out.hs _) (by decide))) (grown_setB w7 X 1 (.slice (some ⟨g7, 0, none⟩) (ss.length + 1) k7)) (RowT.cb HXb.out (by decide)))
            have HBb := Lib.hid (show Below N w (w7.setCell ⟨X, 1, none⟩ (.slice (some ⟨g7, 0, none⟩) (ss.length + 1) k7)) from ((HBa.out.alloc hNw _).trans hb7).setCell (p := ⟨X, 1, none⟩) (show N ≤ X by omega) _)
            clear HXb u1 u1f u1s own7 hg7 hgg7 hb7 HIa HBa HOta HOxa x1 x1f hXw hNw
            obtain ⟨w8, hw8⟩ : ∃ x, w7.setCell ⟨X, 1, none⟩ (.slice (some ⟨g7, 0, none⟩) (ss.length + 1) k7) = x := ⟨_, rfl⟩
            rw [hw8] at HIb HOtb HOxb HBb
            rw [hw8]
            clear hw8
            have HSz := Lib.hid (show sz = ((TW.length + XW.length : Nat) : Int) by rw [← hsz]; omega)
            rw [← HSz.out] at HSk
            obtain ⟨ss2, hss2⟩ : ∃ x, ss ++ [sz] = x := ⟨_, rfl⟩
            rw [hss2] at HIb HSk
            clear hss2 hsz hszw
            have hNw : N ≤ w8.heap.size := Nat.le_of_lt HIb.out.hr.lt
            obtain ⟨P0, hP0⟩ : ∃ x, w8.heap.size = x := ⟨_, rfl⟩
            have HP0 := Lib.hid hP0; clear hP0
            have hmaxl : TW.length + XW.length ≤ maxLen := by unfold maxLen; omega
            obtain ⟨JL, hJL⟩ : ∃ x, TW.length + XW.length = x := ⟨_, rfl⟩
            have hJLs : JL ≤ 200002 := by omega
            have HFk := Lib.hid (show sumBy fwN (D.take (k + 1)) = sumBy fwN (D.take k) + JL by rw [sumBy_take_succ fwN HN.out, ← hJL, fwN]; simp only [hTW2.out, hXW2.out])
            have HJL := Lib.hid hJL; clear hJL
            go_upto_region 25 with (first
              | (at_builtin; have hq9 := own9; go_must (refine wpList_join _ rfl (.tmp 112) (.tmp 113) 38 rfl P0 9 _ 16 Tryz.underlying38 info_string rfl (.slice A9 TW.length c9) TW.length (strCells TW) rfl own9 N (.slice Ax XW.length cx) XW.length (strCells XW) rfl HOxc.out (strCells_one XW) (by omega) (by omega) hs9 ?_); intro Aj cj wj ownj hbj hsj; rw [HJL.out] at ownj; rw [HJL.out])
              | (at_builtin; go_must (refine wpList_join _ rfl (.const (.slice none 0 0)) (.tmp 111) 38 rfl P0 9 _ 16 Tryz.underlying38 info_string rfl (.slice none 0 0) 0 [] rfl (World.ownsRow_nil _ _ _ _) N (.slice At TW.length ct) TW.length (strCells TW) rfl HOtb.out (strCells_one TW) (by omega) (by omega) (Nat.le_of_eq HP0.out.symm) ?_); intro A9 c9 w9 own9 hb9 hs9; rw [Nat.zero_add, List.nil_append] at own9; rw [Nat.zero_add]; have HOxc := Lib.hid (own_rowT HOxb.out (grown_none (by rw [HP0.out]; exact hb9)) (RowT.none _ _)); have HB9 := Lib.hid hb9; rw [HP0.out] at hs9; clear hb9))
            have HIj := Lib.hid (HIb.out.below (by rw [HP0.out]; exact HB9.out.trans hbj))
            have HBj := Lib.hid (HBb.out.trans ((HB9.out.trans hbj).mono (by rw [← HP0.out]; exact hNw)))
            rw [← strCells_append] at ownj
            have HOj := Lib.hid ownj
            clear ownj hbj hsj hq9 own9 hs9 HB9 HOxc HIb HBb HOxb HOtb hNw
            obtain ⟨J, hJ⟩ : ∃ x, TW ++ XW = x := ⟨_, rfl⟩
            rw [hJ] at HOj HT30
            have HJl := Lib.hid (show J.length = JL by rw [← hJ, List.length_append]; exact HJL.out)
            obtain ⟨SL, hSL⟩ : ∃ x, J.map stemL = x := ⟨_, rfl⟩
            have HSL := Lib.hid hSL
            have hSLl : SL.length = JL := by rw [← hSL, List.length_map]; exact HJl.out
            have HSLl := Lib.hid hSLl; clear hSLl
            have HVend := Lib.hid (show ∀ x, vK TW.length SL JL x = wAt D k x from fun x => by
              have h1 := vK_all (TW.map stemL) (XW.map stemL) x
              rw [← List.map_append, hJ, hSL, List.length_map, HSLl.out] at h1
              rw [h1, HWd.out])
            clear hJ hSL
            obtain ⟨W, hW⟩ : ∃ x, wAt D = x := ⟨_, rfl⟩
            rw [hW] at HIj HVend
            have HWe := Lib.hid hW
            clear hW
            obtain ⟨gD, hgD⟩ : ∃ x, Value.slice (some ⟨g5, 0, none⟩) (ds.length + 1) k5 = x := ⟨_, rfl⟩
            obtain ⟨gS, hgS⟩ : ∃ x, Value.slice (some ⟨g7, 0, none⟩) (ss.length + 1) k7 = x := ⟨_, rfl⟩
            rw [hgD, hgS] at HIj
            clear hgD hgS
            go_loopw [116] (fun t116 wr => ∃ (q : Nat) (K2 : List (List UInt8)) (T2 : List UInt8 → TB), q ≤ JL ∧ t116 = .int .i64 q ∧ Hid (NixIn wr N X (X + 1) gD gS ds2 ss2 K2 T2 (qD W k (vK TW.length SL q)) (qM W k (vK TW.length SL q))) ∧ Hid (∀ s, s ∈ K2 ↔ qD W k (vK TW.length SL q) s ≠ []) ∧ Hid (K2.length ≤ sumBy fwN (D.take k) + q) ∧ Hid (wr.ownsRow P0 9 1 (.slice Aj JL cj) JL (strCells J)) ∧ Hid (Below N w wr)) (fun t _ => JL - (intOf t).toNat)
            case atStart =>
              have h0 := fun s => qD_zero (W := W) (n := k) (v := vK TW.length SL 0) (s := s) (fun x => rfl)
              exact ⟨0, K, T, Nat.zero_le _, rfl, HIj.out.congr (fun s => (h0 s).1) (fun s => (h0 s).2), fun s => by rw [(h0 s).1, ← HWe.out]; exact HK.out s, by have := HKl.out; omega, HOj.out, HBj.out⟩
            case round =>
              obtain ⟨q, K2, T2, hq, rfl, HI, HK2, HKl2, HJ, HB⟩ := hrel
              clear HIj HBj HOj HK HKl
              obtain ⟨wi, rfl⟩ : ∃ x : World, x = wr := ⟨_, rfl⟩
              by_cases hqt : q < JL
              · obtain ⟨x, hx⟩ : ∃ x, J[q]? = some x := ⟨_, List.getElem?_eq_getElem (by rw [HJl.out]; exact hqt)⟩
                have hx30 := HT30.out x (List.mem_of_getElem? hx)
                obtain ⟨s, hs⟩ : ∃ s, stemL x = s := ⟨_, rfl⟩
                have HSs := Lib.hid hs
                have HSq := Lib.hid (show SL[q]? = some s by rw [← HSL.out, List.getElem?_map, hx, ← hs]; rfl)
                clear hs
                obtain ⟨v, hv⟩ : ∃ v, vK TW.length SL q = v := ⟨_, rfl⟩
                rw [hv] at HI HK2
                obtain ⟨mN, hmN⟩ : ∃ m : Nat, (if q < TW.length then 3 else 1) = m := ⟨_, rfl⟩
                have hm3 : 0 < mN ∧ mN ≤ 3 := by rw [← hmN]; split <;> omega
                obtain ⟨hm0, hm3⟩ := hm3
                have HV' := Lib.hid (show vK TW.length SL (q + 1) = vAdd v s mN by rw [vK_at HSq.out, hv, hmN])
                have HVl := Lib.hid (show v s ≤ 4 * JL by rw [← hv]; have := vK_le TW.length SL s q (by rw [HSLl.out]; exact hq); rw [HSLl.out] at this; exact this)
                have HmN := Lib.hid hmN
                have hX30 : x.length ≤ 1048576 := by omega
                obtain ⟨gj, hAj⟩ : ∃ gj, Aj = some ⟨gj, 0, none⟩ := by
                  obtain ⟨A', c', he, _, _, hA'⟩ := own_form HJ.out
                  cases he
                  obtain ⟨g, h1, _⟩ := hA' (by omega)
                  exact ⟨g, h1⟩
                subst hAj
                have jc : wi.cell? ⟨gj, q, none⟩ = some (.string (str0 x)) := own_cell HJ.out (strCells_get hx)
                have hjb := World.block_lt_of_cell? _ _ jc
                simp only at hjb
                clear hv hmN hx
                go_upto_if 124 with fail
                go_cut [16] from 117 to 194 (fun s16 wx => s16 = .int .i64 (mN : Int) ∧ EqW wx wi)
                case first =>
                  by_cases hqa : q < TW.length
                  · have hqa2 : (q : Int) < (TW.length : Int) := by omega
                    have HM3 := Lib.hid (show mN = 3 by rw [← HmN.out, if_pos hqa])
                    go_wp2_with fail
                    go_meet
                    exact ⟨by rw [HM3.out]; rfl, EqW.refl _⟩
                  · have hqa2 : ¬ (q : Int) < (TW.length : Int) := by omega
                    have HM3 := Lib.hid (show mN = 1 by rw [← HmN.out, if_neg hqa])
                    go_wp2_with fail
                    go_meet
                    exact ⟨by rw [HM3.out]; rfl, EqW.refl _⟩
                case rest =>
                  obtain ⟨rfl, hwx⟩ := hcut
                  unfold EqW at hwx
                  subst hwx
                  obtain ⟨pv, hpv⟩ : ∃ pv, ptrF K2 T2 s = pv := ⟨_, rfl⟩
                  have HPv := Lib.hid hpv; clear hpv
                  have hsz : (str0 s).size ≤ maxLen := by rw [← size_toList, str0_list, ← HSs.out]; have := stem_le x; unfold maxLen; omega
                  go_upto_if 134 with (first
                    | (at_lookup; go_must (refine wpList_lookR rfl _ _ 37 true rfl (str0 s) _ rfl rfl HRun.out ?_))
                    | (go_at_call 10; go_must (refine (shipStem_v x s _ hX30 HSs.out).mono ?_); rintro e w1 ⟨rfl, hb1⟩; have HI1 := Lib.hid (HI.out.below hb1); have HJ1 := Lib.hid (own_rowT HJ.out (grown_none hb1) (RowT.none _ _)); have HB1 := Lib.hid (HB.out.trans (hb1.mono (Nat.le_of_lt HI.out.hr.lt))); have HRun := Lib.hid (show (Instr.lookup 37 (.map (some (X + 1))) (.string (str0 s)) true).run Tryz.prog w1 = .ok (.tuple #[pv.getD (.pointer none), .bool pv.isSome]) w1 by rw [← HPv.out]; exact HI1.out.ht.map.look_ok Tryz.underlying9 Tryz.underlying37 hsz (zero_ptr _)); clear hb1))
                  go_cut [18] from 117 to 194 (fun s18 wx => ∃ (K5 : List (List UInt8)) (T5 : List UInt8 → TB), s18 = .pointer (some ⟨(T5 s).blk, 0, none⟩) ∧ s ∈ K5 ∧ K5.length ≤ K2.length + 1 ∧ Hid (∀ t, t ∈ K5 ↔ t ∈ K2 ∨ t = s) ∧ Hid (NixIn wx N X (X + 1) gD gS ds2 ss2 K5 T5 (qD W k v) (qM W k v)) ∧ Hid (wx.ownsRow P0 9 1 (.slice (some ⟨gj, 0, none⟩) JL cj) JL (strCells J)) ∧ Hid (Below N w wx))
                  case first =>
                    by_cases hsK : s ∈ K2
                    · obtain rfl : pv = some (.pointer (some ⟨(T2 s).blk, 0, none⟩)) := by rw [← HPv.out, ptrF_in hsK]
                      simp only [Option.getD_some, Option.isSome_some]
                      go_wp2_with fail
                      go_meet
                      exact ⟨K2, T2, rfl, hsK, Nat.le_succ _, fun t => ⟨Or.inl, fun h => by rcases h with h | rfl; exact h; exact hsK⟩, HI1.out, HJ1.out, HB1.out⟩
                    · obtain rfl : pv = none := by rw [← HPv.out, ptrF_out hsK]
                      have HD0 := Lib.hid (show qD W k v s = [] by
                        cases h : qD W k v s with
                        | nil => rfl
                        | cons a l => exact absurd ((HK2.out s).2 (by rw [h]; simp)) hsK)
                      have HM0 := Lib.hid (show qM W k v s = [] by
                        have h1 := qD_len (W := W) (n := k) (v := v) (s := s)
                        rw [HD0.out] at h1
                        exact List.eq_nil_of_length_eq_zero h1)
                      simp only [Option.getD_none, Option.isSome_none]
                      have hKn : K2.length < maxLen := by have h1 := HKl2.out; have h2 := sumBy_take_le fwN D k; have h3 := HF2.out; unfold maxLen; omega
                      have hXw : X + 1 < w1.heap.size := HI1.out.ht.map.lt
                      go_wp2_with (at_mapUpdate; go_must (refine wpList_storeV rfl _ _ _ 37 rfl Tryz.underlying9 Tryz.underlying37 (HI1.out.ht.map.alloc (.cells #[.string (str0 s), .slice none 0 0, .slice none 0 0] 44)) hKn rfl (str0 s) hsz (.pointer (some ⟨w1.heap.size, 0, none⟩)) rfl rfl ?_); intro w7 hm7 ht7)
                      go_meet
                      have HI7 := Lib.hid (HI1.out.add_new hsK hm7 ht7 HD0.out HM0.out)
                      have hN1 : N ≤ w1.heap.size := Nat.le_of_lt HI1.out.hr.lt
                      have HG7 := Lib.hid (ht7.grown)
                      refine ⟨K2 ++ [s], updT T2 s ⟨w1.heap.size, .slice none 0 0, .slice none 0 0⟩, by rw [updT_same], by simp, by simp, fun t => by simp, HI7.out, own_rowM (own_alloc HJ1.out _) HG7.out (HI1.out.ht.map.alloc _).block, (HB1.out.alloc hN1 _).grown HG7.out (by rw [World.size_alloc]; omega) (fun g hg => by cases hg; omega)⟩
                  case rest =>
                    obtain ⟨K5, T5, rfl, hs5, hK5l, HK5, HI5, HJ5, HB5⟩ := hcut
                    clear HI1 HJ1 HB1 HRun HPv HI HJ HB jc hjb
                    obtain ⟨w5, rfl⟩ : ∃ x : World, x = wc := ⟨_, rfl⟩
                    obtain ⟨bk, hbk⟩ : ∃ x, (T5 s).blk = x := ⟨_, rfl⟩
                    obtain ⟨Dl, hDl⟩ : ∃ x, qD W k v s = x := ⟨_, rfl⟩
                    obtain ⟨Ml, hMl⟩ : ∃ x, qM W k v s = x := ⟨_, rfl⟩
                    have HDl := Lib.hid hDl; have HMl := Lib.hid hMl
                    have hod := HI5.out.ht.od s hs5
                    have hom := HI5.out.ht.om s hs5
                    have hbx := HI5.out.ht.box s hs5
                    rw [hDl] at hod; rw [hMl] at hom
                    have hapt := HI5.out.ht.adm s hs5 s hs5
                    have hlen : Ml.length = Dl.length := by rw [← hMl, ← hDl]; exact qD_len
                    have hDn : Dl.length ≤ k + 1 := by rw [← hDl]; exact qD_le
                    obtain ⟨Ad, cd, hdv, hcd, hlcd, hAd⟩ := own_form hod
                    obtain ⟨Am, cm, hmv, hcm, hlcm, hAm⟩ := own_form hom
                    rw [hdv, hmv, hbk] at hbx
                    rw [hdv] at hod hapt
                    rw [hmv] at hom hapt
                    rw [hlen] at hom hmv hapt hbx hAm
                    have HTs := Lib.hid (show T5 s = ⟨bk, .slice Ad Dl.length cd, .slice Am Dl.length cm⟩ by
                      cases hTs : T5 s with | mk b1 d1 m1 => rw [hTs] at hbk hdv hmv; simp only at hbk hdv hmv; rw [hbk, hdv, hmv])
                    have HOd := Lib.hid hod; have HOm := Lib.hid hom; have HBx := Lib.hid hbx; have HAp := Lib.hid hapt
                    have HLn := Lib.hid hlen; have HAd := Lib.hid hAd; have HAm := Lib.hid hAm
                    clear hod hom hbx hapt hlen hAd hAm hdv hmv hDl hMl
                    rw [hbk]
                    clear hbk
                    obtain ⟨nD, hnD⟩ : ∃ x, Dl.length = x := ⟨_, rfl⟩
                    have hnDk : nD ≤ 121 := by omega
                    rw [hnD] at HOd HOm HBx HAp HTs HLn HAd HAm
                    have HnD := Lib.hid hnD; clear hnD
                    have b1 : w5.cell? ⟨bk, 1, none⟩ = some (.slice Ad nD cd) := HBx.out.c 1
                    have b2 : w5.cell? ⟨bk, 2, none⟩ = some (.slice Am nD cm) := HBx.out.c 2
                    have hbl : bk < w5.heap.size := HBx.out.lt
                    obtain ⟨bz, hbz⟩ : ∃ x, decide (v s = 0) = x := ⟨_, rfl⟩
                    have HBz := Lib.hid hbz; clear hbz
                    go_upto_region 36 with fail
                    go_cut [159] from 117 to 194 (fun s159 wx => s159 = .bool bz ∧ EqW wx w5)
                    case first =>
                      by_cases hvs : v s = 0
                      · obtain rfl : bz = true := by rw [← HBz.out]; simp [hvs]
                        by_cases hn0 : nD = 0
                        · subst hn0
                          go_wp2_with fail
                          go_meet
                          exact ⟨rfl, EqW.refl _⟩
                        · obtain ⟨gd, hgd, _, _⟩ := HAd.out (by omega)
                          subst hgd
                          obtain ⟨j, hj⟩ : ∃ j, nD = j + 1 := ⟨nD - 1, by omega⟩
                          obtain ⟨y, hy⟩ : ∃ y, Dl[j]? = some y := ⟨_, List.getElem?_eq_getElem (by rw [HnD.out]; omega)⟩
                          have hyk : y ≠ (k : Int) := qD_last_new (W := W) hvs (by rw [HDl.out]; exact hy)
                          have e1 : w5.cell? ⟨gd, j, none⟩ = some (.int .i64 y) := own_cell HOd.out (by simp [intCells, hy])
                          have e2 : ((nD : Int) == 0) = false := by simp; omega
                          have e3 : IntKind.i64.wrap ((nD : Int) - 1) = (j : Int) := by rw [show (nD : Int) - 1 = (j : Int) by omega, IntKind.wrap_i64]; omega
                          have e4 : (y != (k : Int)) = true := by simpa using hyk
                          have e5 : (j : Int) < (nD : Int) := by omega
                          have e6 : (y == (k : Int)) = false := by simpa using hyk
                          have HJ5j := Lib.hid hj
                          clear hj hy hyk
                          go_wp2_with fail
                          go_meet
                          exact ⟨rfl, EqW.refl _⟩
                      · obtain rfl : bz = false := by rw [← HBz.out]; simp [hvs]
                        obtain ⟨j, hj1, hj2⟩ := qD_last_old (W := W) (n := k) (v := v) (s := s) (by omega)
                        rw [HDl.out] at hj1 hj2
                        have hj : nD = j + 1 := by rw [← HnD.out]; omega
                        obtain ⟨gd, hgd, _, _⟩ := HAd.out (by omega)
                        subst hgd
                        have e1 : w5.cell? ⟨gd, j, none⟩ = some (.int .i64 (k : Int)) := own_cell HOd.out (by simp [intCells, hj2])
                        have e2 : ((nD : Int) == 0) = false := by simp; omega
                        have e3 : IntKind.i64.wrap ((nD : Int) - 1) = (j : Int) := by rw [show (nD : Int) - 1 = (j : Int) by omega, IntKind.wrap_i64]; omega
                        have e5 : (j : Int) < (nD : Int) := by omega
                        have HJ5j := Lib.hid hj
                        clear hj hj1 hj2
                        go_wp2_with fail
                        go_meet
                        exact ⟨rfl, EqW.refl _⟩
                    case rest =>
                      obtain ⟨rfl, hwx⟩ := hcut
                      unfold EqW at hwx
                      subst hwx
                      go_upto_if 159 with fail
                      obtain ⟨M6, j6, hM6e, hM6l, hM6g, hM6s, hM6z, hM6n⟩ := many_step (W := W) (n := k) (v := v) (s := s) (m := mN) hm0
                      obtain ⟨D6, hD6⟩ : ∃ x, qD W k (vAdd v s mN) s = x := ⟨_, rfl⟩
                      rw [hD6] at hM6e hM6z hM6n
                      have HD6 := Lib.hid hD6; have HM6e := Lib.hid hM6e; have HM6l := Lib.hid hM6l; have HM6g := Lib.hid hM6g; have HM6s := Lib.hid hM6s; have HM6z := Lib.hid hM6z; have HM6n := Lib.hid hM6n
                      clear hD6 hM6e hM6l hM6g hM6s hM6z hM6n
                      have hNw5 : N ≤ wc.heap.size := Nat.le_of_lt HI5.out.hr.lt
                      go_cut [] from 117 to 194 (fun wx => ∃ x6 : TB, x6.blk = bk ∧ Hid (NixIn wx N X (X + 1) gD gS ds2 ss2 K5 (updT T5 s x6) (updT (qD W k v) s D6) (updT (qM W k v) s M6)) ∧ Hid (wx.ownsRow P0 9 1 (.slice (some ⟨gj, 0, none⟩) JL cj) JL (strCells J)) ∧ Hid (Below N w wx))
                      case first =>
                        cases bz with
                        | false =>
                          have hvs : ¬ v s = 0 := by have := HBz.out; simpa using this
                          obtain ⟨hm6, hd6⟩ := HM6n.out hvs
                          have HR := Lib.hid (show NixIn wc N X (X + 1) gD gS ds2 ss2 K5 (updT T5 s (T5 s)) (updT (qD W k v) s D6) (updT (qM W k v) s M6) by rw [hm6, hd6, updT_self, updT_self, updT_self]; exact HI5.out)
                          clear hm6 hd6 hvs
                          go_wp2_with fail
                          go_meet
                          exact ⟨T5 s, by rw [HTs.out], HR.out, HJ5.out, HB5.out⟩
                        | true =>
                          have hvs : v s = 0 := by have := HBz.out; simpa using this
                          obtain ⟨hm6, hd6⟩ := HM6z.out hvs
                          rw [HMl.out] at hm6
                          rw [HDl.out] at hd6
                          have HM6 := Lib.hid hm6; have HD6b := Lib.hid hd6
                          clear hm6 hd6 hvs
                          go_upto_region 37 with fail
                          refine wp_region_any (by kernel_rfl) ?_
                          change wpAny _ _ _ _ _ _ _ wc.drew
                          refine wpAny_inv [0, 1, 2, 3, 4, 5, 6, 7, 8, 9, 10, 11, 12, 13, 14, 15, 16, 17, 18, 19, 20] (IR37 (fun x0 x1 x2 x3 x4 x5 x6 x7 x8 x9 x10 x11 x12 x13 x14 x15 x16 x18 x19 => (⟨#[Value.slice (some { block := b, off := o }) D.length c, undef, Value.pointer (some { block := N, off := 0 }), u3, u4, u5, u6, u7, Value.pointer (some { block := X, off := 0 }), Value.map (some (X + 1)), Value.int IntKind.i64 ((k : Nat) : Int), Value.pointer (some { block := nd, off := 0 }), Value.slice At TW.length ct, Value.slice Ax XW.length cx, Value.int IntKind.i64 ((q : Nat) : Int), Value.string (str0 x), Value.int IntKind.i64 ((mN : Nat) : Int), Value.string (str0 s), Value.pointer (some { block := bk, off := 0 }), Value.bool pv.isSome, Value.int IntKind.i64 ((nD : Nat) : Int), undef, undef, Value.slice (some { block := b, off := o }) D.length c, Value.int IntKind.i64 ((D.length : Nat) : Int), Value.bool (decide ((120 : Int) < ((D.length : Nat) : Int))), undef, Value.slice (some { block := b, off := o }) D.length c, Value.int IntKind.i64 ((D.length : Nat) : Int), Value.int IntKind.i64 ((k0 : Nat) : Int), Value.bool false, u31, u32, u33, u34, u35, u36, u37, u38, u39, u40, u41, u42, u43, u44, u45, u46, u47, u48, u49, u50, u51, u52, u53, u54, u55, u56, u57, u58, u59, u60, u61, u62, u63, u64, u65, u66, u67, u68, u69, u70, u71, u72, u73, u74, u75, Value.agg #[Value.slice none 0 0, Value.slice none 0 0, Value.slice none 0 0], Value.map (some (X + 1)), Value.slice (some { block := b, off := o }) D.length c, Value.int IntKind.i64 ((D.length : Nat) : Int), Value.int IntKind.i64 ((k : Nat) : Int), u81, u82, u83, u84, u85, u86, u87, u88, u89, u90, Value.pointer (some { block := X, off := 0 }), Value.slice A1 ds.length c1, Value.pointer (some { block := nd, off := 0 }), Value.string addr, Value.pointer (some { block := nd, off := 1 }), Value.string title, Value.agg #[Value.string addr, Value.string title, Value.string { data := #[] }], Value.slice (some { block := wq.heap.size, off := 0 }) 1 1, Value.slice (some { block := g5, off := 0 }) (ds.length + 1) k5, Value.pointer (some { block := X, off := 0 }), Value.pointer (some { block := X, off := 1 }), Value.slice A2 ss.length c2, Value.slice At TW.length ct, Value.int IntKind.i64 ((TW.length : Nat) : Int), Value.slice Ax XW.length cx, Value.int IntKind.i64 ((XW.length : Nat) : Int), Value.int IntKind.i64 sz, Value.slice (some { block := w6.heap.size, off := 0 }) 1 1, Value.slice (some { block := g7, off := 0 }) (ss.length + 1) k7, Value.pointer (some { block := X, off := 1 }), Value.slice At TW.length ct, Value.slice A9 TW.length c9, Value.slice Ax XW.length cx, Value.slice (some { block := gj, off := 0 }) JL cj, Value.int IntKind.i64 ((JL : Nat) : Int), Value.int IntKind.i64 ((q : Nat) : Int), u117, u118, u119, u120, u121, u122, u123, u124, u125, u126, u127, u128, u129, u130, u131, u132, u133, u134, u135, u136, u137, u138, u139, u140, u141, u142, u143, u144, u145, u146, u147, u148, u149, u150, u151, u152, u153, u154, u155, u156, u157, u158, Value.bool true, x0, x1, x2, x3, x4, x5, x6, x7, x8, x9, x10, x11, x12, x13, x14, x15, x16, x18, x19, u179, u180, u181, u182, u183, u184, u185, u186, u187, u188, u189, u190, u191, u192, u193, u194, u195, undef, undef, undef, undef, undef, undef, undef, undef, undef, undef, undef, undef, undef, undef, undef, undef, undef, undef, undef, undef, undef, undef, undef, undef, undef], []⟩ : Act)) N bk Ad Am nD cd cm ((k : Nat) : Int) Dl Ml (str0 s) wc.drew) #[true, true, true, true, true, true, true, true, true, true, true, true, true, true, true, true, true, true, true, true, true] (g := 0) (by kernel_rfl) (by kernel_rfl) (by kernel_rfl) (IR37.start u160 u161 u162 u163 u164 u165 u166 u167 u168 u169 u170 u171 u172 u173 u174 u175 u176 u177 u178 rfl (W37.start HBx.out.drew hNw5 (own_drew HOd.out) (own_drew HOm.out) HAp.out)) ?step ?last
                          case step =>
                            intro i hi L a' w' hs hr hI
                            obtain ⟨x0, x1, x2, x3, x4, x5, x6, x7, x8, x9, x10, x11, x12, x13, x14, x15, x16, x18, x19, rfl, hS, h0, h1, h2, h3, h4, h5, h6, h7, h8, h9, h10, h11, h12, h13, h14, h15, h16, h18, h19⟩ := hI
                            simp only [List.mem_cons, List.not_mem_nil, or_false] at hi
                            rcases hi with rfl | rfl | rfl | rfl | rfl | rfl | rfl | rfl | rfl | rfl | rfl | rfl | rfl | rfl | rfl | rfl | rfl | rfl | rfl | rfl | rfl
                            · have n17 := not_yet (k := 17) hs hr (by kernel_rfl)
                              have n20 := not_yet (k := 20) hs hr (by kernel_rfl)
                              have hW := hS.w0 n17
                              refine wpOp_step rfl (fun K hK => ?_)
                              go_simp
                              exact hK _ _ ⟨_, _, _, _, _, _, _, _, _, _, _, _, _, _, _, _, _, _, _, rfl, WS37.same (by decide) (by decide) (by decide) (by decide) hS, fun _ => rfl, (fun h => h1 (getD_was (by decide) h)), (fun h => h2 (getD_was (by decide) h)), (fun h => h3 (getD_was (by decide) h)), (fun h => h4 (getD_was (by decide) h)), (fun h => h5 (getD_was (by decide) h)), (fun h => h6 (getD_was (by decide) h)), (fun h h' => h7 (getD_was (by decide) h) (by rw [← getD_set_ne false (show 0 ≠ 8 by decide)]; exact h')), (fun h => h8 (getD_was (by decide) h)), (fun h => h9 (getD_was (by decide) h)), (fun h => h10 (getD_was (by decide) h)), (fun h => h11 (getD_was (by decide) h)), (fun h => h12 (getD_was (by decide) h)), (fun h h' => h13 (getD_was (by decide) h) (by rw [← getD_set_ne false (show 0 ≠ 14 by decide)]; exact h')), (fun h => h14 (getD_was (by decide) h)), (fun h => h15 (getD_was (by decide) h)), (fun h => h16 (getD_was (by decide) h)), (fun h => h18 (getD_was (by decide) h)), (fun h => h19 (getD_was (by decide) h))⟩
                            · refine wpOp_step rfl (fun K hK => ?_)
                              go_simp
                              exact hK _ _ ⟨_, _, _, _, _, _, _, _, _, _, _, _, _, _, _, _, _, _, _, rfl, WS37.same (by decide) (by decide) (by decide) (by decide) hS, (fun h => h0 (getD_was (by decide) h)), fun _ => rfl, (fun h => h2 (getD_was (by decide) h)), (fun h => h3 (getD_was (by decide) h)), (fun h => h4 (getD_was (by decide) h)), (fun h => h5 (getD_was (by decide) h)), (fun h => h6 (getD_was (by decide) h)), (fun h h' => h7 (getD_was (by decide) h) (by rw [← getD_set_ne false (show 1 ≠ 8 by decide)]; exact h')), (fun h => h8 (getD_was (by decide) h)), (fun h => h9 (getD_was (by decide) h)), (fun h => h10 (getD_was (by decide) h)), (fun h => h11 (getD_was (by decide) h)), (fun h => h12 (getD_was (by decide) h)), (fun h h' => h13 (getD_was (by decide) h) (by rw [← getD_set_ne false (show 1 ≠ 14 by decide)]; exact h')), (fun h => h14 (getD_was (by decide) h)), (fun h => h15 (getD_was (by decide) h)), (fun h => h16 (getD_was (by decide) h)), (fun h => h18 (getD_was (by decide) h)), (fun h => h19 (getD_was (by decide) h))⟩
                            · have n17 := not_yet (k := 17) hs hr (by kernel_rfl)
                              have n20 := not_yet (k := 20) hs hr (by kernel_rfl)
                              have hW := hS.w0 n17
                              refine wpOp_step rfl (fun K hK => ?_)
                              go_simp
                              exact hK _ _ ⟨_, _, _, _, _, _, _, _, _, _, _, _, _, _, _, _, _, _, _, rfl, WS37.same (by decide) (by decide) (by decide) (by decide) hS, (fun h => h0 (getD_was (by decide) h)), (fun h => h1 (getD_was (by decide) h)), fun _ => rfl, (fun h => h3 (getD_was (by decide) h)), (fun h => h4 (getD_was (by decide) h)), (fun h => h5 (getD_was (by decide) h)), (fun h => h6 (getD_was (by decide) h)), (fun h h' => h7 (getD_was (by decide) h) (by rw [← getD_set_ne false (show 2 ≠ 8 by decide)]; exact h')), (fun h => h8 (getD_was (by decide) h)), (fun h => h9 (getD_was (by decide) h)), (fun h => h10 (getD_was (by decide) h)), (fun h => h11 (getD_was (by decide) h)), (fun h => h12 (getD_was (by decide) h)), (fun h h' => h13 (getD_was (by decide) h) (by rw [← getD_set_ne false (show 2 ≠ 14 by decide)]; exact h')), (fun h => h14 (getD_was (by decide) h)), (fun h => h15 (getD_was (by decide) h)), (fun h => h16 (getD_was (by decide) h)), (fun h => h18 (getD_was (by decide) h)), (fun h => h19 (getD_was (by decide) h))⟩
                            · have n17 := not_yet (k := 17) hs hr (by kernel_rfl)
                              have n20 := not_yet (k := 20) hs hr (by kernel_rfl)
                              have hW := hS.w0 n17
                              have q2 := h2 (ready_dep hr (by kernel_rfl))
                              subst q2
                              have zl := hW.ht.lt
                              refine wpOp_step rfl (fun K hK => ?_)
                              go_simp
                              exact hK _ _ ⟨_, _, _, _, _, _, _, _, _, _, _, _, _, _, _, _, _, _, _, rfl, WS37.same (by decide) (by decide) (by decide) (by decide) hS, (fun h => h0 (getD_was (by decide) h)), (fun h => h1 (getD_was (by decide) h)), fun _ => rfl, fun _ => rfl, (fun h => h4 (getD_was (by decide) h)), (fun h => h5 (getD_was (by decide) h)), (fun h => h6 (getD_was (by decide) h)), (fun h h' => h7 (getD_was (by decide) h) (by rw [← getD_set_ne false (show 3 ≠ 8 by decide)]; exact h')), (fun h => h8 (getD_was (by decide) h)), (fun h => h9 (getD_was (by decide) h)), (fun h => h10 (getD_was (by decide) h)), (fun h => h11 (getD_was (by decide) h)), (fun h => h12 (getD_was (by decide) h)), (fun h h' => h13 (getD_was (by decide) h) (by rw [← getD_set_ne false (show 3 ≠ 14 by decide)]; exact h')), (fun h => h14 (getD_was (by decide) h)), (fun h => h15 (getD_was (by decide) h)), (fun h => h16 (getD_was (by decide) h)), (fun h => h18 (getD_was (by decide) h)), (fun h => h19 (getD_was (by decide) h))⟩
                            · have n17 := not_yet (k := 17) hs hr (by kernel_rfl)
                              have n20 := not_yet (k := 20) hs hr (by kernel_rfl)
                              have hW := hS.w0 n17
                              have q3 := h3 (ready_dep hr (by kernel_rfl))
                              subst q3
                              have zl := hW.ht.lt
                              refine wpOp_step rfl (fun K hK => ?_)
                              go_simp
                              exact hK _ _ ⟨_, _, _, _, _, _, _, _, _, _, _, _, _, _, _, _, _, _, _, rfl, WS37.same (by decide) (by decide) (by decide) (by decide) hS, (fun h => h0 (getD_was (by decide) h)), (fun h => h1 (getD_was (by decide) h)), (fun h => h2 (getD_was (by decide) h)), fun _ => rfl, fun _ => rfl, (fun h => h5 (getD_was (by decide) h)), (fun h => h6 (getD_was (by decide) h)), (fun h h' => h7 (getD_was (by decide) h) (by rw [← getD_set_ne false (show 4 ≠ 8 by decide)]; exact h')), (fun h => h8 (getD_was (by decide) h)), (fun h => h9 (getD_was (by decide) h)), (fun h => h10 (getD_was (by decide) h)), (fun h => h11 (getD_was (by decide) h)), (fun h => h12 (getD_was (by decide) h)), (fun h h' => h13 (getD_was (by decide) h) (by rw [← getD_set_ne false (show 4 ≠ 14 by decide)]; exact h')), (fun h => h14 (getD_was (by decide) h)), (fun h => h15 (getD_was (by decide) h)), (fun h => h16 (getD_was (by decide) h)), (fun h => h18 (getD_was (by decide) h)), (fun h => h19 (getD_was (by decide) h))⟩
                            · have n17 := not_yet (k := 17) hs hr (by kernel_rfl)
                              have n20 := not_yet (k := 20) hs hr (by kernel_rfl)
                              have hW := hS.w0 n17
                              have q4 := h4 (ready_dep hr (by kernel_rfl))
                              subst q4
                              have z := hW.ht.c 1
                              simp only [List.getElem?_toArray, List.getElem?_cons_zero, List.getElem?_cons_succ] at z
                              refine wpOp_step rfl (fun K hK => ?_)
                              go_simp
                              exact hK _ _ ⟨_, _, _, _, _, _, _, _, _, _, _, _, _, _, _, _, _, _, _, rfl, WS37.same (by decide) (by decide) (by decide) (by decide) hS, (fun h => h0 (getD_was (by decide) h)), (fun h => h1 (getD_was (by decide) h)), (fun h => h2 (getD_was (by decide) h)), (fun h => h3 (getD_was (by decide) h)), fun _ => rfl, fun _ => rfl, (fun h => h6 (getD_was (by decide) h)), (fun h h' => h7 (getD_was (by decide) h) (by rw [← getD_set_ne false (show 5 ≠ 8 by decide)]; exact h')), (fun h => h8 (getD_was (by decide) h)), (fun h => h9 (getD_was (by decide) h)), (fun h => h10 (getD_was (by decide) h)), (fun h => h11 (getD_was (by decide) h)), (fun h => h12 (getD_was (by decide) h)), (fun h h' => h13 (getD_was (by decide) h) (by rw [← getD_set_ne false (show 5 ≠ 14 by decide)]; exact h')), (fun h => h14 (getD_was (by decide) h)), (fun h => h15 (getD_was (by decide) h)), (fun h => h16 (getD_was (by decide) h)), (fun h => h18 (getD_was (by decide) h)), (fun h => h19 (getD_was (by decide) h))⟩
                            · have n17 := not_yet (k := 17) hs hr (by kernel_rfl)
                              have n20 := not_yet (k := 20) hs hr (by kernel_rfl)
                              have hW := hS.w0 n17
                              refine wpOp_step rfl (fun K hK => ?_)
                              go_simp
                              exact hK _ _ ⟨_, _, _, _, _, _, _, _, _, _, _, _, _, _, _, _, _, _, _, rfl, WS37.same (by decide) (by decide) (by decide) (by decide) hS, (fun h => h0 (getD_was (by decide) h)), (fun h => h1 (getD_was (by decide) h)), (fun h => h2 (getD_was (by decide) h)), (fun h => h3 (getD_was (by decide) h)), (fun h => h4 (getD_was (by decide) h)), (fun h => h5 (getD_was (by decide) h)), fun _ => rfl, (fun h h' => h7 (getD_was (by decide) h) (by rw [← getD_set_ne false (show 6 ≠ 8 by decide)]; exact h')), (fun h => h8 (getD_was (by decide) h)), (fun h => h9 (getD_was (by decide) h)), (fun h => h10 (getD_was (by decide) h)), (fun h => h11 (getD_was (by decide) h)), (fun h => h12 (getD_was (by decide) h)), (fun h h' => h13 (getD_was (by decide) h) (by rw [← getD_set_ne false (show 6 ≠ 14 by decide)]; exact h')), (fun h => h14 (getD_was (by decide) h)), (fun h => h15 (getD_was (by decide) h)), (fun h => h16 (getD_was (by decide) h)), (fun h => h18 (getD_was (by decide) h)), (fun h => h19 (getD_was (by decide) h))⟩
                            · have n17 := not_yet (k := 17) hs hr (by kernel_rfl)
                              have n20 := not_yet (k := 20) hs hr (by kernel_rfl)
                              have hW := hS.w0 n17
                              have q6 := h6 (ready_dep hr (by kernel_rfl))
                              subst q6
                              refine wpOp_step rfl (fun K hK => ?_)
                              go_simp
                              exact hK _ _ ⟨_, _, _, _, _, _, _, _, _, _, _, _, _, _, _, _, _, _, _, rfl, WS37.before (by decide) (by decide) n17 n20 (W37.step (by decide) (by decide) (hW.alloc _)), (fun h => h0 (getD_was (by decide) h)), (fun h => h1 (getD_was (by decide) h)), (fun h => h2 (getD_was (by decide) h)), (fun h => h3 (getD_was (by decide) h)), (fun h => h4 (getD_was (by decide) h)), (fun h => h5 (getD_was (by decide) h)), fun _ => rfl, (fun _ _ => ⟨_, rfl, hW.hb.size, by rw [World.size_alloc]; omega, CB.new _ _ _⟩), (fun h => h8 (getD_was (by decide) h)), (fun h => h9 (getD_was (by decide) h)), (fun h => h10 (getD_was (by decide) h)), (fun h => h11 (getD_was (by decide) h)), (fun h => h12 (getD_was (by decide) h)), (fun h h' => (by obtain ⟨q1, q2, q3, q4⟩ := h13 (getD_was (by decide) h) (by rw [← getD_set_ne false (show 7 ≠ 14 by decide)]; exact h'); exact ⟨q1, q2, q3.alloc _, q4⟩)), (fun h => h14 (getD_was (by decide) h)), (fun h => h15 (getD_was (by decide) h)), (fun h => h16 (getD_was (by decide) h)), (fun h => h18 (getD_was (by decide) h)), (fun h => h19 (getD_was (by decide) h))⟩
                            · have n17 := not_yet (k := 17) hs hr (by kernel_rfl)
                              have n20 := not_yet (k := 20) hs hr (by kernel_rfl)
                              have hW := hS.w0 n17
                              have q5 := h5 (ready_dep hr (by kernel_rfl))
                              subst q5
                              have hL4 := ready_un hr
                              obtain ⟨hL9, hO1, hO2, hAp⟩ := hW.h0 hL4
                              obtain ⟨gd, rfl, hgdW, hgd, hcd⟩ := h7 (ready_dep hr (by kernel_rfl)) hL4
                              have hsz := hW.hb.size
                              have hNW := hW.hN
                              refine wpOp_step rfl (fun K hK => ?_)
                              refine step_pushR rfl (.tmp 165) (.tmp 167) 23 rfl N 3 _ 1 8 Tryz.underlying23 info_intR rfl (by omega) (.slice Ad nD cd) nD _ rfl hO1 [.int .i64 (k : Int)] rfl gd rfl (fun i u hk => (hcd.c i).trans (by simpa using hk)) (one_int _ _) (by omega) (by unfold maxLen; omega) (by omega) ?_
                              intro g7 k7 w7 own7 hg7 hgg7 hb7
                              have hO2' := World.ownsRow.kept hO2 hg7 hAp.symm.or
                              have hAp' := Apart.push (n := nD + 1) (cap := k7) hAp hgg7 (own_lt hO2)
                              rw [← intCells_snoc] at own7
                              have hnw : ∀ b, (Value.slice (some ⟨g7, 0, none⟩) (nD + 1) k7).ownBlock = some b → (Value.slice Ad nD cd).ownBlock = some b ∨ wc.drew.heap.size ≤ b := fun b hb => by simp only [Value.ownBlock, Option.some.injEq] at hb; subst hb; rcases hgg7 with h | h; exact Or.inl h; exact Or.inr (by omega)
                              have hnew : (L.setIfInBounds 8 true).getD 8 false = true := getD_at (mem_ready.1 hr).1 false
                              have hold : (L.setIfInBounds 8 true).getD 14 false = false := by rw [getD_set_ne false (by decide)]; exact hL9
                              refine hK _ _ ⟨_, _, _, _, _, _, _, _, _, _, _, _, _, _, _, _, _, _, _, rfl, WS37.before (by decide) (by decide) n17 n20 ?_, (fun h => h0 (getD_was (by decide) h)), (fun h => h1 (getD_was (by decide) h)), (fun h => h2 (getD_was (by decide) h)), (fun h => h3 (getD_was (by decide) h)), (fun h => h4 (getD_was (by decide) h)), fun _ => rfl, (fun h => h6 (getD_was (by decide) h)), (fun _ h => by rw [getD_at (mem_ready.1 hr).1] at h; cases h), (fun _ => ⟨_, _, rfl⟩), (fun h => h9 (getD_was (by decide) h)), (fun h => h10 (getD_was (by decide) h)), (fun h => h11 (getD_was (by decide) h)), (fun h => h12 (getD_was (by decide) h)), (fun h h' => (by obtain ⟨q1, q2, q3, q4⟩ := h13 (getD_was (by decide) h) (by rw [← getD_set_ne false (show 8 ≠ 14 by decide)]; exact h'); exact ⟨q1, q2, q3.other hg7 (fun e => q4 _ e.symm rfl), q4⟩)), (fun h => h14 (getD_was (by decide) h)), (fun h => h15 (getD_was (by decide) h)), (fun h => h16 (getD_was (by decide) h)), (fun h => h18 (getD_was (by decide) h)), (fun h => h19 (getD_was (by decide) h))⟩
                              rw [hnew, hold]
                              exact ⟨hW.ht.push hO1 (by decide) hg7, hW.hb.trans (GrownX.of_grown hg7 (fun g hg => Or.inl hg)), hW.hN, hW.lt, (fun h => by cases h), (fun _ _ => ⟨own7, hO2', hAp', hnw⟩), (fun h => by cases h)⟩
                            · have n17 := not_yet (k := 17) hs hr (by kernel_rfl)
                              have n20 := not_yet (k := 20) hs hr (by kernel_rfl)
                              have hW := hS.w0 n17
                              refine wpOp_step rfl (fun K hK => ?_)
                              go_simp
                              exact hK _ _ ⟨_, _, _, _, _, _, _, _, _, _, _, _, _, _, _, _, _, _, _, rfl, WS37.same (by decide) (by decide) (by decide) (by decide) hS, (fun h => h0 (getD_was (by decide) h)), (fun h => h1 (getD_was (by decide) h)), (fun h => h2 (getD_was (by decide) h)), (fun h => h3 (getD_was (by decide) h)), (fun h => h4 (getD_was (by decide) h)), (fun h => h5 (getD_was (by decide) h)), (fun h => h6 (getD_was (by decide) h)), (fun h h' => h7 (getD_was (by decide) h) (by rw [← getD_set_ne false (show 9 ≠ 8 by decide)]; exact h')), (fun h => h8 (getD_was (by decide) h)), fun _ => rfl, (fun h => h10 (getD_was (by decide) h)), (fun h => h11 (getD_was (by decide) h)), (fun h => h12 (getD_was (by decide) h)), (fun h h' => h13 (getD_was (by decide) h) (by rw [← getD_set_ne false (show 9 ≠ 14 by decide)]; exact h')), (fun h => h14 (getD_was (by decide) h)), (fun h => h15 (getD_was (by decide) h)), (fun h => h16 (getD_was (by decide) h)), (fun h => h18 (getD_was (by decide) h)), (fun h => h19 (getD_was (by decide) h))⟩
                            · have n17 := not_yet (k := 17) hs hr (by kernel_rfl)
                              have n20 := not_yet (k := 20) hs hr (by kernel_rfl)
                              have hW := hS.w0 n17
                              have q9 := h9 (ready_dep hr (by kernel_rfl))
                              subst q9
                              have zl := hW.ht.lt
                              refine wpOp_step rfl (fun K hK => ?_)
                              go_simp
                              exact hK _ _ ⟨_, _, _, _, _, _, _, _, _, _, _, _, _, _, _, _, _, _, _, rfl, WS37.same (by decide) (by decide) (by decide) (by decide) hS, (fun h => h0 (getD_was (by decide) h)), (fun h => h1 (getD_was (by decide) h)), (fun h => h2 (getD_was (by decide) h)), (fun h => h3 (getD_was (by decide) h)), (fun h => h4 (getD_was (by decide) h)), (fun h => h5 (getD_was (by decide) h)), (fun h => h6 (getD_was (by decide) h)), (fun h h' => h7 (getD_was (by decide) h) (by rw [← getD_set_ne false (show 10 ≠ 8 by decide)]; exact h')), (fun h => h8 (getD_was (by decide) h)), fun _ => rfl, fun _ => rfl, (fun h => h11 (getD_was (by decide) h)), (fun h => h12 (getD_was (by decide) h)), (fun h h' => h13 (getD_was (by decide) h) (by rw [← getD_set_ne false (show 10 ≠ 14 by decide)]; exact h')), (fun h => h14 (getD_was (by decide) h)), (fun h => h15 (getD_was (by decide) h)), (fun h => h16 (getD_was (by decide) h)), (fun h => h18 (getD_was (by decide) h)), (fun h => h19 (getD_was (by decide) h))⟩
                            · have n17 := not_yet (k := 17) hs hr (by kernel_rfl)
                              have n20 := not_yet (k := 20) hs hr (by kernel_rfl)
                              have hW := hS.w0 n17
                              have q10 := h10 (ready_dep hr (by kernel_rfl))
                              subst q10
                              have zl := hW.ht.lt
                              refine wpOp_step rfl (fun K hK => ?_)
                              go_simp
                              exact hK _ _ ⟨_, _, _, _, _, _, _, _, _, _, _, _, _, _, _, _, _, _, _, rfl, WS37.same (by decide) (by decide) (by decide) (by decide) hS, (fun h => h0 (getD_was (by decide) h)), (fun h => h1 (getD_was (by decide) h)), (fun h => h2 (getD_was (by decide) h)), (fun h => h3 (getD_was (by decide) h)), (fun h => h4 (getD_was (by decide) h)), (fun h => h5 (getD_was (by decide) h)), (fun h => h6 (getD_was (by decide) h)), (fun h h' => h7 (getD_was (by decide) h) (by rw [← getD_set_ne false (show 11 ≠ 8 by decide)]; exact h')), (fun h => h8 (getD_was (by decide) h)), (fun h => h9 (getD_was (by decide) h)), fun _ => rfl, fun _ => rfl, (fun h => h12 (getD_was (by decide) h)), (fun h h' => h13 (getD_was (by decide) h) (by rw [← getD_set_ne false (show 11 ≠ 14 by decide)]; exact h')), (fun h => h14 (getD_was (by decide) h)), (fun h => h15 (getD_was (by decide) h)), (fun h => h16 (getD_was (by decide) h)), (fun h => h18 (getD_was (by decide) h)), (fun h => h19 (getD_was (by decide) h))⟩
                            · have n17 := not_yet (k := 17) hs hr (by kernel_rfl)
                              have n20 := not_yet (k := 20) hs hr (by kernel_rfl)
                              have hW := hS.w0 n17
                              have q11 := h11 (ready_dep hr (by kernel_rfl))
                              subst q11
                              have z := hW.ht.c 2
                              simp only [List.getElem?_toArray, List.getElem?_cons_zero, List.getElem?_cons_succ] at z
                              refine wpOp_step rfl (fun K hK => ?_)
                              go_simp
                              exact hK _ _ ⟨_, _, _, _, _, _, _, _, _, _, _, _, _, _, _, _, _, _, _, rfl, WS37.same (by decide) (by decide) (by decide) (by decide) hS, (fun h => h0 (getD_was (by decide) h)), (fun h => h1 (getD_was (by decide) h)), (fun h => h2 (getD_was (by decide) h)), (fun h => h3 (getD_was (by decide) h)), (fun h => h4 (getD_was (by decide) h)), (fun h => h5 (getD_was (by decide) h)), (fun h => h6 (getD_was (by decide) h)), (fun h h' => h7 (getD_was (by decide) h) (by rw [← getD_set_ne false (show 12 ≠ 8 by decide)]; exact h')), (fun h => h8 (getD_was (by decide) h)), (fun h => h9 (getD_was (by decide) h)), (fun h => h10 (getD_was (by decide) h)), fun _ => rfl, fun _ => rfl, (fun h h' => h13 (getD_was (by decide) h) (by rw [← getD_set_ne false (show 12 ≠ 14 by decide)]; exact h')), (fun h => h14 (getD_was (by decide) h)), (fun h => h15 (getD_was (by decide) h)), (fun h => h16 (getD_was (by decide) h)), (fun h => h18 (getD_was (by decide) h)), (fun h => h19 (getD_was (by decide) h))⟩
                            · have n17 := not_yet (k := 17) hs hr (by kernel_rfl)
                              have n20 := not_yet (k := 20) hs hr (by kernel_rfl)
                              have hW := hS.w0 n17
                              refine wpOp_step rfl (fun K hK => ?_)
                              go_simp
                              exact hK _ _ ⟨_, _, _, _, _, _, _, _, _, _, _, _, _, _, _, _, _, _, _, rfl, WS37.before (by decide) (by decide) n17 n20 (W37.step (by decide) (by decide) (hW.alloc _)), (fun h => h0 (getD_was (by decide) h)), (fun h => h1 (getD_was (by decide) h)), (fun h => h2 (getD_was (by decide) h)), (fun h => h3 (getD_was (by decide) h)), (fun h => h4 (getD_was (by decide) h)), (fun h => h5 (getD_was (by decide) h)), (fun h => h6 (getD_was (by decide) h)), (fun h h' => (by obtain ⟨q1, q2, q3, q4, q5⟩ := h7 (getD_was (by decide) h) (by rw [← getD_set_ne false (show 13 ≠ 8 by decide)]; exact h'); exact ⟨q1, q2, q3, by rw [World.size_alloc]; omega, q5.alloc _⟩)), (fun h => h8 (getD_was (by decide) h)), (fun h => h9 (getD_was (by decide) h)), (fun h => h10 (getD_was (by decide) h)), (fun h => h11 (getD_was (by decide) h)), (fun h => h12 (getD_was (by decide) h)), (fun _ _ => ⟨_, rfl, CB.new _ _ _, fun b hb => by have h9 := hW.lt b hb; have h8 := hW.hb.size; omega⟩), (fun h => h14 (getD_was (by decide) h)), (fun h => h15 (getD_was (by decide) h)), (fun h => h16 (getD_was (by decide) h)), (fun h => h18 (getD_was (by decide) h)), (fun h => h19 (getD_was (by decide) h))⟩
                            · have n17 := not_yet (k := 17) hs hr (by kernel_rfl)
                              have n20 := not_yet (k := 20) hs hr (by kernel_rfl)
                              have hW := hS.w0 n17
                              have q12 := h12 (ready_dep hr (by kernel_rfl))
                              subst q12
                              have hL9 := ready_un hr
                              have hL4 := ready_dep hr (show (depsOf _ _ 14).contains 8 = true by kernel_rfl)
                              obtain ⟨hO1, hO2, hAp, hnw⟩ := hW.h1 hL4 hL9
                              obtain ⟨gi, rfl, hci, _⟩ := h13 (ready_dep hr (by kernel_rfl)) hL9
                              have hsz := hW.hb.size
                              have hNW := hW.hN
                              refine wpOp_step rfl (fun K hK => ?_)
                              refine step_pushR rfl (.tmp 172) (.tmp 173) 23 rfl N 3 _ 1 8 Tryz.underlying23 info_intR rfl (by omega) (.slice Am nD cm) nD _ rfl hO2 [.int .i64 0] rfl gi rfl (fun i u hk => (hci.c i).trans (by simpa using hk)) (one_int _ _) (by omega) (by unfold maxLen; omega) (by omega) ?_
                              intro g9 k9 w9 own9 hg9 hgg9 hb9
                              have hO1' := World.ownsRow.kept hO1 hg9 hAp.or
                              have hAp' := Apart.symm (Apart.push (n := nD + 1) (cap := k9) hAp.symm hgg9 (own_lt hO1))
                              rw [← intCells_snoc] at own9
                              have hnw2 : ∀ b, (Value.slice (some ⟨g9, 0, none⟩) (nD + 1) k9).ownBlock = some b → (Value.slice Am nD cm).ownBlock = some b ∨ wc.drew.heap.size ≤ b := fun b hb => by simp only [Value.ownBlock, Option.some.injEq] at hb; subst hb; rcases hgg9 with h | h; exact Or.inl h; exact Or.inr (by omega)
                              have hnew : (L.setIfInBounds 14 true).getD 14 false = true := getD_at (mem_ready.1 hr).1 false
                              have hold : (L.setIfInBounds 14 true).getD 8 false = true := by rw [getD_set_ne false (by decide)]; exact hL4
                              refine hK _ _ ⟨_, _, _, _, _, _, _, _, _, _, _, _, _, _, _, _, _, _, _, rfl, WS37.before (by decide) (by decide) n17 n20 ?_, (fun h => h0 (getD_was (by decide) h)), (fun h => h1 (getD_was (by decide) h)), (fun h => h2 (getD_was (by decide) h)), (fun h => h3 (getD_was (by decide) h)), (fun h => h4 (getD_was (by decide) h)), (fun h => h5 (getD_was (by decide) h)), (fun h => h6 (getD_was (by decide) h)), (fun _ h' => by rw [hold] at h'; cases h'), (fun h => h8 (getD_was (by decide) h)), (fun h => h9 (getD_was (by decide) h)), (fun h => h10 (getD_was (by decide) h)), (fun h => h11 (getD_was (by decide) h)), fun _ => rfl, (fun _ h => by rw [getD_at (mem_ready.1 hr).1] at h; cases h), (fun _ => ⟨_, _, rfl⟩), (fun h => h15 (getD_was (by decide) h)), (fun h => h16 (getD_was (by decide) h)), (fun h => h18 (getD_was (by decide) h)), (fun h => h19 (getD_was (by decide) h))⟩
                              rw [hnew, hold]
                              exact ⟨hW.ht.push hO2 (by decide) hg9, hW.hb.trans (GrownX.of_grown hg9 (fun g hg => Or.inr hg)), hW.hN, hW.lt, (fun h => by cases h), (fun _ h => by cases h), (fun _ => ⟨hO1', own9, hAp', hnw, hnw2⟩)⟩
                            · have n17 := not_yet (k := 17) hs hr (by kernel_rfl)
                              have n20 := not_yet (k := 20) hs hr (by kernel_rfl)
                              have hW := hS.w0 n17
                              have q0 := h0 (ready_dep hr (by kernel_rfl))
                              subst q0
                              have zl := hW.ht.lt
                              refine wpOp_step rfl (fun K hK => ?_)
                              go_simp
                              exact hK _ _ ⟨_, _, _, _, _, _, _, _, _, _, _, _, _, _, _, _, _, _, _, rfl, WS37.same (by decide) (by decide) (by decide) (by decide) hS, fun _ => rfl, (fun h => h1 (getD_was (by decide) h)), (fun h => h2 (getD_was (by decide) h)), (fun h => h3 (getD_was (by decide) h)), (fun h => h4 (getD_was (by decide) h)), (fun h => h5 (getD_was (by decide) h)), (fun h => h6 (getD_was (by decide) h)), (fun h h' => h7 (getD_was (by decide) h) (by rw [← getD_set_ne false (show 15 ≠ 8 by decide)]; exact h')), (fun h => h8 (getD_was (by decide) h)), (fun h => h9 (getD_was (by decide) h)), (fun h => h10 (getD_was (by decide) h)), (fun h => h11 (getD_was (by decide) h)), (fun h => h12 (getD_was (by decide) h)), (fun h h' => h13 (getD_was (by decide) h) (by rw [← getD_set_ne false (show 15 ≠ 14 by decide)]; exact h')), (fun h => h14 (getD_was (by decide) h)), fun _ => rfl, (fun h => h16 (getD_was (by decide) h)), (fun h => h18 (getD_was (by decide) h)), (fun h => h19 (getD_was (by decide) h))⟩
                            · have n17 := not_yet (k := 17) hs hr (by kernel_rfl)
                              have n20 := not_yet (k := 20) hs hr (by kernel_rfl)
                              have hW := hS.w0 n17
                              have q15 := h15 (ready_dep hr (by kernel_rfl))
                              subst q15
                              have zl := hW.ht.lt
                              refine wpOp_step rfl (fun K hK => ?_)
                              go_simp
                              exact hK _ _ ⟨_, _, _, _, _, _, _, _, _, _, _, _, _, _, _, _, _, _, _, rfl, WS37.same (by decide) (by decide) (by decide) (by decide) hS, (fun h => h0 (getD_was (by decide) h)), (fun h => h1 (getD_was (by decide) h)), (fun h => h2 (getD_was (by decide) h)), (fun h => h3 (getD_was (by decide) h)), (fun h => h4 (getD_was (by decide) h)), (fun h => h5 (getD_was (by decide) h)), (fun h => h6 (getD_was (by decide) h)), (fun h h' => h7 (getD_was (by decide) h) (by rw [← getD_set_ne false (show 16 ≠ 8 by decide)]; exact h')), (fun h => h8 (getD_was (by decide) h)), (fun h => h9 (getD_was (by decide) h)), (fun h => h10 (getD_was (by decide) h)), (fun h => h11 (getD_was (by decide) h)), (fun h => h12 (getD_was (by decide) h)), (fun h h' => h13 (getD_was (by decide) h) (by rw [← getD_set_ne false (show 16 ≠ 14 by decide)]; exact h')), (fun h => h14 (getD_was (by decide) h)), fun _ => rfl, fun _ => rfl, (fun h => h18 (getD_was (by decide) h)), (fun h => h19 (getD_was (by decide) h))⟩
                            · have q16 := h16 (ready_dep hr (by kernel_rfl))
                              subst q16
                              have n17 := ready_un hr
                              have n20 := not_yet (k := 20) hs hr (by kernel_rfl)
                              have hW := hS.w0 n17
                              have t8 : L.getD 8 false = true := ready_dep hr (by kernel_rfl)
                              have t14 : L.getD 14 false = true := ready_dep hr (by kernel_rfl)
                              rw [t8, t14] at hW
                              obtain ⟨g7, k7, rfl⟩ := h8 t8
                              have z := hW.ht.c 1
                              simp only [List.getElem?_toArray, List.getElem?_cons_zero, List.getElem?_cons_succ] at z
                              have zf := hW.ht.f 1
                              have zs := hW.ht.sh
                              have zl := hW.ht.lt
                              refine wpOp_step rfl (fun K hK => ?_)
                              go_simp
                              exact hK _ _ ⟨_, _, _, _, _, _, _, _, _, _, _, _, _, _, _, _, _, _, _, rfl, ⟨(fun h => by rw [getD_at (mem_ready.1 hr).1] at h; cases h), (fun _ _ => ⟨_, hW, rfl⟩), (fun h => by rw [getD_set_ne false (by decide), n20] at h; cases h)⟩, (fun h => h0 (getD_was (by decide) h)), (fun h => h1 (getD_was (by decide) h)), (fun h => h2 (getD_was (by decide) h)), (fun h => h3 (getD_was (by decide) h)), (fun h => h4 (getD_was (by decide) h)), (fun h => h5 (getD_was (by decide) h)), (fun h => h6 (getD_was (by decide) h)), (fun _ h' => by rw [getD_set_ne false (by decide), t8] at h'; cases h'), (fun h => h8 (getD_was (by decide) h)), (fun h => h9 (getD_was (by decide) h)), (fun h => h10 (getD_was (by decide) h)), (fun h => h11 (getD_was (by decide) h)), (fun h => h12 (getD_was (by decide) h)), (fun _ h' => by rw [getD_set_ne false (by decide), t14] at h'; cases h'), (fun h => h14 (getD_was (by decide) h)), (fun h => h15 (getD_was (by decide) h)), fun _ => rfl, (fun h => h18 (getD_was (by decide) h)), (fun h => h19 (getD_was (by decide) h))⟩
                            · have q1 := h1 (ready_dep hr (by kernel_rfl))
                              subst q1
                              have n20 := not_yet (k := 20) hs hr (by kernel_rfl)
                              have t17 : L.getD 17 false = true := ready_dep hr (by kernel_rfl)
                              obtain ⟨wz, hWz, hwz⟩ := hS.w1 t17 n20
                              have zl : bk < w'.heap.size := by rw [hwz]; exact (hWz.ht.put 1 x8).lt
                              clear hwz hWz
                              refine wpOp_step rfl (fun K hK => ?_)
                              go_simp
                              exact hK _ _ ⟨_, _, _, _, _, _, _, _, _, _, _, _, _, _, _, _, _, _, _, rfl, WS37.same (by decide) (by decide) (by decide) (by decide) hS, (fun h => h0 (getD_was (by decide) h)), fun _ => rfl, (fun h => h2 (getD_was (by decide) h)), (fun h => h3 (getD_was (by decide) h)), (fun h => h4 (getD_was (by decide) h)), (fun h => h5 (getD_was (by decide) h)), (fun h => h6 (getD_was (by decide) h)), (fun h h' => h7 (getD_was (by decide) h) (by rw [← getD_set_ne false (show 18 ≠ 8 by decide)]; exact h')), (fun h => h8 (getD_was (by decide) h)), (fun h => h9 (getD_was (by decide) h)), (fun h => h10 (getD_was (by decide) h)), (fun h => h11 (getD_was (by decide) h)), (fun h => h12 (getD_was (by decide) h)), (fun h h' => h13 (getD_was (by decide) h) (by rw [← getD_set_ne false (show 18 ≠ 14 by decide)]; exact h')), (fun h => h14 (getD_was (by decide) h)), (fun h => h15 (getD_was (by decide) h)), (fun h => h16 (getD_was (by decide) h)), fun _ => rfl, (fun h => h19 (getD_was (by decide) h))⟩
                            · have q18 := h18 (ready_dep hr (by kernel_rfl))
                              subst q18
                              have n20 := not_yet (k := 20) hs hr (by kernel_rfl)
                              have t17 : L.getD 17 false = true := ready_dep hr (by kernel_rfl)
                              obtain ⟨wz, hWz, hwz⟩ := hS.w1 t17 n20
                              have zl : bk < w'.heap.size := by rw [hwz]; exact (hWz.ht.put 1 x8).lt
                              clear hwz hWz
                              refine wpOp_step rfl (fun K hK => ?_)
                              go_simp
                              exact hK _ _ ⟨_, _, _, _, _, _, _, _, _, _, _, _, _, _, _, _, _, _, _, rfl, WS37.same (by decide) (by decide) (by decide) (by decide) hS, (fun h => h0 (getD_was (by decide) h)), (fun h => h1 (getD_was (by decide) h)), (fun h => h2 (getD_was (by decide) h)), (fun h => h3 (getD_was (by decide) h)), (fun h => h4 (getD_was (by decide) h)), (fun h => h5 (getD_was (by decide) h)), (fun h => h6 (getD_was (by decide) h)), (fun h h' => h7 (getD_was (by decide) h) (by rw [← getD_set_ne false (show 19 ≠ 8 by decide)]; exact h')), (fun h => h8 (getD_was (by decide) h)), (fun h => h9 (getD_was (by decide) h)), (fun h => h10 (getD_was (by decide) h)), (fun h => h11 (getD_was (by decide) h)), (fun h => h12 (getD_was (by decide) h)), (fun h h' => h13 (getD_was (by decide) h) (by rw [← getD_set_ne false (show 19 ≠ 14 by decide)]; exact h')), (fun h => h14 (getD_was (by decide) h)), (fun h => h15 (getD_was (by decide) h)), (fun h => h16 (getD_was (by decide) h)), fun _ => rfl, fun _ => rfl⟩
                            · have q19 := h19 (ready_dep hr (by kernel_rfl))
                              subst q19
                              have n20 := ready_un hr
                              have t8 : L.getD 8 false = true := ready_dep hr (by kernel_rfl)
                              have t17 : L.getD 17 false = true := ready_dep hr (by kernel_rfl)
                              have t14 : L.getD 14 false = true := ready_dep hr (by kernel_rfl)
                              obtain ⟨g9, k9, rfl⟩ := h14 t14
                              obtain ⟨wz, hW, rfl⟩ := hS.w1 t17 n20
                              have hP := hW.ht.put 1 x8
                              have z := hP.c 2
                              simp only [List.getElem?_toArray, List.getElem?_cons_zero, List.getElem?_cons_succ, List.setIfInBounds_toArray, List.set_cons_succ, List.set_cons_zero] at z
                              have zf := hP.f 2
                              have zs := hP.sh
                              have zl := hP.lt
                              refine wpOp_step rfl (fun K hK => ?_)
                              go_simp
                              exact hK _ _ ⟨_, _, _, _, _, _, _, _, _, _, _, _, _, _, _, _, _, _, _, rfl, ⟨(fun h => by rw [getD_set_ne false (by decide), t17] at h; cases h), (fun _ h => by rw [getD_at (mem_ready.1 hr).1] at h; cases h), (fun _ => ⟨wz, hW, rfl⟩)⟩, (fun h => h0 (getD_was (by decide) h)), (fun h => h1 (getD_was (by decide) h)), (fun h => h2 (getD_was (by decide) h)), (fun h => h3 (getD_was (by decide) h)), (fun h => h4 (getD_was (by decide) h)), (fun h => h5 (getD_was (by decide) h)), (fun h => h6 (getD_was (by decide) h)), (fun _ h' => by rw [getD_set_ne false (by decide), t8] at h'; cases h'), (fun h => h8 (getD_was (by decide) h)), (fun h => h9 (getD_was (by decide) h)), (fun h => h10 (getD_was (by decide) h)), (fun h => h11 (getD_was (by decide) h)), (fun h => h12 (getD_was (by decide) h)), (fun _ h' => by rw [getD_set_ne false (by decide), t14] at h'; cases h'), (fun h => h14 (getD_was (by decide) h)), (fun h => h15 (getD_was (by decide) h)), (fun h => h16 (getD_was (by decide) h)), (fun h => h18 (getD_was (by decide) h)), fun _ => rfl⟩
                          case last =>
                            intro a' w' hI
                            obtain ⟨x0, x1, x2, x3, x4, x5, x6, x7, x8, x9, x10, x11, x12, x13, x14, x15, x16, x18, x19, rfl, hS, h0, h1, h2, h3, h4, h5, h6, h7, h8, h9, h10, h11, h12, h13, h14, h15, h16, h18, h19⟩ := hI
                            obtain ⟨g7, k7, rfl⟩ := h8 rfl
                            obtain ⟨g9, k9, rfl⟩ := h14 rfl
                            obtain ⟨wz, hW, rfl⟩ := hS.w2 rfl
                            clear h0 h1 h2 h3 h4 h5 h6 h7 h8 h9 h10 h11 h12 h13 h14 h15 h16 h18 h19 hS
                            have HT9 := Lib.hid hW.ht; have HB9 := Lib.hid hW.hb; have HO9 := Lib.hid (hW.h2 rfl)
                            clear hW
                            refine wpAny_of_seqA 0 21 rfl (by kernel_rfl) ?_
                            simp only [List.drop_succ_cons, List.drop_nil]
                            go_wp2_with fail
                            go_meet
                            obtain ⟨o1, o2, o3, o4, o5⟩ := HO9.out
                            refine ⟨⟨bk, .slice (some ⟨g7, 0, none⟩) (nD + 1) k7, .slice (some ⟨g9, 0, none⟩) (nD + 1) k9⟩, rfl, ?_, ?_, ?_⟩
                            · have hgx : GrownX (TB.has (T5 s)) wc wz := (GrownX.refl _ wc).drew.trans (HB9.out.mono (fun x _ hx => by rw [HTs.out]; exact Or.inr hx))
                              refine HI5.out.turn hs5 ((hgx.set (Or.inl (by rw [HTs.out]; exact Or.inl rfl)) 1 _).set (Or.inl (by rw [HTs.out]; exact Or.inl rfl)) 2 _) (by rw [HTs.out]) ((HT9.out.put 1 _).put 2 _) ?_ ?_ (by rw [HTs.out]; exact o4) (by rw [HTs.out]; exact o5) o3
                              · rw [HD6b.out, List.length_append, HnD.out]
                                exact own_setT (own_setT o1 HT9.out (by decide) _) (HT9.out.put 1 _) (by decide) _
                              · rw [HM6.out, List.length_append, HLn.out]
                                exact own_setT (own_setT o2 HT9.out (by decide) _) (HT9.out.put 1 _) (by decide) _
                            · have hgx : GrownX (TB.has (T5 s)) wc wz := (GrownX.refl _ wc).drew.trans (HB9.out.mono (fun x _ hx => by rw [HTs.out]; exact Or.inr hx))
                              exact HI5.out.ht.own_keep hs5 ((hgx.set (Or.inl (by rw [HTs.out]; exact Or.inl rfl)) 1 _).set (Or.inl (by rw [HTs.out]; exact Or.inl rfl)) 2 _) HJ5.out (by decide) (by decide)
                            · have hgx : GrownX (TB.has (T5 s)) wc wz := (GrownX.refl _ wc).drew.trans (HB9.out.mono (fun x _ hx => by rw [HTs.out]; exact Or.inr hx))
                              exact HB5.out.trans (((hgx.set (Or.inl (by rw [HTs.out]; exact Or.inl rfl)) 1 _).set (Or.inl (by rw [HTs.out]; exact Or.inl rfl)) 2 _).below hNw5 (fun x hx => (HI5.out.ht.has_lt hs5 hx).1))
                      case rest =>
                        obtain ⟨x6, hx6, HI6, HJ6, HB6⟩ := hcut
                        obtain ⟨w6b, rfl⟩ : ∃ x : World, x = wc := ⟨_, rfl⟩
                        clear HI5 HJ5 HB5 HOd HOm HBx HAp b1 b2 hbl HTs HAd HAm HBz HDl HMl HLn HnD
                        have hom := HI6.out.ht.om s hs5
                        have hod := HI6.out.ht.od s hs5
                        have hbx := HI6.out.ht.box s hs5
                        have hapt := HI6.out.ht.adm s hs5 s hs5
                        rw [updT_same] at hbx hapt
                        rw [updT_same, updT_same] at hom hod
                        have HBx0 := Lib.hid hbx; have HAp0 := Lib.hid hapt; have HOd0 := Lib.hid hod; have HOm0 := Lib.hid hom
                        rw [hx6] at hbx
                        obtain ⟨Am6, cm6, hmv, hcm6, hlcm6, hAm6⟩ := own_form hom
                        obtain ⟨gm, hgm, _, _⟩ := hAm6 (by have := HM6l.out; omega)
                        subst hgm
                        obtain ⟨n6, hn6⟩ : ∃ x, M6.length = x := ⟨_, rfl⟩
                        rw [hmv] at hbx hom hapt
                        have j6l : j6 + 1 = n6 := by rw [← hn6]; exact HM6l.out
                        have hn6b : n6 ≤ k + 1 := by rw [← hn6, HM6e.out, ← HD6.out]; exact qD_le
                        have m1 : w6b.cell? ⟨gm, j6, none⟩ = some (.int .i64 ((v s : Nat) : Int)) := own_cell hom (by simp [intCells, HM6g.out])
                        have HBx6 := Lib.hid hbx; have HOm6 := Lib.hid hom; have HOd6 := Lib.hid hod; have HAp6 := Lib.hid hapt; have Hmv := Lib.hid hmv; have Hx6 := Lib.hid hx6
                        rw [hn6] at HBx6 HOm6 HAp6
                        have Hn6 := Lib.hid hn6
                        clear hbx hom hod hapt hmv hx6 hn6
                        have b2 : w6b.cell? ⟨bk, 2, none⟩ = some (.slice (some ⟨gm, 0, none⟩) n6 cm6) := HBx6.out.c 2
                        have hbl : bk < w6b.heap.size := HBx6.out.lt
                        obtain ⟨vs, hvs⟩ : ∃ x : Int, ((v s : Nat) : Int) = x := ⟨_, rfl⟩
                        have hvl : 0 ≤ vs ∧ vs ≤ 800008 := by have := HVl.out; omega
                        rw [hvs] at m1
                        have Hvs := Lib.hid hvs
                        obtain ⟨P6, hP6⟩ : ∃ x : Int, (j6 : Int) = x := ⟨_, rfl⟩
                        have e1 : (n6 : Int) - 1 = (j6 : Int) := by omega
                        have e2 : IntKind.i64.wrap (j6 : Int) = (j6 : Int) := IntWalk.i64_in _ (by omega)
                        have e3 : IntKind.i64.wrap (vs + (mN : Int)) = vs + (mN : Int) := IntWalk.i64_in _ (by omega)
                        have e4 : (j6 : Int) < (n6 : Int) := by omega
                        have e5 : j6 < n6 := by omega
                        have mf : (World.drew w6b).frozen? ⟨gm, j6, none⟩ = false := own_frozen HOm6.out
                        have m1d : (World.drew w6b).cell? ⟨gm, j6, none⟩ = some (.int .i64 vs) := m1
                        have b2d : (World.drew w6b).cell? ⟨bk, 2, none⟩ = some (.slice (some ⟨gm, 0, none⟩) n6 cm6) := b2
                        clear hP6 hvs
                        go_upto_region 38 with fail
                        go_still_tail 15, (by kernel_rfl)
                        change wpList _ _ _ _ _ (World.drew w6b)
                        go_wp2_with fail
                        go_roundw
                        case rel =>
                          obtain ⟨w9, hw9⟩ : ∃ x, (w6b.setCell ⟨gm, j6, none⟩ (.int .i64 (vs + (mN : Int)))).drew = x := ⟨_, rfl⟩
                          rw [hw9]
                          have hgmB : x6.mv.ownBlock = some gm := by rw [Hmv.out]; rfl
                          have g1 : GrownX (fun x => x = gm) w6b w9 := by rw [← hw9]; exact (GrownX.one0 w6b gm j6 _).drew
                          have g2 : GrownX (TB.has ((updT T5 s x6) s)) w6b w9 := g1.mono (fun x _ hx => by rw [updT_same]; exact Or.inr (Or.inr (by rw [hx]; exact hgmB)))
                          have hbn : ¬ x6.blk = gm := fun e => RowT.own HOm0.out (show (3 : TypeId) ≠ 44 by decide) gm hgmB _ _ (by rw [← e]; exact HBx0.out)
                          have hput : w9.ownsRow N 3 1 x6.mv (M6.set j6 (vs + (mN : Int))).length (intCells (M6.set j6 (vs + (mN : Int)))) := by
                            rw [← hw9, List.length_set, Hn6.out, ← intCells_set, Hmv.out, Hn6.out]
                            exact own_drew (own_put HOm6.out j6 _)
                          have T := HI6.out.turn hs5 g2 (x := x6) (dl := D6) (ml := M6.set j6 (vs + (mN : Int))) (by rw [updT_same]) (HBx0.out.keepX g1 hbn) (own_keepX HOd0.out g1 (fun b hb e => HAp0.out b hb (by rw [e]; exact hgmB))) hput (fun b hb => Or.inl (by rw [updT_same]; exact hb)) (fun b hb => Or.inl (by rw [updT_same]; exact hb)) HAp0.out
                          have hne : D6 ≠ [] := by
                            intro h0
                            have h1 := HM6e.out
                            have h2 := HM6l.out
                            rw [h0, List.length_nil] at h1
                            omega
                          refine ⟨q + 1, K5, _, by omega, by go_num, T.congr (fun t => ?_) (fun t => ?_), fun t => ?_, ?_, ?_, ?_⟩
                          · rw [HV'.out]
                            by_cases e : t = s
                            · rw [e, updT_same, HD6.out]
                            · rw [updT_ne _ _ e, updT_ne _ _ e, qD_ne e]
                          · rw [HV'.out]
                            by_cases e : t = s
                            · rw [e, updT_same, HM6s.out, Hvs.out]
                            · rw [updT_ne _ _ e, updT_ne _ _ e, qM_ne e]
                          · rw [HV'.out]
                            by_cases e : t = s
                            · rw [e, HD6.out]; exact ⟨fun _ => hne, fun _ => hs5⟩
                            · rw [qD_ne e, ← HK2.out t, HK5.out t]
                              exact ⟨fun h => h.resolve_right e, Or.inl⟩
                          · have := HKl2.out; show Hid _; exact Lib.hid (by omega)
                          · exact HI6.out.ht.own_keep hs5 g2 HJ6.out (by decide) (by decide)
                          · exact HB6.out.trans (g2.below (Nat.le_of_lt HI6.out.hr.lt) (fun x hx => (HI6.out.ht.has_lt hs5 hx).1))
                        case measure => simp [intOf]; omega
              · have hqe : q = JL := by omega
                subst hqe
                have hq0 := fun s => qD_done (W := W) (n := k) (v := vK TW.length SL q) (s := s) HVend.out
                have HQ := Lib.hid hq0; clear hq0
                go_wp2_with fail
                go_roundw
                case rel =>
                  refine ⟨k + 1, gD, gS, K2, T2, by omega, by go_num, ?_, fun s => ?_, ?_, HB.out⟩
                  · rw [HDk.out, HSk.out, HWe.out]
                    exact HI.out.congr (fun s => ((HQ.out s).1).symm) (fun s => ((HQ.out s).2).symm)
                  · rw [HWe.out, ← (HQ.out s).1]; exact HK2.out s
                  · rw [HFk.out]; exact HKl2.out
                case measure => simp [intOf]; omega
        · have hke : k = D.length := by omega
          subst hke
          rw [List.take_length] at HI HKl
          have hN1 : N < X := HI.out.hNX
          have hX1 : X < wp.heap.size := HI.out.hx.lt
          obtain ⟨r, hr⟩ : ∃ x, wp.heap.size = x := ⟨_, rfl⟩
          have HR := Lib.hid hr
          rw [hr] at hX1
          clear hr
          obtain ⟨A1, c1, rfl, hc1, _, _⟩ := own_form HI.out.hd
          obtain ⟨A2, c2, rfl, hc2, _, _⟩ := own_form HI.out.hs
          go_wp2_with (at_range; go_must (refine wpList_rangeV rfl _ 37 rfl Tryz.underlying9 Tryz.underlying37 rfl HI.out.ht.map ?_); intro w5 cnt0 hrg0 hcnt hg0 hs0; have HRg0 := Lib.hid hrg0; have HF0 := Lib.hid (FinIn.start HI.out.hx hg0 hs0 T); clear hrg0 hcnt hg0 hs0)
          rw [HR.out] at HRg0 HF0
          rw [HR.out]
          go_frame
          have HB5 := Lib.hid (show Below N w w5 from HB.out.trans ((HF0.out.hg.mono (fun x _ hx => hx)).below (by rw [HR.out]; omega) (fun x hx => by rcases hx with hx | hx <;> omega)))
          have HMet0 := Lib.hid (Met.start K T)
          have HKr := Lib.hid (show ∀ s, s ∈ nixK D → s ∈ K from fun s hs => (HK.out s).2 (nixK_mem.1 hs))
          have HKb := Lib.hid (show K.length ≤ 1048576 by have h1 := HKl.out; have h2 := HF2.out; omega)
          go_loopw [] (fun wr => ∃ (lR : List UInt8 → Bool) (cnt : Nat) (Ks : List (List UInt8)) (tv : Value), Hid (RngV Tryz.prog 9 wr (X + 1) r K.length (ptrF K T) lR cnt) ∧ Hid (FinIn wp wr X r (.slice A1 (nixD D).length c1) (.slice A2 (nixS D).length c2) tv T Ks) ∧ Hid (Met K lR Ks)) (fun wr => wr.rangeLeft (X + 1) r)
          case atStart => exact ⟨_, _, [], _, HRg0, HF0, HMet0⟩
          case round =>
            clear HRg0 HF0 HMet0
            obtain ⟨lR, cnt, Ks, tv, HRg, HF, HMe⟩ := hrel
            obtain ⟨wa, rfl⟩ : ∃ x : World, x = wr := ⟨_, rfl⟩
            go_wp2_with (at_next; go_must (refine wpList_nextV rfl _ rfl Tryz.underlying9 r cnt lR rfl HRg.out ?_ ?_))
            · intro hc0 hl0
              have HDn := Lib.hid (HMe.out.done hl0)
              have HNd := Lib.hid HMe.out.nd
              have hKsl : Ks.length ≤ 1048576 := Nat.le_trans HMe.out.len HKb.out
              obtain ⟨At, ct, rfl, hct, _, _⟩ := own_form HF.out.ho
              have x2 : wa.cell? ⟨X, 2, none⟩ = some (.slice At Ks.length ct) := HF.out.hx.c 2
              have hXl : X < wa.heap.size := HF.out.hx.lt
              have HS := Lib.hid (sortTerms_q (encT T) (encT_len T) (encT_one T) (fun _ => rfl) (r + 1) X (.slice At Ks.length ct) Ks wa HF.out.ho hKsl x2 HF.out.tv_ne)
              clear hl0 hc0 HRg HMe
              go_upto_region 46 with (go_at_call 11; go_must (refine HS.out.mono ?_); rintro e w7 ⟨rfl, Ks', hp7, hs7, ho7, hg7⟩)
              have HKe := Lib.hid (met_sorted HK.out HNd.out HDn.out hp7 hs7)
              have HF7 := Lib.hid (HF.out.sorted hg7 hp7.length_eq ho7)
              rw [HKe.out] at HF7
              have hKK : (nixK D).length = Ks.length := by rw [← HKe.out]; exact hp7.length_eq
              have HKK := Lib.hid hKK
              clear hp7 hs7 ho7 hg7 hKK
              have HO7 := Lib.hid (nix_own HI.out HR.out.symm HF7.out HKr.out (nix_ints hL HW.out))
              have HAt := Lib.hid HO7.out.at
              have HLen := Lib.hid (nix_len hL HW.out)
              have HB7 := Lib.hid (show Below N w w7 from HB.out.trans (HF7.out.hg.below (by rw [HR.out]; omega) (fun x hx => by rcases hx with hx | hx <;> omega)))
              have HTb7 := Lib.hid (HTb.out.keep (by rw [HNw.out]; exact HB7.out))
              have HX7 := Lib.hid HF7.out.hx
              have HR7 := Lib.hid (HI.out.res_far (by rw [HR.out]; exact HF7.out.hg))
              have y0 : w7.cell? ⟨X, 0, none⟩ = some (.slice A1 (nixD D).length c1) := HX7.out.c 0
              have y1 : w7.cell? ⟨X, 1, none⟩ = some (.slice A2 (nixS D).length c2) := HX7.out.c 1
              have y2 : w7.cell? ⟨X, 2, none⟩ = some (.slice At Ks.length ct) := HX7.out.c 2
              have ysh := HX7.out.sh
              have hXl7 : X < w7.heap.size := HX7.out.lt
              have hdl : (nixD D).length ≤ (nixS D).length := by simp [nixD, nixS]
              have htl : ∀ t ∈ nixT D, t.docs.length ≤ t.many.length := fun t ht => by obtain ⟨s, _, rfl⟩ := List.mem_map.1 ht; exact Nat.le_of_eq (pM_len _ _ _).symm
              have HHd := Lib.hid hdl; have HHt := Lib.hid htl
              clear hdl htl
              obtain ⟨tx, htx⟩ : ∃ tx : ByteArray, (⟨(idxT (nixD D) (nixS D) (nixT D)).toArray⟩ : ByteArray) = tx := ⟨_, rfl⟩
              have HTx := Lib.hid htx
              have HTs := Lib.hid (show tx.size = (idxT (nixD D) (nixS D) (nixT D)).length by rw [← htx, ← size_toList])
              clear htx
              have HCl := Lib.hid (indexText_q (nixD D) (nixS D) (nixT D) (.slice A1 (nixD D).length c1) (.slice A2 (nixS D).length c2) (.slice At Ks.length ct) w7 HAt.out HHd.out HHt.out HLen.out HTb7.out)
              rw [HTx.out] at HCl
              have hNX2 : N ≠ X := by omega
              by_cases hbig2 : 400000 < (idxT (nixD D) (nixS D) (nixT D)).length
              · have HE4 := Lib.hid (nixE_big H0.out hbig2)
                have hb4 : (400000 : Int) < (tx.size : Int) := by rw [HTs.out]; omega
                have hHb := Lib.hid hbig2; clear hbig2
                go_wp2_with (go_at_call 13; go_must (refine HCl.out.mono ?_); rintro e w8 ⟨rfl, hb8⟩; have HB8 := Lib.hid (HB7.out.trans (hb8.mono (show N ≤ w7.heap.size by omega))); have HR8 := Lib.hid (HR7.out.below hb8); have x0 : w8.cell? ⟨N, 0, none⟩ = some (.slice none 0 0) := HR8.out.c 0; have x1 : w8.cell? ⟨N, 1, none⟩ = some (.slice none 0 0) := HR8.out.c 1; have x2 : w8.cell? ⟨N, 2, none⟩ = some (.slice none 0 0) := HR8.out.c 2; have x0f := HR8.out.f 0; have x1f := HR8.out.f 1; have x2f := HR8.out.f 2; have xs := HR8.out.sh; clear hb8)
                refine idx_done rfl (((HR8.out.put 0 _).put 1 _).put 2 _) rfl rfl rfl rfl (NixPost.err HE4.out (by decide) ?_)
                exact ((HB8.out.setCell (p := ⟨N, 0, none⟩) (show N ≤ N from Nat.le_refl N) _).setCell (p := ⟨N, 1, none⟩) (show N ≤ N from Nat.le_refl N) _).setCell (p := ⟨N, 2, none⟩) (show N ≤ N from Nat.le_refl N) _
              · have HE0 := Lib.hid (nixE_ok H0.out hbig2)
                have hb4 : ¬ (400000 : Int) < (tx.size : Int) := by rw [HTs.out]; omega
                have hHb := Lib.hid hbig2; clear hbig2
                go_wp2_with (go_at_call 13; go_must (refine HCl.out.mono ?_); rintro e w8 ⟨rfl, hb8⟩; have HB8 := Lib.hid (HB7.out.trans (hb8.mono (show N ≤ w7.heap.size by omega))); have HR8 := Lib.hid (HR7.out.below hb8); have HX8 := Lib.hid (HX7.out.below hb8); have HO8 := Lib.hid (HO7.out.below hb8); have x0 : w8.cell? ⟨N, 0, none⟩ = some (.slice none 0 0) := HR8.out.c 0; have x1 : w8.cell? ⟨N, 1, none⟩ = some (.slice none 0 0) := HR8.out.c 1; have x2 : w8.cell? ⟨N, 2, none⟩ = some (.slice none 0 0) := HR8.out.c 2; have x0f := HR8.out.f 0; have x1f := HR8.out.f 1; have x2f := HR8.out.f 2; have xs := HR8.out.sh; have y0 : w8.cell? ⟨X, 0, none⟩ = some (.slice A1 (nixD D).length c1) := HX8.out.c 0; have y1 : w8.cell? ⟨X, 1, none⟩ = some (.slice A2 (nixS D).length c2) := HX8.out.c 1; have y2 : w8.cell? ⟨X, 2, none⟩ = some (.slice At Ks.length ct) := HX8.out.c 2; have ysh8 := HX8.out.sh; have hXl8 : X < w8.heap.size := HX8.out.lt; clear hb8)
                refine idx_done rfl (((HR8.out.put 0 _).put 1 _).put 2 _) rfl rfl rfl rfl (NixPost.ok (L := (nixK D).map fun s => (nixTerm D s, (T s).dv, (T s).mv)) HE0.out ?_ ?_)
                · exact ((HO8.out.box HR8.out (by decide) (by decide) (by decide) _).box (HR8.out.put 0 _) (by decide) (by decide) (by decide) _).box ((HR8.out.put 0 _).put 1 _) (by decide) (by decide) (by decide) _
                · exact ((HB8.out.setCell (p := ⟨N, 0, none⟩) (show N ≤ N from Nat.le_refl N) _).setCell (p := ⟨N, 1, none⟩) (show N ≤ N from Nat.le_refl N) _).setCell (p := ⟨N, 2, none⟩) (show N ≤ N from Nat.le_refl N) _
            · intro x cv w1 cnt1 hx hlx hf hrg hlt hgr hs6 hen
              obtain ⟨s, hs⟩ : ∃ s, x.data.toList = s := ⟨_, rfl⟩
              have hxs : x = str0 s := by rw [← hs]; rfl
              subst hxs
              rw [hs] at hlx hf hrg
              clear hs
              have hsK : s ∈ K := by
                by_cases h : s ∈ K
                · exact h
                · rw [ptrF_out h] at hf; cases hf
              rw [ptrF_in hsK] at hf
              obtain rfl := (Option.some.inj hf).symm
              have HRg1 := Lib.hid hrg
              have HLt := Lib.hid hlt
              have HL0 := Lib.hid HRg.out.left_eq
              have HF1 := Lib.hid (HF.out.iter hgr)
              have HMe1 := Lib.hid (HMe.out.step hsK hlx)
              have hKsl : Ks.length ≤ 1048576 := Nat.le_trans HMe.out.len HKb.out
              have ht1 := HI.out.terms_far (by rw [HR.out]; exact HF1.out.hg)
              have hbx := ht1.box s hsK
              obtain ⟨Ad, cd, hdv, hcd, _, _⟩ := own_form (ht1.od s hsK)
              obtain ⟨Am, cm, hmv, hcm, _, _⟩ := own_form (ht1.om s hsK)
              obtain ⟨bk, hbk⟩ : ∃ x, (T s).blk = x := ⟨_, rfl⟩
              obtain ⟨nd1, hnd1⟩ : ∃ x, (pD (wAt D) D.length s).length = x := ⟨_, rfl⟩
              obtain ⟨nm1, hnm1⟩ : ∃ x, (pM (wAt D) D.length s).length = x := ⟨_, rfl⟩
              rw [hnd1] at hdv
              rw [hnm1] at hmv
              rw [hdv, hmv, hbk] at hbx
              have HE := Lib.hid (show encT T s = [.string (str0 s), .slice Ad nd1 cd, .slice Am nm1 cm] by rw [encT, hdv, hmv, slc_slice, slc_slice])
              rw [hbk] at hen
              rw [hbk]
              have HBx := Lib.hid hbx
              obtain ⟨At, ct, rfl, hct, _, _⟩ := own_form HF1.out.ho
              have x2 : w1.cell? ⟨X, 2, none⟩ = some (.slice At Ks.length ct) := HF1.out.hx.c 2
              have x2f := HF1.out.hx.f 2
              have xsh := HF1.out.hx.sh
              have hXl : X < w1.heap.size := HF1.out.hx.lt
              have hrl : r < w1.heap.size := HF1.out.hr
              have t0 : w1.cell? ⟨bk, 0, none⟩ = some (.string (str0 s)) := HBx.out.c 0
              have t1 : w1.cell? ⟨bk, 1, none⟩ = some (.slice Ad nd1 cd) := HBx.out.c 1
              have t2 : w1.cell? ⟨bk, 2, none⟩ = some (.slice Am nm1 cm) := HBx.out.c 2
              have tsh := HBx.out.sh
              have tl : bk < w1.heap.size := HBx.out.lt
              clear hrg hlt hgr hs6 hf hbx hdv hmv hbk ht1 hnd1 hnm1 hlx HRg HF HMe
              go_wp2_with fail
              go_region_law (refine step_pushR rfl (.tmp 203) (.tmp 207) 24 rfl (r + 1) 44 _ 3 64 Tryz.underlying24 info_term rfl (by omega) (.slice At Ks.length ct) Ks.length _ (by simp [Act.eval]) (own_alloc (own_drew HF1.out.ho) _) [.string (str0 s), .slice Ad nd1 cd, .slice Am nm1 cm] rfl _ (by simp [Act.eval]) (cell_new _ [.string (str0 s), .slice Ad nd1 cd, .slice Am nm1 cm] 44 _ rfl) (by intro u hu; simp at hu; rcases hu with rfl | rfl | rfl <;> rfl) (by omega) (by unfold maxLen; omega) (by simp; omega) ?_
                             intro g6 k6 w6 own6 hg6 hgg6 hb6
                             have HX6 := Lib.hid (((HF1.out.hx.drew).alloc (.cells #[.string (str0 s), .slice Ad nd1 cd, .slice Am nm1 cm] 44)).push (own_alloc (own_drew HF1.out.ho) _) (by decide) hg6)
                             have u2 : w6.cell? ⟨X, 2, none⟩ = some (.slice At Ks.length ct) := HX6.out.c 2
                             have u2f := HX6.out.f 2
                             have u2s := HX6.out.sh)
              all_goals
                (try go_wp2_with fail)
                have HBd := Lib.hid (show Below w1.heap.size w1 ((World.drew w1).alloc (.cells #[.string (str0 s), .slice Ad nd1 cd, .slice Am nm1 cm] 44)) from (Below.refl _ _).drew.alloc (Nat.le_refl _) _)
                have HFn := Lib.hid (FinIn.push (s := s) (tv' := .slice (some ⟨g6, 0, none⟩) (Ks.length + 1) k6) (HF1.out.below HBd.out) hg6 (by rw [HE.out]; exact own6))
                have HRn := Lib.hid (((HRg1.out.below HBd.out).kept hg6 (fun e => by have := (HF1.out.ho.lt _ e.symm).1; omega) (fun e => by have := (HF1.out.ho.lt _ e.symm).1; omega)).kept (grown_setB w6 X 2 (.slice (some ⟨g6, 0, none⟩) (Ks.length + 1) k6)) (fun e => by have := Option.some.inj e; omega) (fun e => by have := Option.some.inj e; omega))
                go_roundw
                case rel => exact ⟨_, cnt1, Ks ++ [s], _, HRn.out, HFn.out, HMe1.out⟩
                case measure => rw [HRn.out.left_eq, HL0.out]; exact HLt.out

end Go.Proofs.YtmcelgokchhpfaaGreatDoor
