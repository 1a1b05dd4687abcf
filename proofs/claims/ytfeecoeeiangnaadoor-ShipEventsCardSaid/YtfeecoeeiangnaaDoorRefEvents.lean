/-
  mastref1.EventsOf.
-/
import Derived.Test.YtfeecoeeiangnaaDoorSortedQ
namespace Go.Proofs.YtfeecoeeiangnaaDoor
open Go.RowKit Go.Deep

def EvRefPost (N : Nat) (a b : List OutV) (w : World) (e : Ending) (w' : World) : Prop :=
  ∃ v, e = .returned v ∧ w'.ownsRow N 9 1 v (evS a b).length (strCells (evS a b)) ∧ Below N w w'
set_option maxRecDepth 100000 in
set_option maxHeartbeats 8000000 in
theorem eventsOf_q (a b : List OutV) (va vb : Value) (w : World) (ha : OutsAt w va a) (hb : OutsAt w vb b) (hm : MaxAt w) (he1 : outsE a = 0) (he2 : outsE b = 0) : Calls Tryd.prog 12 #[va, vb] w (EvRefPost w.heap.size a b w) := by
  have Ha := Lib.hid ha
  have Hb := Lib.hid hb
  have HMx := Lib.hid hm; clear hm
  obtain ⟨N, hN⟩ : ∃ N, w.heap.size = N := ⟨_, rfl⟩
  have HN := Lib.hid hN
  rw [hN]
  have hla := outsE_len he1
  have hlb := outsE_len he2
  have HPa := Lib.hid (outs_paths he1)
  have HPb := Lib.hid (outs_paths he2)
  have HOn := Lib.hid (evS_once he1 he2)
  obtain ⟨A1, c1, b1, o1, rfl, hlc1, hc1, hA1, hcell1⟩ := ha
  obtain ⟨A2, c2, b2, o2, rfl, hlc2, hc2, hA2, hcell2⟩ := hb
  have HC1 := Lib.hid hcell1
  have HC2 := Lib.hid hcell2
  have HA1 := Lib.hid hA1
  have HA2 := Lib.hid hA2
  unfold maxLen at hc1 hc2
  clear he1 he2 hN hcell1 hcell2 hA1 hA2
  go_enter Tryd.func12, Tryd.ntmps12
  go_wp2_with fail
  go_loopw [20, 5] (fun ti tv wr => ∃ (j n : Nat) (A : Option Addr) (c : Nat), j ≤ a.length ∧ ti = .int .i64 j ∧ tv = .slice A n c ∧ Hid (n = (fl (goneB b) a j).length) ∧ Hid (wr.ownsRow N 9 1 (.slice A n c) n (strCells (fl (goneB b) a j))) ∧ Hid (Below N w wr)) (fun t _ _ => a.length - (intOf t).toNat)
  case atStart => exact ⟨0, 0, none, 0, Nat.zero_le _, rfl, rfl, rfl, World.ownsRow_nil _ _ _ _, Below.refl _ _⟩
  case round =>
    obtain ⟨j, n, A, c, hj, rfl, rfl, HNn, HOw, HBw⟩ := hrel
    by_cases hlt : j < a.length
    · obtain ⟨x, hx⟩ : ∃ x, a[j]? = some x := ⟨_, List.getElem?_eq_getElem hlt⟩
      obtain rfl : A1 = some ⟨b1, o1, none⟩ := HA1.out (by intro h0; rw [h0] at hlt; simp at hlt)
      have kc := (HC1.out j x hx).keep (Keeps.of_below (by rw [HN.out]; exact HBw.out))
      have k0 := kc.c0
      have k1 := kc.c1
      have hxm := List.mem_of_getElem? hx
      have HPx := Lib.hid (HPa.out x hxm)
      have hnle : n ≤ 960 := by have := fl_len (goneB b) a j; have := HNn.out; omega
      have HX := Lib.hid hx
      clear hx kc hxm
      obtain ⟨ad, had⟩ : ∃ ad, addrS x.path = ad := ⟨_, rfl⟩
      have HAd := Lib.hid had; clear had
      have hKw : N ≤ wr.heap.size := by have := HBw.out.size; have := HN.out; omega
      have hKw1 : N ≤ wr.heap.size + 1 := by omega
      have HBx := Lib.hid (show Below N w (wr.alloc (.cells #[.string x.path, .string x.body] 45)) from HBw.out.alloc hKw _)
      have HOx := Lib.hid (show (wr.alloc (.cells #[.string x.path, .string x.body] 45)).ownsRow N 9 1 (.slice A n c) n (strCells (fl (goneB b) a j)) from own_alloc HOw.out _)
      have HBbx := Lib.hid (CB.new wr #[.string x.path, .string x.body] 45)
      have hbq := bodyOf_q b _ x.path (wr.alloc (.cells #[.string x.path, .string x.body] 45)) (Hb.out.keep (Keeps.of_below (by rw [HN.out]; exact HBx.out)))
      cases hf : bodyP b x.path.data.toList with
      | none =>
        rw [hf] at hbq
        have HBQ := Lib.hid hbq
        have HG := Lib.hid (gone_none hf)
        clear hf hbq
        go_wp2_with (first | (go_at_call 35; go_must (refine HBQ.out.mono ?_); rintro e w4 ⟨rfl, hb4⟩; have HB4 := Lib.hid (HBx.out.trans (hb4.mono (by rw [World.size_alloc]; exact hKw1))); have HO4 := Lib.hid (own_keepB2 HOx.out hb4); have bx0 := (HBbx.out.below hb4).c 0; have bx1 := (HBbx.out.below hb4).c 1; have hz4 : N ≤ w4.heap.size := (by have h9 := hb4.size; rw [World.size_alloc] at h9; omega); clear hb4) | (go_at_call 36; go_must (refine (addressOf_q2 x.path ad _ HAd.out HPx.out (HMx.out.keep (Keeps.of_below (by rw [HN.out]; exact HB4.out)))).mono ?_); rintro e w5 ⟨rfl, hb5⟩; have HB5 := Lib.hid (HB4.out.trans (hb5.mono hz4)); have HO5 := Lib.hid (own_keepB2 HO4.out hb5); have hz5 : N ≤ w5.heap.size := (by have h9 := hb5.size; omega); clear hb5) | (at_builtin; go_must (refine wpList_push _ rfl (.tmp 45) (.tmp 47) 33 rfl N 9 _ 1 16 Tryd.underlying33 info_strE rfl (by omega) (.slice A n c) n _ rfl (own_alloc HO5.out _) [.string ad] rfl _ rfl (cell_new _ [.string ad] 9 _ rfl) (one_str _) (by omega) (by unfold maxLen; omega) (by simp; omega) ?_); intro g7 c7 w7 own7 hg7 hgg7 hb7; have HO7 := Lib.hid own7; have HB7 := Lib.hid ((HB5.out.alloc hz5 (.cells #[.string ad] 9)).trans hb7); clear own7 hg7 hgg7 hb7))
        go_roundw
        case rel => exact ⟨j + 1, n + 1, _, c7, by omega, by go_num, rfl, by rw [fl_yes HX.out HG.out, List.length_append, ← HNn.out]; rfl, by rw [fl_yes HX.out HG.out, cells_one HAd.out]; exact HO7.out, HB7.out⟩
        case measure => simp [intOf]; omega
      | some y =>
        rw [hf] at hbq
        have HBQ := Lib.hid hbq
        clear hbq
        obtain ⟨z, hz⟩ : ∃ z, str0 y = z := ⟨_, rfl⟩
        have HZ := Lib.hid hz
        by_cases hzb : z = x.body
        · have HG := Lib.hid (gone_same hf (hz.trans hzb))
          have hzz : str0 (Option.getD (some y) []) = x.body := hz.trans hzb
          rw [hzz] at HBQ
          clear hf hz hzb hzz
          go_wp2_with (first | (go_at_call 35; go_must (refine HBQ.out.mono ?_); rintro e w4 ⟨rfl, hb4⟩; have HB4 := Lib.hid (HBx.out.trans (hb4.mono (by rw [World.size_alloc]; exact hKw1))); have HO4 := Lib.hid (own_keepB2 HOx.out hb4); have bx0 := (HBbx.out.below hb4).c 0; have bx1 := (HBbx.out.below hb4).c 1; have hz4 : N ≤ w4.heap.size := (by have h9 := hb4.size; rw [World.size_alloc] at h9; omega); clear hb4))
          go_roundw
          case rel => exact ⟨j + 1, n, A, c, by omega, by go_num, rfl, by rw [fl_no HX.out HG.out]; exact HNn.out, by rw [fl_no HX.out HG.out]; exact HO4.out, HB4.out⟩
          case measure => simp [intOf]; omega
        · have HG := Lib.hid (gone_other hf (by rw [hz]; exact hzb))
          have hzz : str0 (Option.getD (some y) []) = z := hz
          rw [hzz] at HBQ
          have hzb1 := str_ne hzb
          have hzb2 := str_ne2 hzb
          clear hf hz hzb hzz
          go_wp2_with (first | (go_at_call 35; go_must (refine HBQ.out.mono ?_); rintro e w4 ⟨rfl, hb4⟩; have HB4 := Lib.hid (HBx.out.trans (hb4.mono (by rw [World.size_alloc]; exact hKw1))); have HO4 := Lib.hid (own_keepB2 HOx.out hb4); have bx0 := (HBbx.out.below hb4).c 0; have bx1 := (HBbx.out.below hb4).c 1; have hz4 : N ≤ w4.heap.size := (by have h9 := hb4.size; rw [World.size_alloc] at h9; omega); clear hb4) | (go_at_call 36; go_must (refine (addressOf_q2 x.path ad _ HAd.out HPx.out (HMx.out.keep (Keeps.of_below (by rw [HN.out]; exact HB4.out)))).mono ?_); rintro e w5 ⟨rfl, hb5⟩; have HB5 := Lib.hid (HB4.out.trans (hb5.mono hz4)); have HO5 := Lib.hid (own_keepB2 HO4.out hb5); have hz5 : N ≤ w5.heap.size := (by have h9 := hb5.size; omega); clear hb5) | (at_builtin; go_must (refine wpList_push _ rfl (.tmp 45) (.tmp 47) 33 rfl N 9 _ 1 16 Tryd.underlying33 info_strE rfl (by omega) (.slice A n c) n _ rfl (own_alloc HO5.out _) [.string ad] rfl _ rfl (cell_new _ [.string ad] 9 _ rfl) (one_str _) (by omega) (by unfold maxLen; omega) (by simp; omega) ?_); intro g7 c7 w7 own7 hg7 hgg7 hb7; have HO7 := Lib.hid own7; have HB7 := Lib.hid ((HB5.out.alloc hz5 (.cells #[.string ad] 9)).trans hb7); clear own7 hg7 hgg7 hb7))
          go_roundw
          case rel => exact ⟨j + 1, n + 1, _, c7, by omega, by go_num, rfl, by rw [fl_yes HX.out HG.out, List.length_append, ← HNn.out]; rfl, by rw [fl_yes HX.out HG.out, cells_one HAd.out]; exact HO7.out, HB7.out⟩
          case measure => simp [intOf]; omega
    · obtain rfl : j = a.length := by omega
      obtain ⟨P, hP⟩ : ∃ P, fl (goneB b) a a.length = P := ⟨_, rfl⟩
      have HP := Lib.hid hP
      rw [hP] at HNn HOw
      have hPl : P.length ≤ 480 := by have := fl_len (goneB b) a a.length; rw [hP] at this; omega
      clear hP
      have HO0 := Lib.hid (show wr.ownsRow N 9 1 (.slice A n c) n (strCells (P ++ fl (freshB a) b 0)) by rw [show fl (freshB a) b 0 = [] from rfl, List.append_nil]; exact HOw.out)
      have HN0 := Lib.hid (show n = (P ++ fl (freshB a) b 0).length by rw [show fl (freshB a) b 0 = [] from rfl, List.append_nil]; exact HNn.out)
      clear HOw HNn
      go_wp2_with fail
      go_loopw [52, 5] (fun ti tv wr => ∃ (j n : Nat) (A : Option Addr) (c : Nat), j ≤ b.length ∧ ti = .int .i64 j ∧ tv = .slice A n c ∧ Hid (n = (P ++ fl (freshB a) b j).length) ∧ Hid (wr.ownsRow N 9 1 (.slice A n c) n (strCells (P ++ fl (freshB a) b j))) ∧ Hid (Below N w wr)) (fun t _ _ => b.length - (intOf t).toNat)
      case atStart => exact ⟨0, n, A, c, Nat.zero_le _, rfl, rfl, HN0, HO0, HBw.out⟩
      case round =>
        clear HO0 HN0 HBw
        obtain ⟨j, n, A, c, hj, rfl, rfl, HNn, HOw, HBw⟩ := hrel
        by_cases hlt : j < b.length
        · obtain ⟨x, hx⟩ : ∃ x, b[j]? = some x := ⟨_, List.getElem?_eq_getElem hlt⟩
          obtain rfl : A2 = some ⟨b2, o2, none⟩ := HA2.out (by intro h0; rw [h0] at hlt; simp at hlt)
          have kc := (HC2.out j x hx).keep (Keeps.of_below (by rw [HN.out]; exact HBw.out))
          have k0 := kc.c0
          have k1 := kc.c1
          have hxm := List.mem_of_getElem? hx
          have HPx := Lib.hid (HPb.out x hxm)
          have hnle : n ≤ 960 := by have := fl_len (freshB a) b j; have := HNn.out; rw [List.length_append] at this; omega
          have HX := Lib.hid hx
          clear hx kc hxm
          obtain ⟨ad, had⟩ : ∃ ad, addrS x.path = ad := ⟨_, rfl⟩
          have HAd := Lib.hid had; clear had
          have hKw : N ≤ wr.heap.size := by have := HBw.out.size; have := HN.out; omega
          have hKw1 : N ≤ wr.heap.size + 1 := by omega
          have HBx := Lib.hid (show Below N w (wr.alloc (.cells #[.string x.path, .string x.body] 45)) from HBw.out.alloc hKw _)
          have HOx := Lib.hid (show (wr.alloc (.cells #[.string x.path, .string x.body] 45)).ownsRow N 9 1 (.slice A n c) n (strCells (P ++ fl (freshB a) b j)) from own_alloc HOw.out _)
          have HBbx := Lib.hid (CB.new wr #[.string x.path, .string x.body] 45)
          have hbq := bodyOf_q a _ x.path (wr.alloc (.cells #[.string x.path, .string x.body] 45)) (Ha.out.keep (Keeps.of_below (by rw [HN.out]; exact HBx.out)))
          cases hf : bodyP a x.path.data.toList with
          | none =>
            rw [hf] at hbq
            have HBQ := Lib.hid hbq
            have HG := Lib.hid (fresh_none hf)
            clear hf hbq
            go_wp2_with (first | (go_at_call 35; go_must (refine HBQ.out.mono ?_); rintro e w4 ⟨rfl, hb4⟩; have HB4 := Lib.hid (HBx.out.trans (hb4.mono (by rw [World.size_alloc]; exact hKw1))); have HO4 := Lib.hid (own_keepB2 HOx.out hb4); have bx0 := (HBbx.out.below hb4).c 0; have bx1 := (HBbx.out.below hb4).c 1; have hz4 : N ≤ w4.heap.size := (by have h9 := hb4.size; rw [World.size_alloc] at h9; omega); clear hb4) | (go_at_call 36; go_must (refine (addressOf_q2 x.path ad _ HAd.out HPx.out (HMx.out.keep (Keeps.of_below (by rw [HN.out]; exact HB4.out)))).mono ?_); rintro e w5 ⟨rfl, hb5⟩; have HB5 := Lib.hid (HB4.out.trans (hb5.mono hz4)); have HO5 := Lib.hid (own_keepB2 HO4.out hb5); have hz5 : N ≤ w5.heap.size := (by have h9 := hb5.size; omega); clear hb5) | (at_builtin; go_must (refine wpList_push _ rfl (.tmp 71) (.tmp 73) 33 rfl N 9 _ 1 16 Tryd.underlying33 info_strE rfl (by omega) (.slice A n c) n _ rfl (own_alloc HO5.out _) [.string ad] rfl _ rfl (cell_new _ [.string ad] 9 _ rfl) (one_str _) (by omega) (by unfold maxLen; omega) (by simp; omega) ?_); intro g7 c7 w7 own7 hg7 hgg7 hb7; have HO7 := Lib.hid own7; have HB7 := Lib.hid ((HB5.out.alloc hz5 (.cells #[.string ad] 9)).trans hb7); clear own7 hg7 hgg7 hb7))
            go_roundw
            case rel => exact ⟨j + 1, n + 1, _, c7, by omega, by go_num, rfl, by rw [fl_yes HX.out HG.out, ← List.append_assoc, List.length_append, ← HNn.out]; rfl, by rw [fl_yes HX.out HG.out, ← List.append_assoc, cells_one HAd.out]; exact HO7.out, HB7.out⟩
            case measure => simp [intOf]; omega
          | some y =>
            rw [hf] at hbq
            have HBQ := Lib.hid hbq
            clear hbq
            have HG := Lib.hid (fresh_some hf)
            clear hf
            go_wp2_with (first | (go_at_call 35; go_must (refine HBQ.out.mono ?_); rintro e w4 ⟨rfl, hb4⟩; have HB4 := Lib.hid (HBx.out.trans (hb4.mono (by rw [World.size_alloc]; exact hKw1))); have HO4 := Lib.hid (own_keepB2 HOx.out hb4); have bx0 := (HBbx.out.below hb4).c 0; have bx1 := (HBbx.out.below hb4).c 1; have hz4 : N ≤ w4.heap.size := (by have h9 := hb4.size; rw [World.size_alloc] at h9; omega); clear hb4))
            go_roundw
            case rel => exact ⟨j + 1, n, A, c, by omega, by go_num, rfl, by rw [fl_no HX.out HG.out]; exact HNn.out, by rw [fl_no HX.out HG.out]; exact HO4.out, HB4.out⟩
            case measure => simp [intOf]; omega
        · obtain rfl : j = b.length := by omega
          have HNe := Lib.hid (show n = (evL a b).length by rw [← evL_fl, HP.out]; exact HNn.out)
          have HOe := Lib.hid (show wr.ownsRow N 9 1 (.slice A n c) (evL a b).length (strCells (evL a b)) by rw [← HNe.out, ← evL_fl, HP.out]; exact HOw.out)
          have hnle : (evL a b).length ≤ 1048576 := by have := fl_len (freshB a) b b.length; have h8 := HNn.out; rw [List.length_append] at h8; rw [← HNe.out]; omega
          have hNw : N ≤ wr.heap.size := by have := HBw.out.size; have := HN.out; omega
          clear HNn HOw
          go_wp2_with fail
          refine (sorted_q N (.slice A n c) (evL a b) wr HOe.out hnle hNw).mono ?_
          rintro e w8 ⟨v8, rfl, own8, hb8⟩
          have HO8 := Lib.hid own8; have HB8 := Lib.hid hb8
          clear own8 hb8
          go_wp2_with fail
          go_ret
          refine ⟨v8, rfl, ?_, HBw.out.trans HB8.out⟩
          have h9 := HO8.out
          rw [show ((evL a b).mergeSort fun x y => decide (x ≤ y)) = evS a b from rfl, HOn.out] at h9
          exact h9

end Go.Proofs.YtfeecoeeiangnaaDoor
