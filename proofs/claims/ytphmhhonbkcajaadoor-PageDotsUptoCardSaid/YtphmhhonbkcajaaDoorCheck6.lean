/-
  Nested too deep: mark.tooDeep, mastref1.deep. The first error: mark.nodesFault, mastref1.nodesError.
-/
import Derived.Test.YtphmhhonbkcajaaDoorCheck5
namespace Go.Proofs.YtphmhhonbkcajaaDoor
open Go.RowKit Go.Deep

theorem isInline_mv (k : Int) (v : Bool) (w : World) (h : isInlineB k = v) : Calls Tryd.prog 26 #[.int .i64 k] w fun e w' => e = .returned (.bool v) ∧ w = w' := by
  subst h
  exact isInline_m k w
theorem deepB_nil (b i : Nat) : deepB [] b i = false := by rw [deepB]
theorem nodesErr_nil (p : Int) : nodesErr [] p = 0 := by rw [nodesErr]

/-- a node's box -/
abbrev nodeBox (n : Node) (kv : Value) : Obj := .cells #[.int .i64 n.kind, .int .i64 n.level, .string n.text, .string n.dest, .string n.title, kv] 28

set_option maxHeartbeats 4000000 in
theorem tooDeep_any (N : Nat) : ∀ (l : List Node) (v : Value) (b i : Nat) (w : World), SizeOf.sizeOf l ≤ N → NodesAt w v l → b ≤ 12 → i ≤ 12 →
    Calls Tryd.prog 11 #[v, .int .i64 b, .int .i64 i] w fun e w' => e = .returned (.bool (deepB l b i)) ∧ w = w' := by
  induction N with
  | zero =>
    intro l v b i w hN
    cases l <;> simp at hN
  | succ N ih =>
    intro l v b i w hN h hb hi
    obtain ⟨A, c, bl, o, kv, rfl, hlc, hc, hA, hcell, hkid⟩ := h.inv
    unfold maxLen at hc
    have HCell := Lib.hid hcell; clear hcell
    have HKid := Lib.hid hkid; clear hkid
    have HN := Lib.hid hN; clear hN
    have HI := Lib.hid ih; clear ih
    clear h
    go_enter Tryd.func11, Tryd.ntmps11
    go_wp2_with fail
    go_loopw [12] (fun t wr => ∃ (k : Nat), k ≤ l.length ∧ t = .int .i64 k ∧ EqW wr w ∧ Hid (deepB (l.drop k) b i = deepB l b i)) (fun t _ => l.length - (intOf t).toNat)
    case atStart => exact ⟨0, Nat.zero_le _, rfl, EqW.refl _, rfl⟩
    case round =>
      obtain ⟨k, hk, rfl, hww, hr⟩ := hrel

      unfold EqW at hww
      subst hww
      by_cases hlt : k < l.length
      · have hA' := hA (by rintro rfl; simp at hlt)
        subst hA'
        obtain ⟨n, hn⟩ : ∃ n, l[k]? = some n := ⟨_, List.getElem?_eq_getElem hlt⟩
        have p0 := (HCell.out k n hn).c0
        have p5 := (HCell.out k n hn).c5
        have bb := World.block_lt_of_cell? _ _ p5
        simp only at bb
        have hr2 := hr.out
        rw [deepB_at b i hn] at hr2
        clear hr
        have hkid := HKid.out k n hn
        obtain ⟨A3, c3, b3, o3, k3, e3, _, _, _, _, _⟩ := hkid.inv
        rw [e3] at hkid p5
        have HK := Lib.hid hkid; clear hkid
        have HSz := Lib.hid (size_at HN.out hn)
        have g1 : decide ((12 : Int) < (b : Int)) = false := by simp; omega
        have g2 : decide ((12 : Int) < (i : Int)) = false := by simp; omega
        clear hn hA e3
        cases hin : isInlineB n.kind
        · rw [hin] at hr2
          simp only [if_false, Bool.false_eq_true] at hr2
          have HIn := Lib.hid hin; clear hin
          by_cases h12 : 12 < b + 1
          · have g3 : decide ((12 : Int) < (b : Int) + 1) = true := by simp; omega
            have HR := Lib.hid (show deepB l b i = true by rw [← hr2]; simp [h12])
            clear hr2
            go_wp2_with (go_at_call 26; go_must (refine (isInline_mv _ false _ HIn.out).mono ?_); rintro e w1 ⟨rfl, rfl⟩)
            go_ret
            exact ⟨ret_bool HR.out.symm, rfl⟩
          · have g3 : decide ((12 : Int) < (b : Int) + 1) = false := by simp; omega
            have h12a : (b + 1) ≤ 12 := by omega
            have h12b : i ≤ 12 := by omega
            cases hd : deepB n.kids (b + 1) i
            · have HR := Lib.hid (show deepB (l.drop (k + 1)) b i = deepB l b i by rw [← hr2, hd]; simp; omega)
              clear hr2
              have HD := Lib.hid hd; clear hd
              go_wp2_with (first
                | (go_at_call 26; refine (isInline_mv _ false _ HIn.out).mono ?_; rintro e w1 ⟨rfl, rfl⟩)
                | (go_at_call 11; go_must (refine (HI.out n.kids _ (b + 1) i _ HSz.out HK.out h12a h12b).mono ?_); rw [HD.out]; rintro e w1 ⟨rfl, rfl⟩))
              go_roundw
              case rel => exact ⟨k + 1, by omega, by go_num, EqW.refl _, HR.out⟩
              case measure => simp [intOf]; omega
            · have HR := Lib.hid (show deepB l b i = true by rw [← hr2, hd]; simp)
              clear hr2
              have HD := Lib.hid hd; clear hd
              go_wp2_with (first
                | (go_at_call 26; refine (isInline_mv _ false _ HIn.out).mono ?_; rintro e w1 ⟨rfl, rfl⟩)
                | (go_at_call 11; go_must (refine (HI.out n.kids _ (b + 1) i _ HSz.out HK.out h12a h12b).mono ?_); rw [HD.out]; rintro e w1 ⟨rfl, rfl⟩))
              go_ret
              exact ⟨ret_bool HR.out.symm, rfl⟩
        · rw [hin] at hr2
          simp only [if_true] at hr2
          have HIn := Lib.hid hin; clear hin
          by_cases h12 : 12 < i + 1
          · have g3 : decide ((12 : Int) < (i : Int) + 1) = true := by simp; omega
            have HR := Lib.hid (show deepB l b i = true by rw [← hr2]; simp [h12])
            clear hr2
            go_wp2_with (go_at_call 26; go_must (refine (isInline_mv _ true _ HIn.out).mono ?_); rintro e w1 ⟨rfl, rfl⟩)
            go_ret
            exact ⟨ret_bool HR.out.symm, rfl⟩
          · have g3 : decide ((12 : Int) < (i : Int) + 1) = false := by simp; omega
            have h12a : b ≤ 12 := by omega
            have h12b : (i + 1) ≤ 12 := by omega
            cases hd : deepB n.kids b (i + 1)
            · have HR := Lib.hid (show deepB (l.drop (k + 1)) b i = deepB l b i by rw [← hr2, hd]; simp; omega)
              clear hr2
              have HD := Lib.hid hd; clear hd
              go_wp2_with (first
                | (go_at_call 26; refine (isInline_mv _ true _ HIn.out).mono ?_; rintro e w1 ⟨rfl, rfl⟩)
                | (go_at_call 11; go_must (refine (HI.out n.kids _ b (i + 1) _ HSz.out HK.out h12a h12b).mono ?_); rw [HD.out]; rintro e w1 ⟨rfl, rfl⟩))
              go_roundw
              case rel => exact ⟨k + 1, by omega, by go_num, EqW.refl _, HR.out⟩
              case measure => simp [intOf]; omega
            · have HR := Lib.hid (show deepB l b i = true by rw [← hr2, hd]; simp)
              clear hr2
              have HD := Lib.hid hd; clear hd
              go_wp2_with (first
                | (go_at_call 26; refine (isInline_mv _ true _ HIn.out).mono ?_; rintro e w1 ⟨rfl, rfl⟩)
                | (go_at_call 11; go_must (refine (HI.out n.kids _ b (i + 1) _ HSz.out HK.out h12a h12b).mono ?_); rw [HD.out]; rintro e w1 ⟨rfl, rfl⟩))
              go_ret
              exact ⟨ret_bool HR.out.symm, rfl⟩
      · have HR := Lib.hid (show deepB l b i = false by rw [← hr.out, List.drop_eq_nil_of_le (by omega)]; exact deepB_nil b i)
        clear hr
        go_wp2_with fail
        go_ret
        exact ⟨ret_bool HR.out.symm, rfl⟩

set_option maxHeartbeats 4000000 in
theorem nodesFault_any (N : Nat) : ∀ (l : List Node) (v : Value) (p : Int) (w : World), SizeOf.sizeOf l ≤ N → NodesAt w v l → total l ≤ 1073741824 →
    Calls Tryd.prog 12 #[v, .int .i64 p] w fun e w' => e = .returned (.int .i64 (nodesErr l p)) ∧ Below w.heap.size w w' := by
  induction N with
  | zero =>
    intro l v p w hN
    cases l <;> simp at hN
  | succ N ih =>
    intro l v p w hN h ht
    obtain ⟨A, c, bl, o, kv, rfl, hlc, hc, hA, hcell, hkid⟩ := h.inv
    unfold maxLen at hc
    have HCell := Lib.hid hcell; clear hcell
    have HKid := Lib.hid hkid; clear hkid
    have HN := Lib.hid hN; clear hN
    have HI := Lib.hid ih; clear ih
    clear h
    go_enter Tryd.func12, Tryd.ntmps12
    go_wp2_with fail
    go_loopw [11] (fun t wr => ∃ (k : Nat), k ≤ l.length ∧ t = .int .i64 k ∧ Below w.heap.size w wr ∧ Hid (nodesErr (l.drop k) p = nodesErr l p)) (fun t _ => l.length - (intOf t).toNat)
    case atStart => exact ⟨0, Nat.zero_le _, rfl, Below.refl _ _, rfl⟩
    case round =>
      obtain ⟨k, hk, rfl, hww, hr⟩ := hrel
      by_cases hlt : k < l.length
      · have hA' := hA (by rintro rfl; simp at hlt)
        subst hA'
        obtain ⟨n, hn⟩ : ∃ n, l[k]? = some n := ⟨_, List.getElem?_eq_getElem hlt⟩
        obtain ⟨p0, p1, p2, p3, p4, p5, q0, q1, q2, q3, q4⟩ := (HCell.out k n hn).keep (Keeps.of_below hww)
        have HOk := Lib.hid (show NodeOk n from ⟨q0, q1, q2, q3, q4⟩)
        clear q0 q1 q2 q3 q4
        have bb := World.block_lt_of_cell? _ _ p5
        simp only at bb
        have hr2 := hr.out
        rw [nodesErr_at p hn] at hr2
        clear hr
        have hkid := HKid.out k n hn
        obtain ⟨A3, c3, b3, o3, k3, e3, _, _, _, _, _⟩ := hkid.inv
        rw [e3] at hkid p5
        have HK := Lib.hid ((hkid.keep (Keeps.of_below hww)).keep (Keeps.alloc _ (nodeBox n (.slice A3 n.kids.length c3)))); clear hkid
        have HB := Lib.hid (hww.alloc hww.size (nodeBox n (.slice A3 n.kids.length c3))); clear hww
        have HSz := Lib.hid (size_at HN.out hn)
        have htk := total_take hn
        have htl := total_le l (k + 1)
        have hkt : total n.kids ≤ 1073741824 := by omega
        have hkl : n.kids.length ≤ 1073741824 := by have := total_len n.kids; omega
        clear hn hA e3 htk htl
        by_cases h0 : nodeErr n p = 0
        · rw [if_pos h0] at hr2
          have H0 := Lib.hid h0; clear h0
          by_cases h1 : nodesErr n.kids n.kind = 0
          · rw [if_pos h1] at hr2
            have HR := Lib.hid hr2; clear hr2
            have H1 := Lib.hid h1; clear h1
            go_wp2_with fail
            go_must (refine (nodeFault_any n _ _ _ _ HOk.out hkl).mono ?_)
            rw [H0.out]
            rintro e w1 ⟨rfl, hb1⟩
            obtain ⟨bc1, bc2⟩ := bcell hb1
            have HB1 := Lib.hid hb1; clear hb1
            go_wp2_with fail
            go_must (refine (HI.out n.kids _ _ _ HSz.out (HK.out.keep (Keeps.of_below HB1.out)) hkt).mono ?_)
            rw [H1.out]
            rintro e w2 ⟨rfl, hb2⟩
            have HB2 := Lib.hid ((HB.out.trans (HB1.out.mono HB.out.size)).trans (hb2.mono (Nat.le_trans HB.out.size HB1.out.size))); clear hb2
            go_wp2_with fail
            go_roundw
            case rel => exact ⟨k + 1, by omega, by go_num, HB2.out, HR.out⟩
            case measure => simp [intOf]; omega
          · rw [if_neg h1] at hr2
            have HR := Lib.hid hr2; clear hr2
            have g1 : (nodesErr n.kids n.kind != 0) = true := by simp [h1]
            clear h1
            go_wp2_with fail
            go_must (refine (nodeFault_any n _ _ _ _ HOk.out hkl).mono ?_)
            rw [H0.out]
            rintro e w1 ⟨rfl, hb1⟩
            obtain ⟨bc1, bc2⟩ := bcell hb1
            have HB1 := Lib.hid hb1; clear hb1
            go_wp2_with fail
            go_must (refine (HI.out n.kids _ _ _ HSz.out (HK.out.keep (Keeps.of_below HB1.out)) hkt).mono ?_)
            rintro e w2 ⟨rfl, hb2⟩
            have HB2 := Lib.hid ((HB.out.trans (HB1.out.mono HB.out.size)).trans (hb2.mono (Nat.le_trans HB.out.size HB1.out.size))); clear hb2
            go_wp2_with fail
            go_ret
            exact ⟨ret_int HR.out, HB2.out⟩
        · rw [if_neg h0] at hr2
          have HR := Lib.hid hr2; clear hr2
          have g1 : (nodeErr n p != 0) = true := by simp [h0]
          clear h0
          go_wp2_with fail
          go_must (refine (nodeFault_any n _ _ _ _ HOk.out hkl).mono ?_)
          rintro e w1 ⟨rfl, hb1⟩
          have HB1 := Lib.hid (HB.out.trans (hb1.mono HB.out.size)); clear hb1
          go_wp2_with fail
          go_ret
          exact ⟨ret_int HR.out, HB1.out⟩
      · have HR := Lib.hid (show nodesErr l p = 0 by rw [← hr.out, List.drop_eq_nil_of_le (by omega)]; exact nodesErr_nil p)
        clear hr
        go_wp2_with fail
        go_ret
        exact ⟨ret_int HR.out.symm, hww⟩

end Go.Proofs.YtphmhhonbkcajaaDoor
