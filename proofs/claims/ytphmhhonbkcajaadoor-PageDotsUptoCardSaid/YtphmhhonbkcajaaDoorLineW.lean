/-
  The plain string of a line: page.plainLine.
-/
import Derived.Test.YtphmhhonbkcajaaDoorLinePl
import Derived.Test.YtphmhhonbkcajaaDoorPlainOf
namespace Go.Proofs.YtphmhhonbkcajaaDoor
open Go.RowKit Go.Deep

set_option maxRecDepth 100000 in
set_option maxHeartbeats 4000000 in
theorem line_any (N : Nat) : ∀ (l : List Node) (v : Value) (w : World), SizeOf.sizeOf l ≤ N → NodesAt w v l → weight l ≤ 1073741824 →
    Calls Tryd.prog 23 #[v] w (StrRes w (lineL l)) := by
  induction N with
  | zero =>
    intro l v w hN
    cases l <;> simp at hN
  | succ N ih =>
    intro l v w hN h ht
    obtain ⟨An, c, bl, o, kv, rfl, hlc, hc, hA, hcell, hkid⟩ := h.inv
    unfold maxLen at hc
    have HCell := Lib.hid hcell; clear hcell
    have HKid := Lib.hid hkid; clear hkid
    have HN := Lib.hid hN; clear hN
    have HI := Lib.hid ih; clear ih
    clear h
    go_enter Tryd.func23, Tryd.ntmps23
    go_wp2_with fail
    go_loopw [3, 8] (fun t0 t wr => ∃ (k : Nat) (s : ByteArray), k ≤ l.length ∧ t = .int .i64 k ∧ t0 = .string s ∧ Hid (s.data.toList = lineL (l.take k)) ∧ Hid (Below w.heap.size w wr)) (fun _ t _ => l.length - (intOf t).toNat)
    case atStart => exact ⟨0, ⟨#[]⟩, Nat.zero_le _, rfl, rfl, (show _ = _ by rw [List.take_zero, lineL_nil]), Below.refl _ _⟩
    case round =>
      obtain ⟨k, s, hk, rfl, rfl, hcs, hbel⟩ := hrel
      by_cases hlt : k < l.length
      · have hA' := hA (by rintro rfl; simp at hlt)
        subst hA'
        obtain ⟨n, hn⟩ : ∃ n, l[k]? = some n := ⟨_, List.getElem?_eq_getElem hlt⟩
        obtain ⟨p0, p1, p2, p3, p4, p5, _, _, q2, _, _⟩ := (HCell.out k n hn).keep (Keeps.of_below hbel.out)
        have bb := World.block_lt_of_cell? _ _ p5
        simp only at bb
        have hkid := HKid.out k n hn
        obtain ⟨A3, c3, b3, o3, k3, e3, _, _, _, _, _⟩ := hkid.inv
        rw [e3] at hkid p5
        have HKd := Lib.hid ((hkid.keep (Keeps.of_below hbel.out)).keep (Keeps.alloc _ (nodeBox n (.slice A3 n.kids.length c3)))); clear hkid
        have HSz := Lib.hid (size_at HN.out hn)
        have hwt := weight_take hn
        have hsl : s.size ≤ weight (l.take k) := by rw [← size_toList, hcs.out]; exact line_len _
        have hcl2 : s.size + n.text.size + weight n.kids + 1 ≤ 1073741824 := by omega
        have hwk : weight n.kids ≤ 1073741824 := by omega
        have HTk := Lib.hid (show lineL (l.take (k + 1)) = s.data.toList ++ lineN n by rw [lineL_take hn, ← hcs.out])
        have HPl := Lib.hid (line_len n.kids)
        have hB := hbel.out.size
        clear hn hA e3 hwt hsl
        have HB0 := Lib.hid (hbel.out.alloc hB (nodeBox n (.slice A3 n.kids.length c3)))
        have hx : n.kind = 11 ∨ n.kind = 16 ∨ n.kind = 18 ∨ n.kind = 12 ∨ n.kind = 13 ∨ (n.kind ≠ 11 ∧ n.kind ≠ 16 ∧ n.kind ≠ 18 ∧ n.kind ≠ 12 ∧ n.kind ≠ 13) := by omega
        rcases hx with hx | hx | hx | hx | hx | hx
        · have hhd : headL n.kind n.text.data.toList = n.text.data.toList := by unfold headL; rw [if_pos (by omega)]
          have t11 : (n.kind == 11) = true := by simp; omega
          have t16 : (n.kind == 16) = false := by simp; omega
          have t18 : (n.kind == 18) = false := by simp; omega
          have t12 : (n.kind == 12) = false := by simp; omega
          have t13 : (n.kind == 13) = false := by simp; omega
          have HPN := Lib.hid (show lineN n = n.text.data.toList ++ lineL n.kids by unfold lineN; rw [hhd])
          clear hhd hx
          go_wp2_with fail
          go_must (refine (HI.out n.kids _ _ HSz.out HKd.out hwk).mono ?_)
          rintro e w2 ⟨s2, rfl, hs2, hb2⟩
          have hsz2 : s2.size ≤ weight n.kids := by rw [← size_toList, hs2]; exact HPl.out
          have HS2 := Lib.hid hs2; clear hs2
          have HB2 := Lib.hid (HB0.out.trans (hb2.mono HB0.out.size)); clear hb2
          go_wp2_with fail
          go_roundw
          case rel => exact ⟨k + 1, _, by omega, by go_num, rfl, (by show _ = _; rw [HTk.out, HPN.out]; simp [HS2.out]), HB2⟩
          case measure => simp [intOf]; omega
        · have hhd : headL n.kind n.text.data.toList = n.text.data.toList := by unfold headL; rw [if_pos (by omega)]
          have t11 : (n.kind == 11) = false := by simp; omega
          have t16 : (n.kind == 16) = true := by simp; omega
          have t18 : (n.kind == 18) = false := by simp; omega
          have t12 : (n.kind == 12) = false := by simp; omega
          have t13 : (n.kind == 13) = false := by simp; omega
          have HPN := Lib.hid (show lineN n = n.text.data.toList ++ lineL n.kids by unfold lineN; rw [hhd])
          clear hhd hx
          go_wp2_with fail
          go_must (refine (HI.out n.kids _ _ HSz.out HKd.out hwk).mono ?_)
          rintro e w2 ⟨s2, rfl, hs2, hb2⟩
          have hsz2 : s2.size ≤ weight n.kids := by rw [← size_toList, hs2]; exact HPl.out
          have HS2 := Lib.hid hs2; clear hs2
          have HB2 := Lib.hid (HB0.out.trans (hb2.mono HB0.out.size)); clear hb2
          go_wp2_with fail
          go_roundw
          case rel => exact ⟨k + 1, _, by omega, by go_num, rfl, (by show _ = _; rw [HTk.out, HPN.out]; simp [HS2.out]), HB2⟩
          case measure => simp [intOf]; omega
        · have hhd : headL n.kind n.text.data.toList = n.text.data.toList := by unfold headL; rw [if_pos (by omega)]
          have t11 : (n.kind == 11) = false := by simp; omega
          have t16 : (n.kind == 16) = false := by simp; omega
          have t18 : (n.kind == 18) = true := by simp; omega
          have t12 : (n.kind == 12) = false := by simp; omega
          have t13 : (n.kind == 13) = false := by simp; omega
          have HPN := Lib.hid (show lineN n = n.text.data.toList ++ lineL n.kids by unfold lineN; rw [hhd])
          clear hhd hx
          go_wp2_with fail
          go_must (refine (HI.out n.kids _ _ HSz.out HKd.out hwk).mono ?_)
          rintro e w2 ⟨s2, rfl, hs2, hb2⟩
          have hsz2 : s2.size ≤ weight n.kids := by rw [← size_toList, hs2]; exact HPl.out
          have HS2 := Lib.hid hs2; clear hs2
          have HB2 := Lib.hid (HB0.out.trans (hb2.mono HB0.out.size)); clear hb2
          go_wp2_with fail
          go_roundw
          case rel => exact ⟨k + 1, _, by omega, by go_num, rfl, (by show _ = _; rw [HTk.out, HPN.out]; simp [HS2.out]), HB2⟩
          case measure => simp [intOf]; omega
        · have hhd : headL n.kind n.text.data.toList = [32] := by unfold headL; rw [if_neg (by omega), if_pos (by omega)]
          have t11 : (n.kind == 11) = false := by simp; omega
          have t16 : (n.kind == 16) = false := by simp; omega
          have t18 : (n.kind == 18) = false := by simp; omega
          have t12 : (n.kind == 12) = true := by simp; omega
          have t13 : (n.kind == 13) = false := by simp; omega
          have HPN := Lib.hid (show lineN n = [32] ++ lineL n.kids by unfold lineN; rw [hhd])
          clear hhd hx
          go_wp2_with fail
          go_must (refine (HI.out n.kids _ _ HSz.out HKd.out hwk).mono ?_)
          rintro e w2 ⟨s2, rfl, hs2, hb2⟩
          have hsz2 : s2.size ≤ weight n.kids := by rw [← size_toList, hs2]; exact HPl.out
          have HS2 := Lib.hid hs2; clear hs2
          have HB2 := Lib.hid (HB0.out.trans (hb2.mono HB0.out.size)); clear hb2
          go_wp2_with fail
          go_roundw
          case rel => exact ⟨k + 1, _, by omega, by go_num, rfl, (by show _ = _; rw [HTk.out, HPN.out]; simp [HS2.out]), HB2⟩
          case measure => simp [intOf]; omega
        · have hhd : headL n.kind n.text.data.toList = [32] := by unfold headL; rw [if_neg (by omega), if_pos (by omega)]
          have t11 : (n.kind == 11) = false := by simp; omega
          have t16 : (n.kind == 16) = false := by simp; omega
          have t18 : (n.kind == 18) = false := by simp; omega
          have t12 : (n.kind == 12) = false := by simp; omega
          have t13 : (n.kind == 13) = true := by simp; omega
          have HPN := Lib.hid (show lineN n = [32] ++ lineL n.kids by unfold lineN; rw [hhd])
          clear hhd hx
          go_wp2_with fail
          go_must (refine (HI.out n.kids _ _ HSz.out HKd.out hwk).mono ?_)
          rintro e w2 ⟨s2, rfl, hs2, hb2⟩
          have hsz2 : s2.size ≤ weight n.kids := by rw [← size_toList, hs2]; exact HPl.out
          have HS2 := Lib.hid hs2; clear hs2
          have HB2 := Lib.hid (HB0.out.trans (hb2.mono HB0.out.size)); clear hb2
          go_wp2_with fail
          go_roundw
          case rel => exact ⟨k + 1, _, by omega, by go_num, rfl, (by show _ = _; rw [HTk.out, HPN.out]; simp [HS2.out]), HB2⟩
          case measure => simp [intOf]; omega
        · have hhd : headL n.kind n.text.data.toList = [] := by unfold headL; rw [if_neg (by omega), if_neg (by omega)]
          have t11 : (n.kind == 11) = false := by simp; omega
          have t16 : (n.kind == 16) = false := by simp; omega
          have t18 : (n.kind == 18) = false := by simp; omega
          have t12 : (n.kind == 12) = false := by simp; omega
          have t13 : (n.kind == 13) = false := by simp; omega
          have HPN := Lib.hid (show lineN n = [] ++ lineL n.kids by unfold lineN; rw [hhd])
          clear hhd hx
          go_wp2_with fail
          go_must (refine (HI.out n.kids _ _ HSz.out HKd.out hwk).mono ?_)
          rintro e w2 ⟨s2, rfl, hs2, hb2⟩
          have hsz2 : s2.size ≤ weight n.kids := by rw [← size_toList, hs2]; exact HPl.out
          have HS2 := Lib.hid hs2; clear hs2
          have HB2 := Lib.hid (HB0.out.trans (hb2.mono HB0.out.size)); clear hb2
          go_wp2_with fail
          go_roundw
          case rel => exact ⟨k + 1, _, by omega, by go_num, rfl, (by show _ = _; rw [HTk.out, HPN.out]; simp [HS2.out]), HB2⟩
          case measure => simp [intOf]; omega
      · have hke : l.take k = l := by rw [List.take_of_length_le (by omega)]
        have HF := Lib.hid (hcs.out.trans (by rw [hke])); clear hke
        go_wp2_with fail
        go_ret
        exact ⟨s, rfl, HF.out, hbel.out⟩

end Go.Proofs.YtphmhhonbkcajaaDoor
