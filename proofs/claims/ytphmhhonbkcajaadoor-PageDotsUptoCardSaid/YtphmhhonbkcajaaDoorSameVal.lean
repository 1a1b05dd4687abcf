/-
  Two values are equal: mastref1.SameValue, build.SameValue.
-/
import Derived.Test.YtphmhhonbkcajaaDoorSameV
import Derived.Test.YtphmhhonbkcajaaDoorFacts
import Derived.BigQuiet
import Derived.Deep.QuietTactic
import Derived.RegionTactic
import Derived.StillTailTactics
import Derived.Outline
namespace Go.Proofs.YtphmhhonbkcajaaDoor
open Go.RowKit Go.Deep

theorem StrsIn.inv {w : World} {P : Nat → Prop} {v : Value} {l : List ByteArray} (h : StrsIn w P v l) : ∃ (A : Option Addr) (c b o : Nat), v = .slice A l.length c ∧ l.length ≤ c ∧ c ≤ maxLen ∧ (l ≠ [] → A = some ⟨b, o, none⟩) ∧ ∀ i s, l[i]? = some s → w.cell? ⟨b, o + i, none⟩ = some (.string s) ∧ s.size ≤ maxLen := by
  obtain ⟨A, c, b, o, h1, h2, h3, h4, h5⟩ := h
  exact ⟨A, c, b, o, h1, h2, h3, fun hne => (h4 hne).1, h5⟩
theorem val_at {N : Nat} {v : Val} {k : Nat} {n : Val} (hN : SizeOf.sizeOf v ≤ N + 1) (h : v.items[k]? = some n) : SizeOf.sizeOf n ≤ N := by
  have h1 := v.items_lt
  have h2 := List.sizeOf_lt_of_mem (List.mem_of_getElem? h)
  omega

set_option maxRecDepth 100000 in
set_option maxHeartbeats 8000000 in
theorem sameRef_q (N : Nat) : ∀ (v u : Val) (va ua : Value) (w : World), SizeOf.sizeOf v ≤ N → ValIn w AnyB va v → ValIn w AnyB ua u →
    Calls Tryd.prog 5 #[va, ua] w fun e w' => e = .returned (.bool (sameV v u)) ∧ Below w.heap.size w w' := by
  induction N with
  | zero =>
    intro v u va ua w hN
    cases v; simp at hN
  | succ N ih =>
    intro v u va ua w hN hv hu
    obtain ⟨iv, kv, rfl, hok, hI, hK⟩ := hv
    obtain ⟨Ai, ci, bi, oi, ivf, kvf, rfl, hlc, hci, hAi, hcell, hit, hky⟩ := hI.inv
    obtain ⟨Ak, ck, bk, ok, rfl, hlk, hck, hAk, hkc⟩ := hK.inv
    obtain ⟨iu, ku, rfl, hok2, hI2, hK2⟩ := hu
    obtain ⟨Bi, di, bj, oj, iuf, kuf, rfl, hld, hdi, hBi, hcell2, hit2, hky2⟩ := hI2.inv
    obtain ⟨Bk, dk, bl, ol, rfl, hll, hdk, hBk, hkc2⟩ := hK2.inv
    clear hI hK hI2 hK2
    unfold maxLen at hci hck hdi hdk
    have HN := Lib.hid hN; clear hN
    have HIH := Lib.hid ih; clear ih
    have HCell := Lib.hid hcell; clear hcell
    have HIt := Lib.hid hit; clear hit
    have HKy := Lib.hid hky; clear hky
    have HKc := Lib.hid hkc; clear hkc
    have HCell2 := Lib.hid hcell2; clear hcell2
    have HIt2 := Lib.hid hit2; clear hit2
    have HKy2 := Lib.hid hky2; clear hky2
    have HKc2 := Lib.hid hkc2; clear hkc2
    have HB2 := Lib.hid (show Below w.heap.size w ((w.alloc (.cells #[.int .i64 v.kind, .bool v.flag, .int .i64 v.num, .string v.text, .slice Ai v.items.length ci, .slice Ak v.keys.length ck] 35)).alloc (.cells #[.int .i64 u.kind, .bool u.flag, .int .i64 u.num, .string u.text, .slice Bi u.items.length di, .slice Bk u.keys.length dk] 35)) from ((Below.refl _ _).alloc (Nat.le_refl _) _).alloc (by simp) _)
    have HBv := Lib.hid (show CB ((w.alloc (.cells #[.int .i64 v.kind, .bool v.flag, .int .i64 v.num, .string v.text, .slice Ai v.items.length ci, .slice Ak v.keys.length ck] 35)).alloc (.cells #[.int .i64 u.kind, .bool u.flag, .int .i64 u.num, .string u.text, .slice Bi u.items.length di, .slice Bk u.keys.length dk] 35)) w.heap.size 35 #[.int .i64 v.kind, .bool v.flag, .int .i64 v.num, .string v.text, .slice Ai v.items.length ci, .slice Ak v.keys.length ck] from (CB.new w _ _).alloc _)
    have HBu := Lib.hid (show CB ((w.alloc (.cells #[.int .i64 v.kind, .bool v.flag, .int .i64 v.num, .string v.text, .slice Ai v.items.length ci, .slice Ak v.keys.length ck] 35)).alloc (.cells #[.int .i64 u.kind, .bool u.flag, .int .i64 u.num, .string u.text, .slice Bi u.items.length di, .slice Bk u.keys.length dk] 35)) (w.heap.size + 1) 35 #[.int .i64 u.kind, .bool u.flag, .int .i64 u.num, .string u.text, .slice Bi u.items.length di, .slice Bk u.keys.length dk] from (by have h := CB.new (w.alloc (.cells #[.int .i64 v.kind, .bool v.flag, .int .i64 v.num, .string v.text, .slice Ai v.items.length ci, .slice Ak v.keys.length ck] 35)) #[.int .i64 u.kind, .bool u.flag, .int .i64 u.num, .string u.text, .slice Bi u.items.length di, .slice Bk u.keys.length dk] 35; rw [World.size_alloc] at h; exact h))
    have HEq := Lib.hid (sameV_eq v u)
    unfold valAgg
    by_cases h0 : v.kind = u.kind
    rotate_left
    · have a0 : (v.kind == u.kind) = false := by simp; first | exact h0 | omega
      have b0 : (v.kind != u.kind) = true := by simp; first | exact h0 | omega
      have HF := Lib.hid (show sameV v u = false by
        rw [HEq.out]
        have e : (v.kind == u.kind) = false := by simp; exact h0
        rw [e]; simp)
      clear h0
      go_enter Tryd.func5, Tryd.ntmps5
      go_wp2_with fail
      go_ret
      exact ⟨ret_bool HF.out.symm, HB2.out⟩
    have a0 : (v.kind == u.kind) = true := by simp; first | exact h0 | omega
    have b0 : (v.kind != u.kind) = false := by simp; first | exact h0 | omega
    by_cases h1 : v.flag = u.flag
    rotate_left
    · have a1 : (v.flag == u.flag) = false := by simp; first | exact h1 | omega
      have b1 : (v.flag != u.flag) = true := by simp; first | exact h1 | omega
      have HF := Lib.hid (show sameV v u = false by
        rw [HEq.out]
        have e : (v.flag == u.flag) = false := by simp; exact h1
        rw [e]; simp)
      clear h0 h1
      go_enter Tryd.func5, Tryd.ntmps5
      go_wp2_with fail
      go_ret
      exact ⟨ret_bool HF.out.symm, HB2.out⟩
    have a1 : (v.flag == u.flag) = true := by simp; first | exact h1 | omega
    have b1 : (v.flag != u.flag) = false := by simp; first | exact h1 | omega
    by_cases h2 : v.num = u.num
    rotate_left
    · have a2 : (v.num == u.num) = false := by simp; first | exact h2 | omega
      have b2 : (v.num != u.num) = true := by simp; first | exact h2 | omega
      have HF := Lib.hid (show sameV v u = false by
        rw [HEq.out]
        have e : (v.num == u.num) = false := by simp; exact h2
        rw [e]; simp)
      clear h0 h1 h2
      go_enter Tryd.func5, Tryd.ntmps5
      go_wp2_with fail
      go_ret
      exact ⟨ret_bool HF.out.symm, HB2.out⟩
    have a2 : (v.num == u.num) = true := by simp; first | exact h2 | omega
    have b2 : (v.num != u.num) = false := by simp; first | exact h2 | omega
    by_cases h3 : v.text.toList = u.text.toList
    rotate_left
    · have a3 : (v.text.toList == u.text.toList) = false := by simp; first | exact h3 | omega
      have b3 : (v.text.toList != u.text.toList) = true := by simp; first | exact h3 | omega
      have HF := Lib.hid (show sameV v u = false by
        rw [HEq.out]
        have e : (v.text.toList == u.text.toList) = false := by simp; exact h3
        rw [e]; simp)
      clear h0 h1 h2 h3
      go_enter Tryd.func5, Tryd.ntmps5
      go_wp2_with fail
      go_ret
      exact ⟨ret_bool HF.out.symm, HB2.out⟩
    have a3 : (v.text.toList == u.text.toList) = true := by simp; first | exact h3 | omega
    have b3 : (v.text.toList != u.text.toList) = false := by simp; first | exact h3 | omega
    by_cases h4 : v.items.length = u.items.length
    rotate_left
    · have a4 : ((v.items.length : Int) == (u.items.length : Int)) = false := by simp; first | exact h4 | omega
      have b4 : ((v.items.length : Int) != (u.items.length : Int)) = true := by simp; first | exact h4 | omega
      have HF := Lib.hid (show sameV v u = false by
        rw [HEq.out]
        rw [sameL_len h4]; simp)
      clear h0 h1 h2 h3 h4
      go_enter Tryd.func5, Tryd.ntmps5
      go_wp2_with fail
      go_ret
      exact ⟨ret_bool HF.out.symm, HB2.out⟩
    have a4 : ((v.items.length : Int) == (u.items.length : Int)) = true := by simp; first | exact h4 | omega
    have b4 : ((v.items.length : Int) != (u.items.length : Int)) = false := by simp; first | exact h4 | omega
    by_cases h5 : v.keys.length = u.keys.length
    rotate_left
    · have a5 : ((v.keys.length : Int) == (u.keys.length : Int)) = false := by simp; first | exact h5 | omega
      have b5 : ((v.keys.length : Int) != (u.keys.length : Int)) = true := by simp; first | exact h5 | omega
      have HF := Lib.hid (show sameV v u = false by
        rw [HEq.out]
        rw [keysEq_len h5]; simp)
      clear h0 h1 h2 h3 h4 h5
      go_enter Tryd.func5, Tryd.ntmps5
      go_wp2_with fail
      go_ret
      exact ⟨ret_bool HF.out.symm, HB2.out⟩
    have a5 : ((v.keys.length : Int) == (u.keys.length : Int)) = true := by simp; first | exact h5 | omega
    have b5 : ((v.keys.length : Int) != (u.keys.length : Int)) = false := by simp; first | exact h5 | omega
    have HEq2 := Lib.hid (show sameV v u = (keysEq v.keys u.keys && sameL v.items u.items) by
      rw [HEq.out]
      have e0 : (v.kind == u.kind) = true := by simp; exact h0
      have e1 : (v.flag == u.flag) = true := by simp; exact h1
      have e2 : (v.num == u.num) = true := by simp; exact h2
      have e3 : (v.text.toList == u.text.toList) = true := by simp; exact h3
      rw [e0, e1, e2, e3]
      simp)
    have HIl := Lib.hid h4
    have HKl := Lib.hid h5
    clear h0 h1 h2 h3 h4 h5
    have bv5 := HBv.out.c 5
    have bu5 := HBu.out.c 5
    go_enter Tryd.func5, Tryd.ntmps5
    go_wp2_with fail
    clear a0 a1 a2 a3 a4 a5 b0 b1 b2 b3 b4 b5 bv5 bu5
    go_loopw [54] (fun t wr => ∃ (j q : Nat), j ≤ v.keys.length ∧ t = .int .i64 j ∧ Hid (keysEq v.keys u.keys = keysEq (v.keys.drop j) (u.keys.drop j)) ∧ wr = ((w.alloc (.cells #[.int .i64 v.kind, .bool v.flag, .int .i64 v.num, .string v.text, .slice Ai v.items.length ci, .slice Ak v.keys.length ck] 35)).alloc (.cells #[.int .i64 u.kind, .bool u.flag, .int .i64 u.num, .string u.text, .slice Bi u.items.length di, .slice Bk u.keys.length dk] 35)).drewN q) (fun t _ => v.keys.length - (intOf t).toNat)
    case atStart => exact ⟨0, 0, Nat.zero_le _, rfl, rfl, rfl⟩
    case round =>
      obtain ⟨j, q, hj, rfl, hke, rfl⟩ := hrel
      have hkl : v.keys.length = u.keys.length := HKl.out
      by_cases hlt : j < v.keys.length
      · have hA1 := hAk (by intro e; rw [e] at hlt; simp at hlt)
        have hA2 := hBk (by intro e; have h := congrArg List.length e; rw [List.length_nil] at h; omega)
        subst hA1 hA2
        obtain ⟨s, hs⟩ : ∃ s, v.keys[j]? = some s := ⟨_, List.getElem?_eq_getElem hlt⟩
        obtain ⟨t, ht⟩ : ∃ s, u.keys[j]? = some s := ⟨_, List.getElem?_eq_getElem (by omega)⟩
        have p0 := (HKc.out j s hs).1
        have q0 := (HKc2.out j t ht).1
        have bb1 := World.block_lt_of_cell? _ _ p0
        have bb2 := World.block_lt_of_cell? _ _ q0
        simp only at bb1 bb2
        have HD := Lib.hid (keysEq_at hs ht)
        have hlt2 : j < u.keys.length := by omega
        clear hs ht hkl
        cases hst : (s.toList == t.toList)
        · have hne : (s.toList != t.toList) = true := by simp [bne, hst]
          have HF := Lib.hid (show sameV v u = false by rw [HEq2.out, hke.out, HD.out, hst]; rfl)
          go_wp2_with fail
          go_quiet (fail)
          go_wp2_with fail
          go_ret
          exact ⟨ret_bool HF.out.symm, Below.drewN' (Below.drewN' HB2.out _) _⟩
        · have hne : (s.toList != t.toList) = false := by simp [bne, hst]
          have HF := Lib.hid (show keysEq v.keys u.keys = keysEq (v.keys.drop (j + 1)) (u.keys.drop (j + 1)) by rw [hke.out, HD.out, hst]; rfl)
          go_wp2_with fail
          go_quiet (fail)
          go_wp2_with fail
          go_roundw
          case rel => exact ⟨j + 1, q + nq, by omega, by go_num, HF.out, rfl⟩
          case measure => simp [intOf]; omega
      · have HK1 := Lib.hid (show keysEq v.keys u.keys = true by rw [hke.out, List.drop_eq_nil_of_le (by omega), List.drop_eq_nil_of_le (by omega)]; rfl)
        have HE3 := Lib.hid (show sameV v u = sameL v.items u.items by rw [HEq2.out, HK1.out]; rfl)
        clear hkl
        go_wp2_with fail
        go_loopw [72] (fun t wr => ∃ (i : Nat), i ≤ v.items.length ∧ t = .int .i64 i ∧ Hid (sameL v.items u.items = sameL (v.items.drop i) (u.items.drop i)) ∧ Hid (Below (w.heap.size + 2) ((w.alloc (.cells #[.int .i64 v.kind, .bool v.flag, .int .i64 v.num, .string v.text, .slice Ai v.items.length ci, .slice Ak v.keys.length ck] 35)).alloc (.cells #[.int .i64 u.kind, .bool u.flag, .int .i64 u.num, .string u.text, .slice Bi u.items.length di, .slice Bk u.keys.length dk] 35)) wr)) (fun t _ => v.items.length - (intOf t).toNat)
        case atStart => exact ⟨0, Nat.zero_le _, rfl, rfl, Below.drewN' (Below.refl _ _) _⟩
        case round =>
          obtain ⟨i, hi, rfl, hsl, hbw⟩ := hrel
          have hil : v.items.length = u.items.length := HIl.out
          have hszw : w.heap.size + 2 ≤ wr.heap.size := by have := hbw.out.size; rw [World.size_alloc, World.size_alloc] at this; exact this
          have HVw := Lib.hid (show CB wr w.heap.size 35 _ from (hbw.out.block w.heap.size (by omega)).trans HBv.out)
          have HUw := Lib.hid (show CB wr (w.heap.size + 1) 35 _ from (hbw.out.block (w.heap.size + 1) (by omega)).trans HBu.out)
          have HBe := Lib.hid (show Below w.heap.size w wr from HB2.out.trans (hbw.out.mono (by omega)))
          by_cases hlt3 : i < v.items.length
          · have hA1 := (hAi (by intro e; rw [e] at hlt3; simp at hlt3)).1
            have hA2 := (hBi (by intro e; have h := congrArg List.length e; rw [List.length_nil] at h; omega)).1
            subst hA1 hA2
            obtain ⟨x, hx⟩ : ∃ x, v.items[i]? = some x := ⟨_, List.getElem?_eq_getElem hlt3⟩
            obtain ⟨y, hy⟩ : ∃ x, u.items[i]? = some x := ⟨_, List.getElem?_eq_getElem (by omega)⟩
            obtain ⟨⟨c0, c1, c2, c3, c4, c5⟩, okx⟩ := HCell.out i x hx
            obtain ⟨⟨d0, d1, d2, d3, d4, d5⟩, oky⟩ := HCell2.out i y hy
            have hix := HIt.out i x hx
            have hkx := HKy.out i x hx
            have hiy := HIt2.out i y hy
            have hky := HKy2.out i y hy
            obtain ⟨A3, c3', _, _, _, _, e3, _, _, _, _, _, _⟩ := hix.inv
            obtain ⟨A4, c4', _, _, e4, _, _, _, _⟩ := hkx.inv
            obtain ⟨A5, c5', _, _, _, _, e5, _, _, _, _, _, _⟩ := hiy.inv
            obtain ⟨A6, c6', _, _, e6, _, _, _, _⟩ := hky.inv
            rw [e3] at c4 hix
            rw [e4] at c5 hkx
            rw [e5] at d4 hiy
            rw [e6] at d5 hky
            have KW := Keeps.of_below HBe.out
            have HVx := Lib.hid (show ValIn wr AnyB (.agg #[.int .i64 x.kind, .bool x.flag, .int .i64 x.num, .string x.text, .slice A3 x.items.length c3', .slice A4 x.keys.length c4']) x from ValIn.keeps (w := w) ⟨_, _, rfl, okx, hix, hkx⟩ KW)
            have HVy := Lib.hid (show ValIn wr AnyB (.agg #[.int .i64 y.kind, .bool y.flag, .int .i64 y.num, .string y.text, .slice A5 y.items.length c5', .slice A6 y.keys.length c6']) y from ValIn.keeps (w := w) ⟨_, _, rfl, oky, hiy, hky⟩ KW)
            have p0 := KW _ _ c0
            have p1 := KW _ _ c1
            have p2 := KW _ _ c2
            have p3 := KW _ _ c3
            have p4 := KW _ _ c4
            have p5 := KW _ _ c5
            have q0 := KW _ _ d0
            have q1 := KW _ _ d1
            have q2 := KW _ _ d2
            have q3 := KW _ _ d3
            have q4 := KW _ _ d4
            have q5 := KW _ _ d5
            clear KW c0 c1 c2 c3 c4 c5 d0 d1 d2 d3 d4 d5 e3 e4 e5 e6 hix hkx hiy hky okx oky
            have bv4 : wr.cell? ⟨w.heap.size, 4, none⟩ = some (.slice (some ⟨bi, oi, none⟩) v.items.length ci) := HVw.out.c 4
            have bu4 : wr.cell? ⟨w.heap.size + 1, 4, none⟩ = some (.slice (some ⟨bj, oj, none⟩) u.items.length di) := HUw.out.c 4
            have bvs := HVw.out.sh
            have bus := HUw.out.sh
            have HSz := Lib.hid (val_at HN.out hx)
            have HD := Lib.hid (sameL_at hx hy)
            have hlt4 : i < u.items.length := by omega
            clear hx hy hil
            have hcall := HIH.out x y _ _ wr.drew HSz.out (HVx.out.keeps (Keeps.drew _)) (HVy.out.keeps (Keeps.drew _))
            go_wp2_with fail
            go_still_tail 10, (by kernel_rfl)
            change wpList _ _ _ _ _ (World.drew wr)
            cases hxy : sameV x y
            · have HF := Lib.hid (show sameV v u = false by rw [HE3.out, hsl.out, HD.out, hxy]; rfl)
              rw [hxy] at hcall
              clear hxy
              go_wp2_with (go_at_call 5; go_must (refine hcall.mono ?_); rintro e w5 ⟨rfl, hb5⟩; have HB5 := Lib.hid (HBe.out.drew.trans (hb5.mono HBe.out.size)); clear hb5)
              go_ret
              exact ⟨ret_bool HF.out.symm, HB5.out⟩
            · have HF := Lib.hid (show sameL v.items u.items = sameL (v.items.drop (i + 1)) (u.items.drop (i + 1)) by rw [hsl.out, HD.out, hxy]; rfl)
              rw [hxy] at hcall
              clear hxy
              go_wp2_with (go_at_call 5; go_must (refine hcall.mono ?_); rintro e w5 ⟨rfl, hb5⟩; have HB5 := Lib.hid (hbw.out.drew.trans (hb5.mono hszw)); clear hb5)
              go_roundw
              case rel => exact ⟨i + 1, by omega, by go_num, HF.out, HB5.out⟩
              case measure => simp [intOf]; omega
          · have HF := Lib.hid (show sameV v u = true by rw [HE3.out, hsl.out, List.drop_eq_nil_of_le (by omega), List.drop_eq_nil_of_le (by omega)]; rw [sameL_nil]; rfl)
            clear hil
            go_wp2_with fail
            go_ret
            exact ⟨ret_bool HF.out.symm, HBe.out⟩

end Go.Proofs.YtphmhhonbkcajaaDoor
