/-
  Tokens: all tokens of a string: ship.Tokens.
-/
import Derived.Test.YtelelpjhepcmbaaGreatTokTok
namespace Go.Proofs.YtelelpjhepcmbaaGreat
open Go.RowKit Go.Deep

theorem charsL_none (s : ByteArray) (a : Nat) : charsL s a a = [] := by rw [charsL, if_neg (by omega)]
theorem ToksRel.fin {s : ByteArray} {i a : Nat} {D : List TokR} (h : ToksRel s D i a) (hi : i = s.size) : ToksRel s (D ++ charsL s a i) i i := by
  subst hi
  have h1 := h.stop (Nat.le_refl _)
  refine ⟨0, by omega, ?_⟩
  rw [h1, toksF, charsL_none, List.append_nil]
def ToksPost (s : ByteArray) (w : World) (e : Ending) (w' : World) : Prop :=
  ∃ (ov : Value) (L : List (TokR × Value)), e = .returned (.tuple #[ov, .int .i64 (tokE s)]) ∧ L.map (·.1) = tokR s ∧ ToksOwn w' w.heap.size ov L ∧ Below w.heap.size w w'
theorem ToksPost.no {s : ByteArray} {w w' : World} (h : tokE s = 4) (hb : Below w.heap.size w w') : ToksPost s w (.returned (.tuple #[.slice none 0 0, .int .i64 4])) w' :=
  ⟨_, [], by rw [h], by rw [tokR, if_neg (by rw [h]; decide)]; rfl, ToksOwn.start _ _, hb⟩
theorem ToksPost.yes {s : ByteArray} {w w' : World} {ov : Value} {L : List (TokR × Value)} (h : toksV s = L.map (·.1)) (h1 : s.size ≤ 200000) (h2 : L.length ≤ 20000) (hO : ToksOwn w' w.heap.size ov L) (hb : Below w.heap.size w w') : ToksPost s w (.returned (.tuple #[ov, .int .i64 0])) w' := by
  have h3 : tokE s = 0 := by rw [tokE, if_neg (by omega), if_neg (by rw [h, List.length_map]; omega)]
  exact ⟨ov, L, by rw [h3], by rw [tokR, if_pos h3, h], hO, hb⟩

set_option maxRecDepth 100000 in
set_option maxHeartbeats 20000000 in
theorem tokens_q (s : ByteArray) (w : World) (hm : MaxT w.heap.size w) : Calls Tryz.prog 4 #[.string s] w (ToksPost s w) := by
  by_cases hbig : 200000 < s.size
  · have HE := Lib.hid (show tokE s = 4 by rw [tokE, if_pos hbig])
    have hbig' : (200000 : Int) < (s.size : Int) := by omega
    go_enter Tryz.func4, Tryz.ntmps4
    go_wp2_with fail
    go_ret2
    exact ToksPost.no HE.out (Below.refl _ _)
  have hs : s.size ≤ 200000 := by omega
  have hbig' : ¬ (200000 : Int) < (s.size : Int) := by omega
  clear hbig
  obtain ⟨B, hBe⟩ : ∃ B, w.heap.size = B := ⟨_, rfl⟩
  have HM := Lib.hid hm; clear hm
  go_enter Tryz.func4, Tryz.ntmps4
  go_wp2_with fail
  obtain ⟨W0, hW⟩ : ∃ W, w.alloc (.cells #[.string s, .int .i64 0, .slice none 0 0] 30) = W := ⟨_, rfl⟩
  have HX0 := Lib.hid (show ScanAt W0 B s 0 (.slice none 0 0) by rw [← hW, ← hBe]; exact CB.new _ _ _)
  have HB0 := Lib.hid (show Below B w W0 by rw [← hW, ← hBe]; exact (Below.refl _ _).alloc (Nat.le_refl _) _)
  rw [hBe] at HM
  have HBe := Lib.hid hBe
  try rw [hW]
  try rw [hBe]
  clear hW hBe
  go_loopw [] (fun wr => ∃ (i : Nat) (ov : Value) (L : List (TokR × Value)), i ≤ s.size ∧ L.length ≤ 3 * i ∧ Hid (ToksRel s (L.map (·.1)) i i) ∧ Hid (ScanAt wr B s i ov) ∧ Hid (ToksOwn wr B ov L) ∧ Hid (Below B w wr)) (fun wr => s.size - iOf wr B)
  case atStart => exact ⟨0, _, [], Nat.zero_le _, Nat.zero_le _, ToksRel.start s, HX0, ToksOwn.start _ _, HB0⟩
  case round =>
    clear HX0 HB0
    obtain ⟨i, ov, L, hi, hL3, HR, HX, HO, HB⟩ := hrel
    obtain ⟨Ao, co, rfl⟩ := HO.out.len
    have HMe := Lib.hid (iOf_scan HX.out)
    have b0 : wr.cell? ⟨B, 0, none⟩ = some (.string s) := HX.out.c 0
    have b1 : wr.cell? ⟨B, 1, none⟩ = some (.int .i64 (i : Int)) := HX.out.c 1
    have b2 : wr.cell? ⟨B, 2, none⟩ = some (.slice Ao L.length co) := HX.out.c 2
    have hlt : B < wr.heap.size := HX.out.lt
    by_cases hgo : i < s.size ∧ L.length ≤ 20000
    · have h1 : (i : Int) < (s.size : Int) := by omega
      have h2 : (L.length : Int) ≤ 20000 := by omega
      go_wp2_with fail
      clear b0 b1 b2 hlt
      go_loopw [] (fun wx => ∃ k : Nat, i ≤ k ∧ k ≤ s.size ∧ Hid (ScanAt wx B s k (.slice Ao L.length co)) ∧ Hid (GrownX (fun x => x = B) wr wx) ∧ Hid (seekTo (fun j => decide (kindAt s j ≠ 0)) s.size i = seekTo (fun j => decide (kindAt s j ≠ 0)) s.size k)) (fun wx => s.size - iOf wx B)
      case atStart => exact ⟨i, Nat.le_refl _, hi, HX, GrownX.refl _ _, rfl⟩
      case round =>
        obtain ⟨k, hik, hk, HX2, HG2, HS2⟩ := hrel
        have HMe2 := Lib.hid (iOf_scan HX2.out)
        have b0 : wr.cell? ⟨B, 0, none⟩ = some (.string s) := HX2.out.c 0
        have b1 : wr.cell? ⟨B, 1, none⟩ = some (.int .i64 (k : Int)) := HX2.out.c 1
        have bf1 := HX2.out.f 1
        have bsh : wr.shape? B = some (30, 3) := HX2.out.sh
        have hlt : B < wr.heap.size := HX2.out.lt
        have HO2 := Lib.hid (HO.out.scan HX.out HG2.out)
        have HB2 := Lib.hid (HB.out.trans (HG2.out.below (by have := HX.out.lt; omega) (fun x e => by omega)))
        by_cases hks : k < s.size
        · have h3 : (k : Int) < (s.size : Int) := by omega
          obtain ⟨v, hv⟩ : ∃ v, decide (kindAt s k ≠ 0) = v := ⟨_, rfl⟩
          have HV := Lib.hid hv
          cases v with
          | false =>
            have HS3 := Lib.hid (HS2.out.trans (seek_miss hks hv))
            clear hv
            go_wp2_with (go_at_call 7; go_must (refine (begins_q B s k k _ _ _ HX2.out hks (by omega) HV.out).mono ?_); rintro e w1 ⟨rfl, rfl⟩)
            go_roundw
            case rel => exact ⟨k + 1, by omega, by omega, HX2.out.go0 _ (by omega), HG2.out.set (Or.inl rfl) 1 _, HS3⟩
            case measure =>
              rw [HMe2.out, iOf_scan (HX2.out.go0 (j := k + 1) _ (by omega))]
              omega
          | true =>
            have hkk : kindAt s k ≠ 0 := of_decide_eq_true hv
            have HS3 := Lib.hid (HS2.out.trans (seek_hit hks hv))
            have hR2 := (HR.out.skipTo hi)
            rw [HS3.out] at hR2
            have HR2 := Lib.hid (hR2.push hkk)
            have htn := tokN_le hkk
            have htl := tokL_len s k
            have hcl := charsL_len s i k
            clear hv hR2
            go_wp2_with (first
              | (go_at_call 7; go_must (refine (begins_q B s k k _ _ _ HX2.out hks (by omega) HV.out).mono ?_); rintro e w1 ⟨rfl, rfl⟩)
              | (go_at_call 8; go_must (refine (chars_q B B s k i k _ L _ HX2.out HO2.out (Nat.le_refl _) (by omega) (by omega)).mono ?_); rintro e w3 ⟨rfl, hM3⟩; obtain ⟨ov3, N3, hN3, hX3, hO3, hB3⟩ := hM3; have HN3 := Lib.hid hN3; have HX3 := Lib.hid hX3; have HO3 := Lib.hid hO3; have HB3 := Lib.hid (HB2.out.trans hB3); clear hN3 hX3 hO3 hB3; have d1 : w3.cell? ⟨B, 1, none⟩ = some (.int .i64 (k : Int)) := HX3.out.c 1; have dlt : B < w3.heap.size := HX3.out.lt; have hN3l : N3.length ≤ 1 := by (have h9 := congrArg List.length HN3.out; rw [List.length_map] at h9; omega))
              | (go_at_call 9; go_must (refine (token_q B B s k ov3 (L ++ N3) _ HX3.out HO3.out (Nat.le_refl _) (by omega) (by rw [List.length_append]; omega) (HM.out.keep HB3.out) hkk).mono ?_); rintro e w4 ⟨rfl, hM4⟩; obtain ⟨ov4, N4, hN4, hX4, hO4, hB4⟩ := hM4; have HN4 := Lib.hid hN4; have HX4 := Lib.hid hX4; have HO4 := Lib.hid hO4; have HB4 := Lib.hid (HB3.out.trans hB4); clear hN4 hX4 hO4 hB4))
            have hN4l : N4.length ≤ 2 := by have h9 := congrArg List.length HN4.out; rw [List.length_map] at h9; omega
            go_roundw
            case rel => exact ⟨tokN s k, ov4, L ++ N3 ++ N4, by omega, by simp only [List.length_append]; omega, Lib.hid (by rw [List.map_append, List.map_append, HN3.out, HN4.out]; exact HR2.out), HX4, HO4, HB4⟩
            case measure =>
              rw [HMe.out, iOf_scan HX4.out]
              omega
        · have h3 : ¬ (k : Int) < (s.size : Int) := by omega
          have hke : k = s.size := by omega
          have HS3 := Lib.hid (HS2.out.trans (seek_end (by omega)))
          have hR2 := (HR.out.skipTo hi)
          rw [HS3.out] at hR2
          have HR2 := Lib.hid (hR2.fin hke)
          have hcl := charsL_len s i k
          clear hR2 hke
          go_wp2_with (go_at_call 8; go_must (refine (chars_q B B s k i k _ L _ HX2.out HO2.out (Nat.le_refl _) (by omega) (by omega)).mono ?_); rintro e w3 ⟨rfl, hM3⟩; obtain ⟨ov3, N3, hN3, hX3, hO3, hB3⟩ := hM3; have HN3 := Lib.hid hN3; have HX3 := Lib.hid hX3; have HO3 := Lib.hid hO3; have HB3 := Lib.hid (HB2.out.trans hB3); clear hN3 hX3 hO3 hB3; have d1 : w3.cell? ⟨B, 1, none⟩ = some (.int .i64 (k : Int)) := HX3.out.c 1; have dlt : B < w3.heap.size := HX3.out.lt; have hN3l : N3.length ≤ 1 := by (have h9 := congrArg List.length HN3.out; rw [List.length_map] at h9; omega))
          go_roundw
          case rel => exact ⟨k, ov3, L ++ N3, by omega, by rw [List.length_append]; omega, Lib.hid (by rw [List.map_append, HN3.out]; exact HR2.out), HX3, HO3, HB3⟩
          case measure =>
            rw [HMe.out, iOf_scan HX3.out]
            omega
    · by_cases hin : i < s.size
      · have h1 : (i : Int) < (s.size : Int) := by omega
        have h2 : ¬ (L.length : Int) ≤ 20000 := by omega
        have h3 : (20000 : Int) < (L.length : Int) := by omega
        have HE := Lib.hid (show tokE s = 4 by
          have h9 := HR.out.many
          rw [List.length_map] at h9
          rw [tokE, if_neg (by omega), if_pos (by omega)])
        clear hgo
        go_wp2_with fail
        go_ret2
        exact ToksPost.no HE.out (by rw [HBe.out]; exact HB.out)
      · have h1 : ¬ (i : Int) < (s.size : Int) := by omega
        have HV := Lib.hid (show toksV s = L.map (·.1) by
          have h9 := HR.out.stop (by omega)
          rw [show i = s.size by omega, charsL_none, List.append_nil] at h9
          exact h9)
        clear hgo
        by_cases hmx : L.length ≤ 20000
        · have h3 : ¬ (20000 : Int) < (L.length : Int) := by omega
          go_wp2_with fail
          go_ret2
          exact ToksPost.yes HV.out hs hmx (by rw [HBe.out]; exact HO.out) (by rw [HBe.out]; exact HB.out)
        · have h3 : (20000 : Int) < (L.length : Int) := by omega
          have HE := Lib.hid (show tokE s = 4 by rw [tokE, if_neg (by omega), if_pos (by rw [HV.out, List.length_map]; omega)])
          go_wp2_with fail
          go_ret2
          exact ToksPost.no HE.out (by rw [HBe.out]; exact HB.out)

end Go.Proofs.YtelelpjhepcmbaaGreat
