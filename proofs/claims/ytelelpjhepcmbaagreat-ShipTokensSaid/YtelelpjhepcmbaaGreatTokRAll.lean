/-
  Tokens, by the reference: mastref1.TokensOf.
-/
import Derived.Test.YtelelpjhepcmbaaGreatTokRAt
import Derived.Test.YtelelpjhepcmbaaGreatTokAll
namespace Go.Proofs.YtelelpjhepcmbaaGreat
open Go.RowKit Go.Deep

def CharsG (B : Nat) (ov0 : Value) (L : List (TokR × Value)) (add : List TokR) (w : World) (e : Ending) (w' : World) : Prop :=
  ∃ (ov : Value) (N : List (TokR × Value)), e = .returned ov ∧ N.map (·.1) = add ∧ ToksOwn w' B ov (L ++ N) ∧ Below B w w' ∧ GrownX (fun x => ov0.ownBlock = some x) w w' ∧ ∀ g, ov.ownBlock = some g → ∀ b, ov0.ownBlock ≠ some b → b < w.heap.size → g ≠ b
set_option maxRecDepth 100000 in
set_option maxHeartbeats 2000000 in
theorem charsG_q (B : Nat) (s : ByteArray) (a b : Nat) (ov : Value) (L : List (TokR × Value)) (w : World) (hO : ToksOwn w B ov L) (hB : B ≤ w.heap.size) (hb : b ≤ s.size) (hL : L.length ≤ 1048576) :
    Calls Tryz.prog 11 #[ov, .string s, .int .i64 (a : Int), .int .i64 (b : Int)] w (CharsG B ov L (charsL s a b) w) := by
  obtain ⟨Ao, co, rfl⟩ := hO.len
  have HO := Lib.hid hO; clear hO
  have hi0 : (0 : Int) ≤ (a : Int) := by omega
  have hi2 : (b : Int) ≤ (s.size : Int) := by omega
  by_cases hab : a < b
  · have hi1 : (a : Int) ≤ (b : Int) := by omega
    have hab' : (a : Int) < (b : Int) := by omega
    have HC := Lib.hid (show charsL s a b = [⟨1, a, ⟨#[]⟩, s.extract a b, []⟩] by rw [charsL, if_pos hab])
    go_enter Tryz.func11, Tryz.ntmps11
    go_wp2_with (first
      | (at_builtin; go_must (refine wpList_push _ rfl (.tmp 12) (.tmp 19) 22 rfl B 35 _ 5 72 Tryz.underlying22 info_tok rfl (by omega) (.slice Ao L.length co) L.length _ rfl (own_alloc HO.out.row _) (tokRow (⟨1, a, ⟨#[]⟩, s.extract a b, []⟩, .slice none 0 0)) rfl _ rfl (cell_new _ (tokRow (⟨1, a, ⟨#[]⟩, s.extract a b, []⟩, .slice none 0 0)) 35 _ rfl) (by intro u hu; simp [tokRow] at hu; rcases hu with rfl | rfl | rfl | rfl | rfl <;> rfl) (by omega) (by unfold maxLen; omega) (by simp; omega) ?_)
         intro g6 k6 w6 own6 hg6 hgg6 hb6
         have HF := Lib.hid ((HO.out.alloc (.cells (tokRow (⟨1, a, ⟨#[]⟩, s.extract a b, []⟩, .slice none 0 0)).toArray 35)).push (⟨1, a, ⟨#[]⟩, s.extract a b, []⟩, .slice none 0 0) (World.ownsRow_nil _ _ _ _) hg6 own6)
         have HB6 := Lib.hid (((Below.refl B w).alloc hB (.cells (tokRow (⟨1, a, ⟨#[]⟩, s.extract a b, []⟩, .slice none 0 0)).toArray 35)).trans hb6)
         have HG6 := Lib.hid ((GrownX.of_below (p := fun x => (Value.slice Ao L.length co).ownBlock = some x) ((Below.refl _ _).alloc (Nat.le_refl _) (.cells (tokRow (⟨1, a, ⟨#[]⟩, s.extract a b, []⟩, .slice none 0 0)).toArray 35))).trans (GrownX.of_grown hg6 (fun _ h => h)))
         have HF6 := Lib.hid (show ∀ g, (Value.slice (some ⟨g6, 0, none⟩) (L.length + 1) k6).ownBlock = some g → ∀ b, (Value.slice Ao L.length co).ownBlock ≠ some b → b < w.heap.size → g ≠ b from fun g hg b hb hlt e => by
           simp only [Value.ownBlock, Option.some.injEq] at hg
           subst hg; subst e
           rcases hgg6 with h | h
           · exact hb h
           · rw [World.size_alloc] at h; omega)
         clear own6 hg6 hgg6 hb6))
    go_ret
    exact ⟨_, [(⟨1, a, ⟨#[]⟩, s.extract a b, []⟩, .slice none 0 0)], rfl, HC.out.symm, HF.out, HB6.out, HG6.out, HF6.out⟩
  · have HC := Lib.hid (show charsL s a b = [] by rw [charsL, if_neg hab])
    have hab' : ¬ (a : Int) < (b : Int) := by omega
    go_enter Tryz.func11, Tryz.ntmps11
    go_wp2_with fail
    go_ret
    exact ⟨_, [], rfl, HC.out.symm, by rw [List.append_nil]; exact HO.out, Below.refl _ _, GrownX.refl _ _, fun g hg b hb _ e => hb (by rw [← e]; exact hg)⟩

theorem own_apart {w : World} {B B' K K' n n' : Nat} {e e' : TypeId} {v u : Value} {xs ys : List Value} (h1 : w.ownsRow B e K v n xs) (h2 : w.ownsRow B' e' K' u n' ys) (ne : e ≠ e') : ∀ g, v.ownBlock = some g → u.ownBlock ≠ some g := by
  intro g hg hu
  rcases h2.2 with ⟨k1, _⟩ | ⟨g', cap, cur, k1, _, k4, _⟩
  · rw [k1] at hu; cases hu
  · rw [k1] at hu
    simp only [Value.ownBlock, Option.some.injEq] at hu
    subst hu
    exact own_ne_cb h1 (show CB w g' e' cur from k4) (fun e => ne e.symm) hg
theorem ToksOwn.slice {w : World} {B : Nat} {ov : Value} {L : List (TokR × Value)} (h : ToksOwn w B ov L) : ∃ (A : Option Addr) (c : Nat), ov = .slice A L.length c := h.len
theorem tok_name (s : ByteArray) (i : Nat) : (tokAt s i).1.name.size ≤ s.size := by
  have hx : ∀ a b, (lowBA (s.extract a b)).size ≤ s.size := fun a b => by rw [lowBA_size, ByteArray.size_extract]; omega
  unfold tokAt
  split
  · exact Nat.zero_le _
  · exact Nat.zero_le _
  · exact hx _ _
  · exact hx _ _
  · exact Nat.zero_le _
theorem raw_skip {s name : ByteArray} {i m : Nat} (h : rawEnd s name m = rawEnd s name i) (hm : m < s.size) (he : endAt s name m = false) : rawEnd s name (m + 1) = rawEnd s name i := by
  rw [← h]; exact (seek_miss hm he).symm

set_option maxRecDepth 100000 in
set_option maxHeartbeats 40000000 in
theorem tokensOf_q (s : ByteArray) (w : World) (hm : MaxT w.heap.size w) : Calls Tryz.prog 5 #[.string s] w (ToksPost s w) := by
  by_cases hbig : 200000 < s.size
  · have HE := Lib.hid (show tokE s = 4 by rw [tokE, if_pos hbig])
    have hbig' : (200000 : Int) < (s.size : Int) := by omega
    go_enter Tryz.func5, Tryz.ntmps5
    go_wp2_with fail
    go_ret2
    exact ToksPost.no HE.out (Below.refl _ _)
  have hs : s.size ≤ 200000 := by omega
  have hbig' : ¬ (200000 : Int) < (s.size : Int) := by omega
  clear hbig
  obtain ⟨B, hBe⟩ : ∃ B, w.heap.size = B := ⟨_, rfl⟩
  have HM := Lib.hid hm; clear hm
  rw [hBe] at HM
  have HBe := Lib.hid hBe
  have HB0 := Lib.hid (Below.refl B w)
  have hBw : B ≤ w.heap.size := by omega
  clear hBe
  go_enter Tryz.func5, Tryz.ntmps5
  go_wp2_with fail
  go_loopw [4, 5, 6] (fun t4 t5 t6 wr => ∃ (i a : Nat) (L : List (TokR × Value)) (A : Option Addr) (c q : Nat), t4 = .slice A q c ∧ t5 = .int .i64 (a : Int) ∧ t6 = .int .i64 (i : Int) ∧ L.length = q ∧ a ≤ i ∧ i ≤ s.size ∧ L.length ≤ 3 * i ∧ Hid (ToksRel s (L.map (·.1)) i a) ∧ Hid (ToksOwn wr B (.slice A q c) L) ∧ Hid (Below B w wr)) (fun _ _ t6 _ => s.size - (intOf t6).toNat)
  case atStart => exact ⟨0, 0, [], none, 0, 0, rfl, rfl, rfl, rfl, Nat.le_refl _, Nat.zero_le _, Nat.zero_le _, ToksRel.start s, ToksOwn.start _ _, HB0⟩
  case round =>
    clear HB0
    obtain ⟨i, a, L, A, c, q, rfl, rfl, rfl, hq, hai, hi, hL3, HR, HO, HB⟩ := hrel
    subst hq
    have hBr : B ≤ wr.heap.size := by have := HB.out.size; omega
    by_cases hlt : i < s.size
    · have hlt' : (i : Int) < (s.size : Int) := by omega
      have HM1 := Lib.hid (HM.out.keep HB.out)
      go_wp2_with fail
      refine (tokAt_q wr.heap.size s i wr (Nat.le_refl _) hlt (by omega) (HM1.out.up hBr)).mono ?_
      rintro e w3 ⟨⟨tk, av⟩, rfl, hx1, hxr, hb3⟩
      simp only at hx1 hxr
      obtain ⟨Av, cv, hav, _⟩ := own_form hxr
      subst hav
      have HO3 := Lib.hid (HO.out.below hb3)
      have HB3 := Lib.hid (HB.out.trans (hb3.mono hBr))
      have HXr := Lib.hid (own_low hxr hBr)
      obtain ⟨nx, hnx⟩ : ∃ nx, (tokAt s i).2 = nx := ⟨_, rfl⟩
      have HTk := Lib.hid (show tokAt s i = (tk, nx) by rw [hx1, ← hnx])
      rw [hnx]
      clear hx1 hxr hb3 hnx HO HB
      obtain ⟨kd, at0, nm, tx, atts⟩ := tk
      simp only [tokRow]
      have hB3 : B ≤ w3.heap.size := by have := HB3.out.size; omega
      go_upto_region 8 with fail
      obtain ⟨tb, htb⟩ : ∃ tb, w3.heap.size = tb := ⟨_, rfl⟩
      obtain ⟨w4, hW⟩ : ∃ W, w3.alloc (.cells #[.int .i64 kd, .int .i64 (at0 : Int), .string nm, .string tx, .slice Av atts.length cv] 35) = W := ⟨_, rfl⟩
      have HT4 := Lib.hid (show CB w4 tb 35 #[.int .i64 kd, .int .i64 (at0 : Int), .string nm, .string tx, .slice Av atts.length cv] by rw [← hW, ← htb]; exact CB.new _ _ _)
      have HO4 := Lib.hid (show ToksOwn w4 B (.slice A L.length c) L by rw [← hW]; exact HO3.out.alloc _)
      have HB4 := Lib.hid (show Below B w w4 by rw [← hW]; exact HB3.out.alloc hB3 _)
      have HX4 := Lib.hid (show w4.ownsRow B 42 2 (.slice Av atts.length cv) atts.length (attCells atts) by rw [← hW]; exact own_alloc HXr.out _)
      have hov : ∀ g, (Value.slice A L.length c).ownBlock = some g → g < tb := by rw [← htb]; exact own_lt HO3.out.row
      have hB4 : B ≤ w4.heap.size := by have := HB4.out.size; omega
      try rw [hW]
      try rw [htb]
      clear hW htb HO3 HB3 HXr
      have Hov := Lib.hid hov; clear hov
      by_cases hk : kindAt s i = 0
      · have HR2 := Lib.hid (HR.out.skip hlt hk)
        have hn0 : nx = 0 := by have h9 := HTk.out; rw [tokAt, hk] at h9; simpa using (congrArg Prod.snd h9).symm
        subst hn0
        clear hk
        go_wp2_with fail
        go_roundw
        case rel => exact ⟨i + 1, a, L, A, c, _, rfl, rfl, by go_num, rfl, by omega, by omega, by omega, HR2, HO4, HB4⟩
        case measure => simp [intOf]; omega
      · have HR2 := Lib.hid (HR.out.push hk)
        have htl := tok_le hk
        have htn := tokN_le hk
        rw [HTk.out] at htl
        simp only at htl
        have hn0 : ((nx : Int) == 0) = false := by rw [beq_eq_false_iff_ne]; omega
        have hcl := charsL_len s a i
        have hll := tokL_len s i
        clear hk
        have r0 : w4.cell? ⟨tb, 0, none⟩ = some (.int .i64 kd) := HT4.out.c 0
        have tl : tb < w4.heap.size := HT4.out.lt
        obtain ⟨rt, hrt⟩ : ∃ b, rawT ⟨kd, at0, nm, tx, atts⟩ = b := ⟨_, rfl⟩
        have HRt := Lib.hid hrt
        clear hrt
        go_upto_region 13 with (first
          | (go_at_call 11; go_must (refine (charsG_q B s a i _ L _ HO4.out hB4 (by omega) (by omega)).mono ?_); rintro e w5 ⟨ov5, N5, rfl, hN5, hO5, hB5, hG5, hF5⟩; have hT5 := fun g hg => hF5 g hg tb (fun e => by have := Hov.out tb e; omega) HT4.out.lt; have HN5 := Lib.hid hN5; have HT5 := Lib.hid (HT4.out.keepX hG5 (fun e => by have := Hov.out tb e; omega)); have HX5 := Lib.hid (own_keepX HX4.out hG5 (fun g hg e => own_apart HO4.out.row HX4.out (by decide) g e hg)); have HO5 := Lib.hid hO5; have HB5 := Lib.hid (HB4.out.trans hB5); have Hov5 := Lib.hid (hT5 : ∀ g, ov5.ownBlock = some g → g ≠ tb); clear hN5 hB5 hO5 hG5 hT5 hF5; obtain ⟨A5, c5, hov5⟩ := HO5.out.len; subst hov5; obtain ⟨L5, hL5⟩ : ∃ L5, L ++ N5 = L5 := ⟨_, rfl⟩; have HL5 := Lib.hid hL5; have hL5n : L5.length ≤ 3 * i + 1 := (by rw [← hL5, List.length_append]; have h9 := congrArg List.length HN5.out; rw [List.length_map] at h9; omega); rw [hL5] at HO5 Hov5 ⊢; clear hL5; have r0 : w5.cell? ⟨tb, 0, none⟩ = some (.int .i64 kd) := HT5.out.c 0; have r1 : w5.cell? ⟨tb, 1, none⟩ = some (.int .i64 (at0 : Int)) := HT5.out.c 1; have r2 : w5.cell? ⟨tb, 2, none⟩ = some (.string nm) := HT5.out.c 2; have r3 : w5.cell? ⟨tb, 3, none⟩ = some (.string tx) := HT5.out.c 3; have r4 : w5.cell? ⟨tb, 4, none⟩ = some (.slice Av atts.length cv) := HT5.out.c 4; have tl5 : tb < w5.heap.size := HT5.out.lt)
          | (at_builtin; go_must (refine wpList_push _ rfl (.tmp 31) (.tmp 33) 22 rfl B 35 _ 5 72 Tryz.underlying22 info_tok rfl (by omega) (.slice A5 L5.length c5) L5.length _ rfl (own_alloc HO5.out.row _) (tokRow (⟨kd, at0, nm, tx, atts⟩, .slice Av atts.length cv)) rfl _ rfl (cell_new _ (tokRow (⟨kd, at0, nm, tx, atts⟩, .slice Av atts.length cv)) 35 _ rfl) (by intro u hu; simp only [tokRow, List.mem_cons, List.not_mem_nil, or_false] at hu; rcases hu with rfl | rfl | rfl | rfl | rfl <;> rfl) (by omega) (by unfold maxLen; omega) (by have h8 := HB5.out.size; rw [World.size_alloc]; omega) ?_)
             intro g6 k6 w6 own6 hg6 hgg6 hb6
             have HO6 := Lib.hid ((HO5.out.alloc (.cells (tokRow (⟨kd, at0, nm, tx, atts⟩, .slice Av atts.length cv)).toArray 35)).push (⟨kd, at0, nm, tx, atts⟩, .slice Av atts.length cv) (own_alloc HX5.out _) hg6 own6)
             have HT6 := Lib.hid (CB.other (HT5.out.alloc (.cells (tokRow (⟨kd, at0, nm, tx, atts⟩, .slice Av atts.length cv)).toArray 35)) hg6 (fun e => by have h8 := Hov5.out tb e.symm; omega))
             have HB6 := Lib.hid ((HB5.out.alloc (by have h8 := HB5.out.size; omega) (.cells (tokRow (⟨kd, at0, nm, tx, atts⟩, .slice Av atts.length cv)).toArray 35)).trans hb6)
             clear own6 hg6 hgg6 hb6
             have u0 : w6.cell? ⟨tb, 0, none⟩ = some (.int .i64 kd) := HT6.out.c 0
             have u2 : w6.cell? ⟨tb, 2, none⟩ = some (.string nm) := HT6.out.c 2
             have ul : tb < w6.heap.size := HT6.out.lt))
        go_cut [59] from 12 to 79 (fun s59 wx => s59 = .bool rt ∧ wx = w6)
        case first =>
          obtain ⟨k2, hk2⟩ : ∃ b, (kd == 2) = b := ⟨_, rfl⟩
          obtain ⟨b0, hb0⟩ : ∃ b, (nm.toList == [115, 99, 114, 105, 112, 116]) = b := ⟨_, rfl⟩
          obtain ⟨b1, hb1⟩ : ∃ b, (nm.toList == [115, 116, 121, 108, 101]) = b := ⟨_, rfl⟩
          obtain ⟨b2, hb2⟩ : ∃ b, (nm.toList == [116, 105, 116, 108, 101]) = b := ⟨_, rfl⟩
          obtain ⟨b3, hb3⟩ : ∃ b, (nm.toList == [116, 101, 120, 116, 97, 114, 101, 97]) = b := ⟨_, rfl⟩
          have HV := Lib.hid (show rt = (k2 && (b0 || b1 || b2 || b3)) by
            rw [← HRt.out, rawT, rawB, hb0, hb1, hb2, hb3]
            rw [show decide (kd = 2) = k2 by rw [← hk2, Bool.eq_iff_iff, decide_eq_true_eq, beq_iff_eq]])
          cases k2 with
          | false =>
            go_wp2_with fail
            go_meet
            exact ⟨by first | (rw [HV.out]; done) | (rw [HV.out]; rfl) | (rw [HV.out]; simp), rfl⟩
          | true =>
            cases b0 with
            | true =>
              go_wp2_with fail
              go_meet
              exact ⟨by first | (rw [HV.out]; done) | (rw [HV.out]; rfl) | (rw [HV.out]; simp), rfl⟩
            | false =>
              cases b1 with
              | true =>
                go_wp2_with fail
                go_meet
                exact ⟨by first | (rw [HV.out]; done) | (rw [HV.out]; rfl) | (rw [HV.out]; simp), rfl⟩
              | false =>
                cases b2 with
                | true =>
                  go_wp2_with fail
                  go_meet
                  exact ⟨by first | (rw [HV.out]; done) | (rw [HV.out]; rfl) | (rw [HV.out]; simp), rfl⟩
                | false =>
                  cases b3 with
                  | true =>
                    go_wp2_with fail
                    go_meet
                    exact ⟨by first | (rw [HV.out]; done) | (rw [HV.out]; rfl) | (rw [HV.out]; simp), rfl⟩
                  | false =>
                    go_wp2_with fail
                    go_meet
                    exact ⟨by first | (rw [HV.out]; done) | (rw [HV.out]; rfl) | (rw [HV.out]; simp), rfl⟩
        case rest =>
          obtain ⟨rfl, rfl⟩ := hcut
          cases rt with
          | false =>
            have hnr : rawT (tokAt s i).1 = false := by rw [HTk.out]; exact HRt.out
            have HL2 := Lib.hid (show tokL s i = [⟨kd, at0, nm, tx, atts⟩] by rw [tokL, if_neg (by rw [hnr]; simp), HTk.out])
            have HN2 := Lib.hid (show tokN s i = nx by rw [tokN, if_neg (by rw [hnr]; simp), HTk.out])
            rw [HN2.out, HL2.out] at HR2
            go_wp2_with fail
            go_roundw
            case rel => exact ⟨nx, nx, L5 ++ [(⟨kd, at0, nm, tx, atts⟩, .slice Av atts.length cv)], _, _, _, rfl, rfl, rfl, by simp, Nat.le_refl _, by omega, by simp only [List.length_append, List.length_cons, List.length_nil]; omega, Lib.hid (by have h9 := HR2.out; rw [List.map_append, ← HL5.out, List.map_append, HN5.out]; simpa using h9), HO6, HB6⟩
            case measure => simp [intOf]; omega
          | true =>
            have HRt2 := Lib.hid (show rawT (tokAt s i).1 = true by rw [HTk.out]; exact HRt.out)
            have HL2 := Lib.hid (show tokL s i = ⟨kd, at0, nm, tx, atts⟩ :: charsL s nx (rawEnd s nm nx) by rw [tokL, if_pos HRt2.out, HTk.out])
            have HN2 := Lib.hid (show tokN s i = rawEnd s nm nx by rw [tokN, if_pos HRt2.out, HTk.out])
            rw [HN2.out] at htn HR2
            rw [HL2.out] at HR2
            have hnmz : nm.size ≤ 1048576 := by have h9 := tok_name s i; rw [HTk.out] at h9; simp only at h9; omega
            go_wp2_with fail
            go_loopw [6] (fun t6 wr => ∃ m : Nat, t6 = .int .i64 (m : Int) ∧ nx ≤ m ∧ m ≤ s.size ∧ Hid (rawEnd s nm m = rawEnd s nm nx) ∧ Hid (ToksOwn wr B (.slice (some ⟨g6, 0, none⟩) (L5.length + 1) k6) (L5 ++ [(⟨kd, at0, nm, tx, atts⟩, .slice Av atts.length cv)])) ∧ Hid (CB wr tb 35 #[.int .i64 kd, .int .i64 (at0 : Int), .string nm, .string tx, .slice Av atts.length cv]) ∧ Hid (Below B w wr)) (fun t6 _ => s.size - (intOf t6).toNat)
            case atStart => exact ⟨nx, rfl, Nat.le_refl _, by omega, rfl, HO6, HT6, HB6⟩
            case round =>
              clear HO6 HT6 HB6
              obtain ⟨m, rfl, hnm2, hm, HSm, HO7, HT7, HB7⟩ := hrel
              have hm0 : (0 : Int) ≤ (m : Int) := by omega
              have t2 : wr.cell? ⟨tb, 2, none⟩ = some (.string nm) := HT7.out.c 2
              have tl : tb < wr.heap.size := HT7.out.lt
              have hBr7 : B ≤ wr.heap.size := by have := HB7.out.size; omega
              by_cases hgo : m < s.size ∧ endAt s nm m = false
              · have hms' : (m : Int) < (s.size : Int) := by omega
                have HEn := Lib.hid hgo.2
                have HSm2 := Lib.hid (raw_skip HSm.out hgo.1 hgo.2)
                have hms := hgo.1
                clear hgo
                go_wp2_with (go_at_call 12; go_must (refine (endTag_q s nm m _ _ hms (by omega) hnmz HEn.out).mono ?_); rintro e w8 ⟨rfl, hb8⟩; have HO8 := Lib.hid (HO7.out.below hb8); have HT8 := Lib.hid (HT7.out.below hb8); have HB8 := Lib.hid (HB7.out.trans (hb8.mono hBr7)); clear hb8)
                go_roundw
                case rel => exact ⟨m + 1, by go_num, by omega, by omega, HSm2, HO8, HT8, HB8⟩
                case measure => simp [intOf]; omega
              · have HmV := Lib.hid (show m = rawEnd s nm nx by
                  rw [← HSm.out]
                  by_cases h5 : m < s.size
                  · exact (seek_hit h5 (by cases h6 : endAt s nm m; exact absurd ⟨h5, h6⟩ hgo; rfl)).symm
                  · exact (seek_end (by omega)).symm)
                go_upto_region 14 with fail
                go_cut [71] from 60 to 73 (fun s71 wx => s71 = .bool false ∧ Hid (ToksOwn wx B (.slice (some ⟨g6, 0, none⟩) (L5.length + 1) k6) (L5 ++ [(⟨kd, at0, nm, tx, atts⟩, .slice Av atts.length cv)])) ∧ Hid (Below B w wx))
                case first =>
                  by_cases hms : m < s.size
                  · have hms' : (m : Int) < (s.size : Int) := by omega
                    have HEn := Lib.hid (show endAt s nm m = true by cases h6 : endAt s nm m; exact absurd ⟨hms, h6⟩ hgo; rfl)
                    clear hgo
                    go_wp2_with (go_at_call 12; go_must (refine (endTag_q s nm m _ _ hms (by omega) hnmz HEn.out).mono ?_); rintro e w8 ⟨rfl, hb8⟩; have HO8 := Lib.hid (HO7.out.below hb8); have HB8 := Lib.hid (HB7.out.trans (hb8.mono hBr7)); clear hb8)
                    go_meet
                    exact ⟨rfl, HO8, HB8⟩
                  · have hms' : ¬ (m : Int) < (s.size : Int) := by omega
                    go_wp2_with fail
                    go_meet
                    exact ⟨rfl, HO7, HB7⟩
                case rest =>
                  obtain ⟨rfl, HO9, HB9⟩ := hcut
                  clear hgo t2 tl HO7 HT7 HB7 hBr7
                  have hB9 : B ≤ wc.heap.size := by have := HB9.out.size; omega
                  rw [← HmV.out] at HR2 htn
                  have hcm := charsL_len s nx m
                  clear HSm HmV
                  go_wp2_with (go_at_call 11; go_must (refine (charsG_q B s nx m _ (L5 ++ [(⟨kd, at0, nm, tx, atts⟩, .slice Av atts.length cv)]) _ HO9.out hB9 (by omega) (by simp only [List.length_append, List.length_cons, List.length_nil]; omega)).mono ?_); rintro e w10 ⟨ov10, N10, rfl, hN10, hO10, hB10, _, _⟩; have HN10 := Lib.hid hN10; have HO10 := Lib.hid hO10; have HB10 := Lib.hid (HB9.out.trans hB10); clear hN10 hO10 hB10; obtain ⟨A10, c10, hov10⟩ := HO10.out.len; subst hov10; obtain ⟨L10, hL10⟩ : ∃ L10, L5 ++ [(⟨kd, at0, nm, tx, atts⟩, .slice Av atts.length cv)] ++ N10 = L10 := ⟨_, rfl⟩; have HL10 := Lib.hid hL10; have HL10n := Lib.hid (show L10.length = L5.length + 1 + N10.length by rw [← hL10]; simp only [List.length_append, List.length_cons, List.length_nil]); rw [hL10] at HO10 ⊢; clear hL10)
                  have hN10l : N10.length ≤ 1 := by have h9 := congrArg List.length HN10.out; rw [List.length_map] at h9; omega
                  go_roundw
                  case rel => exact ⟨m, m, L10, A10, c10, _, rfl, rfl, rfl, rfl, Nat.le_refl _, by omega, by (have h9 := HL10n.out; omega), Lib.hid (by have h9 := HR2.out; rw [← HL10.out, List.map_append, List.map_append, ← HL5.out, List.map_append, HN5.out, HN10.out]; simpa using h9), HO10, HB10⟩
                  case measure => simp [intOf]; omega
    · have hlt' : ¬ (i : Int) < (s.size : Int) := by omega
      have hie : i = s.size := by omega
      have HV := Lib.hid (HR.out.stop (by omega))
      have hcl := charsL_len s a s.size
      clear hie
      have ha2 : a ≤ s.size := by omega
      go_wp2_with (go_at_call 11; go_must (refine (charsG_q B s a s.size _ L _ HO.out hBr (Nat.le_refl _) (by omega)).mono ?_); rintro e w5 ⟨ov5, N5, rfl, hN5, hO5, hB5, _, _⟩; have HN5 := Lib.hid hN5; have HO5 := Lib.hid hO5; have HB5 := Lib.hid (HB.out.trans hB5); clear hN5 hO5 hB5; obtain ⟨A5, c5, hov5⟩ := HO5.out.len; subst hov5; obtain ⟨L5, hL5⟩ : ∃ L5, L ++ N5 = L5 := ⟨_, rfl⟩; have HL5 := Lib.hid hL5; rw [hL5] at HO5 ⊢; clear hL5)
      all_goals
        have HW := Lib.hid (show toksV s = L5.map (·.1) by rw [HV.out, ← HL5.out, List.map_append, HN5.out])
        go_ret2
        first
          | exact ToksPost.yes HW.out hs (by omega) (by rw [HBe.out]; exact HO5.out) (by rw [HBe.out]; exact HB5.out)
          | exact ToksPost.no (by rw [tokE, if_neg (by omega), if_pos (by rw [HW.out, List.length_map]; omega)]) (by rw [HBe.out]; exact HB5.out)

end Go.Proofs.YtelelpjhepcmbaaGreat
