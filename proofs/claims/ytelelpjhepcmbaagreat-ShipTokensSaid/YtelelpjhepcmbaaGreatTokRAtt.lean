/-
  Tokens, by the reference: attributes: mastref1.attrsAt.
-/
import Derived.Test.YtelelpjhepcmbaaGreatTokRef
import Derived.Test.YtelelpjhepcmbaaGreatUnRef
import Derived.Test.YtelelpjhepcmbaaGreatTokAtt
import Derived.Deep.Cut
import Derived.Deep.CutRange
namespace Go.Proofs.YtelelpjhepcmbaaGreat
open Go.RowKit Go.Deep

/-- what attrsAt gives -/
def AttsR (B : Nat) (s : ByteArray) (i : Nat) (w : World) (e : Ending) (w' : World) : Prop :=
  ∃ (A : Option Addr) (c : Nat), e = .returned (.tuple #[.slice A (attsV s i).1.length c, .int .i64 ((min ((attsV s i).2 + 1) s.size : Nat) : Int)]) ∧ w'.ownsRow B 42 2 (.slice A (attsV s i).1.length c) (attsV s i).1.length (attCells (attsV s i).1) ∧ Below B w w'
theorem unR_q (s u : ByteArray) (w : World) (hu : unBA s = u) (hs : s.size ≤ 2097152) : Calls Tryz.prog 36 #[.string s] w fun e w' => e = .returned (.string u) ∧ Below w.heap.size w w' := by
  subst hu
  exact unescaped_q s w hs
theorem pre_one (s : ByteArray) (i : Nat) (c : UInt8) : Lib.hasPrefix (s.extract i s.size).data.toList [c] = isAt s i (c.toNat : Int) := by
  rw [pre_cons, pre_nil, Bool.and_true]
theorem pre_eqq (s : ByteArray) (i : Nat) : Lib.hasPrefix (s.extract i s.size).data.toList [61, 34] = (isAt s i 61 && isAt s (i + 1) 34) := by
  rw [pre_cons, pre_cons, pre_nil, Bool.and_true]; rfl
theorem hasPre_q (y p : ByteArray) (v : Bool) (w : World) (h : Lib.hasPrefix y.data.toList p.data.toList = v) : Calls Tryz.prog 15 #[.string y, .string p] w fun e w' => e = .returned (.bool v) ∧ w = w' := by
  subst h
  exact (Tryz.strings_HasPrefix y p w).mono fun _ _ ⟨h1, h2⟩ => ⟨h1, h2.symm⟩
/-- what the round has made so far -/
structure RState (B : Nat) (D : List AttrR) (A : Option Addr) (c : Nat) (w0 w : World) : Prop where
  row : w.ownsRow B 42 2 (.slice A D.length c) D.length (attCells D)
  be : Below B w0 w
theorem RState.below {B : Nat} {D : List AttrR} {A : Option Addr} {c : Nat} {w0 w w' : World} (h : RState B D A c w0 w) (hb : Below w.heap.size w w') (hB : B ≤ w.heap.size) : RState B D A c w0 w' :=
  ⟨own_keepX h.row (GrownX.of_below (p := fun _ => False) hb) (fun _ _ e => e), h.be.trans (hb.mono hB)⟩
theorem RState.box {B : Nat} {D : List AttrR} {A : Option Addr} {c ab : Nat} {w0 w : World} (h : RState B D A c w0 w) (hA : ∀ g, (Value.slice A D.length c).ownBlock = some g → g < ab) (hB : B ≤ ab) (o : Nat) (v : Value) : RState B D A c w0 (w.setCell ⟨ab, o, none⟩ v) :=
  ⟨own_keepX h.row (GrownX.one0 w ab o v) (fun q hq e => by have := hA q hq; omega), h.be.setCell (p := ⟨ab, o, none⟩) hB v⟩
theorem RState.push {B : Nat} {D : List AttrR} {A : Option Addr} {c g6 k6 : Nat} {a : AttrR} {w0 w W w' : World} (h : RState B D A c w0 w) (hW : Below w.heap.size w W) (hB : B ≤ w.heap.size)
    (own6 : w'.ownsRow B 42 2 (.slice (some ⟨g6, 0, none⟩) (D.length + 1) k6) (D.length + 1) (attCells D ++ [.string a.name, .string a.value])) (hb : Below B W w') : RState B (D ++ [a]) (some ⟨g6, 0, none⟩) k6 w0 w' := by
  have e : (D ++ [a]).length = D.length + 1 := by simp
  exact ⟨by rw [attCells_snoc, e]; exact own6, h.be.trans ((hW.mono hB).trans hb)⟩

set_option maxRecDepth 100000 in
set_option maxHeartbeats 40000000 in
theorem attsR_q (B : Nat) (s : ByteArray) (i : Nat) (w : World) (hB : B ≤ w.heap.size) (hi : i ≤ s.size) (hs : s.size ≤ 1048576) (hm : MaxT B w) :
    Calls Tryz.prog 26 #[.string s, .int .i64 (i : Int)] w (AttsR B s i w) := by
  have HM := Lib.hid hm; clear hm
  have H0 := Lib.hid (⟨World.ownsRow_nil _ _ _ _, Below.refl _ _⟩ : RState B [] none 0 w w)
  go_enter Tryz.func26, Tryz.ntmps26
  go_wp2_with fail
  go_loopw [1, 6] (fun t1 t6 wr => ∃ (k : Nat) (D : List AttrR) (A : Option Addr) (c : Nat), t1 = .int .i64 (k : Int) ∧ t6 = .slice A D.length c ∧ i ≤ k ∧ k ≤ s.size ∧ D.length ≤ k ∧ Hid (AttsRel s i D k) ∧ Hid (RState B D A c w wr)) (fun t1 _ _ => s.size - (intOf t1).toNat)
  case atStart => exact ⟨i, [], none, 0, rfl, rfl, Nat.le_refl _, hi, Nat.zero_le _, AttsRel.start _ _, H0⟩
  case round =>
    clear H0
    obtain ⟨k, D, A, c, rfl, rfl, hik, hk, hDk, HR, HS0⟩ := hrel
    have hk0 : (0 : Int) ≤ (k : Int) := by omega
    have hk1 : (k : Int) ≤ (s.size : Int) := by omega
    have hBr : B ≤ wr.heap.size := by have := HS0.out.be.size; omega
    by_cases hks : k < s.size
    · have hks' : (k : Int) < (s.size : Int) := by omega
      obtain ⟨n, hn⟩ : ∃ n, nAt s k = n := ⟨_, rfl⟩
      have e0 : ((s[k]'hks).toNat : Int) = n := by rw [bAt_idx hks]; exact hn
      by_cases h62 : n = 62
      · have HV := Lib.hid (HR.out.stop (Or.inr (hn.trans h62)))
        subst h62
        have hmn : min ((k : Int) + 1) (s.size : Int) = ((min (k + 1) s.size : Nat) : Int) := by omega
        clear hn
        go_wp2_with fail
        go_ret2
        exact ⟨A, c, by rw [HV.out]; first | rfl | (simp only [hmn]) | (simp; omega), by rw [HV.out]; exact HS0.out.row, HS0.out.be⟩
      · have z62 : (n == 62) = false := by rw [beq_eq_false_iff_ne]; exact h62
        have y62 : (n != 62) = true := by rw [bne, z62]; rfl
        obtain ⟨l, hl⟩ : ∃ a, isLetterP n = a := ⟨_, rfl⟩
        obtain ⟨v, hv⟩ : ∃ a, begN n = a := ⟨_, rfl⟩
        have HL := Lib.hid hl
        have HBg := Lib.hid (show v = (l || (n == 95) || (n == 58)) by rw [← hv, begN, hl])
        clear hl
        cases v with
        | false =>
          have HR2 := Lib.hid (HR.out.skip hks (by rw [hn]; exact h62) (by rw [hn]; exact hv))
          obtain ⟨hlf, z95, z58⟩ := or3_false HBg.out
          have y95 : (n != 95) = true := by rw [bne, z95]; rfl
          have y58 : (n != 58) = true := by rw [bne, z58]; rfl
          subst hlf
          clear hv hn h62
          go_wp2_with (go_at_call 23; go_must (refine (refIsLetter_any n _ _ HL.out).mono ?_); rintro e w1 ⟨rfl, rfl⟩)
          go_roundw
          case rel => exact ⟨k + 1, D, A, c, by go_num, rfl, by omega, by omega, by omega, HR2, HS0⟩
          case measure => simp [intOf]; omega
        | true =>
          have HR2 := Lib.hid (HR.out.push hks (by rw [hn]; exact h62) (by rw [hn]; exact hv))
          have hbe := attEnd_le hks (by rw [hn]; exact hv)
          have hsb := skip_beg hks (by rw [hn]; exact hv)
          obtain ⟨K, hK⟩ : ∃ K, skipTo attN s k = K := ⟨_, rfl⟩
          obtain ⟨nb, hnb⟩ : ∃ nb, lowBA (s.extract k K) = nb := ⟨_, rfl⟩
          have HEd := Lib.hid (show attEnd s k = (attVal s K).2 by rw [← hK]; rfl)
          have HAt := Lib.hid (show attAt s k = ⟨nb, (attVal s K).1⟩ by rw [← hnb, ← hK]; rfl)
          rw [hK] at hsb
          rw [HEd.out] at hbe
          have HK := Lib.hid hK
          have HNb := Lib.hid hnb
          clear hK hnb hv hn h62
          go_upto_region 3 with fail
          go_cut [38] from 12 to 118 (fun s38 wx => s38 = .bool false ∧ wx = wr)
          case first =>
            cases l with
            | true =>
              go_wp2_with (go_at_call 23; go_must (refine (refIsLetter_any n _ _ HL.out).mono ?_); rintro e w1 ⟨rfl, rfl⟩)
              go_meet
              exact ⟨rfl, rfl⟩
            | false =>
              cases z95 : (n == 95) with
              | true =>
                have y95 : (n != 95) = false := by rw [bne, z95]; rfl
                go_wp2_with (go_at_call 23; go_must (refine (refIsLetter_any n _ _ HL.out).mono ?_); rintro e w1 ⟨rfl, rfl⟩)
                go_meet
                exact ⟨rfl, rfl⟩
              | false =>
                have z58 : (n == 58) = true := by have := HBg.out; rw [z95] at this; simpa using this.symm
                have y95 : (n != 95) = true := by rw [bne, z95]; rfl
                have y58 : (n != 58) = false := by rw [bne, z58]; rfl
                go_wp2_with (go_at_call 23; go_must (refine (refIsLetter_any n _ _ HL.out).mono ?_); rintro e w1 ⟨rfl, rfl⟩)
                go_meet
                exact ⟨rfl, rfl⟩
          case rest =>
            obtain ⟨rfl, rfl⟩ := hcut
            go_wp2_with fail
            go_loopw [7] (fun t7 wr2 => ∃ m : Nat, t7 = .int .i64 (m : Int) ∧ k ≤ m ∧ m ≤ s.size ∧ Hid (skipTo attN s m = K) ∧ EqW wr2 wc) (fun t7 _ => s.size - (intOf t7).toNat)
            case atStart => exact ⟨k, rfl, Nat.le_refl _, hk, HK, EqW.refl _⟩
            case round =>
              obtain ⟨m, rfl, hkm, hm, HSm, hww⟩ := hrel
              unfold EqW at hww
              subst hww
              have hm0 : (0 : Int) ≤ (m : Int) := by omega
              by_cases hgo : m < s.size ∧ attN (nAt s m) = true
              · have hms := hgo.1
                have hms' : (m : Int) < (s.size : Int) := by omega
                obtain ⟨n5, hn5⟩ : ∃ n, nAt s m = n := ⟨_, rfl⟩
                have e5 : ((s[m]'hms).toNat : Int) = n5 := by rw [bAt_idx hms]; exact hn5
                have HGz := Lib.hid (show attN n5 = true by rw [← hn5]; exact hgo.2)
                have HSm2 := Lib.hid ((skip_in hms hgo.2).symm.trans HSm.out)
                clear hgo hn5
                go_wp2_with (go_at_call 35; go_must (refine (attR_q n5 _ _ HGz.out).mono ?_); rintro e w7 ⟨rfl, rfl⟩)
                go_roundw
                case rel => exact ⟨m + 1, by go_num, by omega, by omega, HSm2, EqW.refl _⟩
                case measure => simp [intOf]; omega
              · have HmV := Lib.hid (show m = K by
                  rw [← HSm.out]
                  by_cases h5 : m < s.size
                  · exact (skip_out h5 (by cases h6 : attN (nAt s m); rfl; exact absurd ⟨h5, h6⟩ hgo)).symm
                  · exact (skip_end (by omega)).symm)
                go_upto_region 6 with fail
                go_cut [51] from 42 to 53 (fun s51 wx => s51 = .bool false ∧ wx = wr)
                case first =>
                  by_cases hms : m < s.size
                  · have hms' : (m : Int) < (s.size : Int) := by omega
                    obtain ⟨n5, hn5⟩ : ∃ n, nAt s m = n := ⟨_, rfl⟩
                    have e5 : ((s[m]'hms).toNat : Int) = n5 := by rw [bAt_idx hms]; exact hn5
                    have HGz := Lib.hid (show attN n5 = false by rw [← hn5]; cases h6 : attN (nAt s m); rfl; exact absurd ⟨hms, h6⟩ hgo)
                    clear hgo hn5
                    go_wp2_with (go_at_call 35; go_must (refine (attR_q n5 _ _ HGz.out).mono ?_); rintro e w7 ⟨rfl, rfl⟩)
                    go_meet
                    exact ⟨rfl, rfl⟩
                  · have hms' : ¬ (m : Int) < (s.size : Int) := by omega
                    go_wp2_with fail
                    go_meet
                    exact ⟨rfl, rfl⟩
                case rest =>
                  obtain ⟨rfl, rfl⟩ := hcut
                  have hmV := HmV.out.symm
                  subst hmV
                  have hx1 : (k : Int) ≤ (K : Int) := by omega
                  have hx2 : (K : Int) ≤ (s.size : Int) := by omega
                  clear hgo HmV HSm HK
                  go_wp2_with (go_at_call 25; go_must (refine (lowerR_q _ nb _ (by rw [ext_size s (by omega)]; omega) HNb.out).mono ?_); rintro e w3 ⟨rfl, hb3⟩; have HS3 := Lib.hid (HS0.out.below hb3 hBr); clear hb3)
                  obtain ⟨ab, hab⟩ : ∃ ab, w3.heap.size = ab := ⟨_, rfl⟩
                  obtain ⟨W4, hW⟩ : ∃ W, w3.alloc (.cells #[.string nb, .string ⟨#[]⟩] 42) = W := ⟨_, rfl⟩
                  have hB3 : B ≤ w3.heap.size := by have := HS3.out.be.size; omega
                  have HAB4 := Lib.hid (show CB W4 ab 42 #[.string nb, .string ⟨#[]⟩] by rw [← hW, ← hab]; exact CB.new _ _ _)
                  have HS4 := Lib.hid (show RState B D A c w W4 by rw [← hW]; exact HS3.out.below ((Below.refl _ _).alloc (Nat.le_refl _) _) hB3)
                  have HA := Lib.hid (show ∀ g, (Value.slice A D.length c).ownBlock = some g → g < ab by rw [← hab]; exact own_lt HS3.out.row)
                  have hBab : B ≤ ab := by omega
                  have hB4 : B ≤ W4.heap.size := by have := HAB4.out.lt; omega
                  have HM4 := Lib.hid (HM.out.keep HS4.out.be)
                  try rw [hW]
                  try rw [hab]
                  clear hW hab HS3
                  obtain ⟨y, hy⟩ : ∃ y, s.extract K s.size = y := ⟨_, rfl⟩
                  rw [hy]
                  obtain ⟨p1, hp1⟩ : ∃ p, (isAt s K 61 && isAt s (K + 1) 34) = p := ⟨_, rfl⟩
                  obtain ⟨p2, hp2⟩ : ∃ p, isAt s K 61 = p := ⟨_, rfl⟩
                  have HP1 := Lib.hid (show Lib.hasPrefix y.data.toList (⟨#[61, 34]⟩ : ByteArray).data.toList = p1 by rw [← hy, ← hp1]; exact pre_eqq s K)
                  have HP2 := Lib.hid (show Lib.hasPrefix y.data.toList (⟨#[61]⟩ : ByteArray).data.toList = p2 by rw [← hy, ← hp2]; exact pre_one s K 61)
                  cases p1 with
                  | true =>
                    have ha : K < s.size ∧ nAt s K = 61 ∧ K + 1 < s.size ∧ nAt s (K + 1) = 34 := by
                      rw [Bool.and_eq_true] at hp1
                      have h1 := isAt_lt hp1.1
                      have h2 := isAt_lt hp1.2
                      exact ⟨h1.1, h1.2, h2.1, h2.2⟩
                    clear hp1 hp2
                    obtain ⟨en, hen⟩ : ∃ en, upE s (K + 2) [34] = en := ⟨_, rfl⟩
                    obtain ⟨E, hE⟩ : ∃ E, upN s (K + 2) [34] = E := ⟨_, rfl⟩
                    have hul := upE_le (s := s) (i := K + 2) (t := [34]) (by omega)
                    rw [hen, hE] at hul
                    obtain ⟨vb, hvb⟩ : ∃ vb, s.extract (K + 2) en = vb := ⟨_, rfl⟩
                    have hvz : vb.size ≤ s.size := by rw [← hvb, ext_size s (by omega)]; omega
                    obtain ⟨u, hu⟩ : ∃ u, unBA vb = u := ⟨_, rfl⟩
                    have HEn := Lib.hid hen
                    have HE := Lib.hid hE
                    have HU := Lib.hid hu
                    have HR3 := Lib.hid (show AttsRel s i (D ++ [⟨nb, u⟩]) E by
                      have h9 := HR2.out
                      rw [HAt.out, HEd.out, attVal_q ha.1 ha.2.1 ha.2.2.1 ha.2.2.2] at h9
                      simp only [hen, hE, hvb, hu] at h9
                      exact h9)
                    have hx1 : (K : Int) + 2 ≤ (en : Int) := by omega
                    have hx2 : (en : Int) ≤ (s.size : Int) := by omega
                    clear hen hE hu ha
                    go_wp2_with (first
                      | (go_at_call 15; go_must (refine (hasPre_q y _ _ _ (by first | with_reducible exact HP1.out | with_reducible exact HP2.out)).mono ?_); rintro e w7 ⟨rfl, rfl⟩)
                      | (go_at_call 22; go_must (refine (upToR_q B s ⟨#[34]⟩ [34] (K + 2) en E _ (by omega) hs (by decide) HM4.out rfl HEn.out HE.out).mono ?_); rintro e w7 ⟨rfl, rfl⟩)
                      | (go_at_call 36; go_must (refine (unR_q vb u _ HU.out (by omega)).mono ?_); rintro e w8 ⟨rfl, hb8⟩; have HS8 := Lib.hid (HS4.out.below hb8 hB4); have HAB8 := Lib.hid (HAB4.out.below hb8); have HS9 := Lib.hid (HS8.out.box HA.out hBab 1 (.string u)); clear hb8; have c0 : w8.cell? ⟨ab, 0, none⟩ = some (.string nb) := HAB8.out.c 0; have c1 : w8.cell? ⟨ab, 1, none⟩ = some (.string ⟨#[]⟩) := HAB8.out.c 1; have c1f := HAB8.out.f 1; have c1s : w8.shape? ab = some (42, 2) := HAB8.out.sh; have c1l : ab < w8.heap.size := HAB8.out.lt)
                      | (at_builtin; go_must (refine wpList_push _ rfl (.tmp 115) (.tmp 117) 33 rfl B 42 _ 2 32 Tryz.underlying33 info_att rfl (by omega) (.slice A D.length c) D.length _ rfl (own_alloc HS9.out.row _) [.string nb, .string u] rfl _ rfl (cell_new _ [.string nb, .string u] 42 _ (by first | rfl | exact (World.size_setCell _ _ _).symm)) (by intro u hu; simp at hu; rcases hu with rfl | rfl <;> rfl) (by omega) (by unfold maxLen; omega) (by have h8 := HS9.out.be.size; rw [World.size_alloc]; omega) ?_)
                         intro g6 k6 w6 own6 hg6 hgg6 hb6
                         have HF6 := Lib.hid (HS9.out.push (a := ⟨nb, u⟩) ((Below.refl _ _).alloc (Nat.le_refl _) (.cells #[.string nb, .string u] 42)) (by have h8 := HS9.out.be.size; omega) own6 hb6)
                         clear own6 hg6 hgg6 hb6))
                    go_roundw
                    case rel => exact ⟨E, D ++ [⟨nb, u⟩], _, _, by go_num, by simp, by omega, by omega, by rw [List.length_append]; simp only [List.length_cons, List.length_nil]; omega, HR3, HF6⟩
                    case measure => simp [intOf]; omega
                  | false =>
                    cases p2 with
                    | true =>
                      have hb : K < s.size ∧ nAt s K = 61 ∧ ¬ (K + 1 < s.size ∧ nAt s (K + 1) = 34) := by
                        have h1 := isAt_lt hp2
                        refine ⟨h1.1, h1.2, fun h2 => ?_⟩
                        rw [hp2, Bool.true_and] at hp1
                        simp [isAt, h2.1, h2.2] at hp1
                      clear hp1 hp2
                      obtain ⟨V, hV⟩ : ∃ V, skipTo valN s (K + 1) = V := ⟨_, rfl⟩
                      have hVl := skip_le (p := valN) (s := s) (i := K + 1) (by omega)
                      rw [hV] at hVl
                      obtain ⟨vb, hvb⟩ : ∃ vb, s.extract (K + 1) V = vb := ⟨_, rfl⟩
                      have hvz : vb.size ≤ s.size := by rw [← hvb, ext_size s (by omega)]; omega
                      obtain ⟨u, hu⟩ : ∃ u, unBA vb = u := ⟨_, rfl⟩
                      have HU := Lib.hid hu
                      have HVv := Lib.hid hV
                      have HR3 := Lib.hid (show AttsRel s i (D ++ [⟨nb, u⟩]) V by
                        have h9 := HR2.out
                        rw [HAt.out, HEd.out, attVal_u hb.1 hb.2.1 hb.2.2] at h9
                        simp only [hV, hvb, hu] at h9
                        exact h9)
                      have HVb := Lib.hid hvb
                      clear hV hu hb hvb
                      go_wp2_with (go_at_call 15; go_must (refine (hasPre_q y _ _ _ (by first | with_reducible exact HP1.out | with_reducible exact HP2.out)).mono ?_); rintro e w7 ⟨rfl, rfl⟩)
                      go_loopw [11] (fun t11 wr => ∃ m : Nat, t11 = .int .i64 (m : Int) ∧ K + 1 ≤ m ∧ m ≤ s.size ∧ Hid (skipTo valN s m = V) ∧ EqW wr W4) (fun t11 _ => s.size - (intOf t11).toNat)
                      case atStart => exact ⟨K + 1, by go_num, Nat.le_refl _, by omega, HVv, EqW.refl _⟩
                      case round =>
                        obtain ⟨m, rfl, hKm, hm, HSm, hww⟩ := hrel
                        unfold EqW at hww
                        subst hww
                        have hm0 : (0 : Int) ≤ (m : Int) := by omega
                        by_cases hgo : m < s.size ∧ valN (nAt s m) = true
                        · have hms := hgo.1
                          have hms' : (m : Int) < (s.size : Int) := by omega
                          obtain ⟨n5, hn5⟩ : ∃ n, nAt s m = n := ⟨_, rfl⟩
                          have e5 : ((s[m]'hms).toNat : Int) = n5 := by rw [bAt_idx hms]; exact hn5
                          have hgz : gapN n5 = false ∧ (n5 == 62) = false := by have h9 := hgo.2; rw [hn5, valN] at h9; revert h9; cases gapN n5 <;> cases (n5 == 62) <;> simp
                          have HGz := Lib.hid hgz.1
                          have z5 := hgz.2
                          have y5 : (n5 != 62) = true := by rw [bne, z5]; rfl
                          have HSm2 := Lib.hid ((skip_in hms hgo.2).symm.trans HSm.out)
                          clear hgo hn5 hgz
                          go_wp2_with (go_at_call 37; go_must (refine (gapR_q n5 _ _ HGz.out).mono ?_); rintro e w7 ⟨rfl, rfl⟩)
                          go_roundw
                          case rel => exact ⟨m + 1, by go_num, by omega, by omega, HSm2, EqW.refl _⟩
                          case measure => simp [intOf]; omega
                        · have HmV := Lib.hid (show m = V by
                            rw [← HSm.out]
                            by_cases h5 : m < s.size
                            · exact (skip_out h5 (by cases h6 : valN (nAt s m); rfl; exact absurd ⟨h5, h6⟩ hgo)).symm
                            · exact (skip_end (by omega)).symm)
                          go_upto_region 15 with fail
                          go_cut [104] from 88 to 106 (fun s104 wx => s104 = .bool false ∧ wx = wr)
                          case first =>
                            by_cases hms : m < s.size
                            · have hms' : (m : Int) < (s.size : Int) := by omega
                              obtain ⟨n5, hn5⟩ : ∃ n, nAt s m = n := ⟨_, rfl⟩
                              have e5 : ((s[m]'hms).toNat : Int) = n5 := by rw [bAt_idx hms]; exact hn5
                              obtain ⟨g, hg⟩ : ∃ a, gapN n5 = a := ⟨_, rfl⟩
                              have HGz := Lib.hid hg
                              cases g with
                              | true =>
                                clear hgo hn5 hg
                                go_wp2_with (go_at_call 37; go_must (refine (gapR_q n5 _ _ HGz.out).mono ?_); rintro e w7 ⟨rfl, rfl⟩)
                                go_meet
                                exact ⟨rfl, rfl⟩
                              | false =>
                                have z5 : (n5 == 62) = true := by
                                  have h9 : ¬ valN n5 = true := fun h6 => hgo ⟨hms, by rw [hn5]; exact h6⟩
                                  rw [valN, hg] at h9
                                  revert h9; cases (n5 == 62) <;> simp
                                have y5 : (n5 != 62) = false := by rw [bne, z5]; rfl
                                clear hgo hn5 hg
                                go_wp2_with (go_at_call 37; go_must (refine (gapR_q n5 _ _ HGz.out).mono ?_); rintro e w7 ⟨rfl, rfl⟩)
                                go_meet
                                exact ⟨rfl, rfl⟩
                            · have hms' : ¬ (m : Int) < (s.size : Int) := by omega
                              go_wp2_with fail
                              go_meet
                              exact ⟨rfl, rfl⟩
                          case rest =>
                            obtain ⟨rfl, rfl⟩ := hcut
                            have hmV := HmV.out
                            subst hmV
                            have hvb := HVb.out
                            have hx1 : (K : Int) + 1 ≤ (m : Int) := by omega
                            have hx2 : (m : Int) ≤ (s.size : Int) := by omega
                            clear hgo HmV
                            go_wp2_with (first
                              | (go_at_call 36; go_must (refine (unR_q vb u _ HU.out (by omega)).mono ?_); rintro e w8 ⟨rfl, hb8⟩; have HS8 := Lib.hid (HS4.out.below hb8 hB4); have HAB8 := Lib.hid (HAB4.out.below hb8); have HS9 := Lib.hid (HS8.out.box HA.out hBab 1 (.string u)); clear hb8; have c0 : w8.cell? ⟨ab, 0, none⟩ = some (.string nb) := HAB8.out.c 0; have c1 : w8.cell? ⟨ab, 1, none⟩ = some (.string ⟨#[]⟩) := HAB8.out.c 1; have c1f := HAB8.out.f 1; have c1s : w8.shape? ab = some (42, 2) := HAB8.out.sh; have c1l : ab < w8.heap.size := HAB8.out.lt)
                              | (at_builtin; go_must (refine wpList_push _ rfl (.tmp 115) (.tmp 117) 33 rfl B 42 _ 2 32 Tryz.underlying33 info_att rfl (by omega) (.slice A D.length c) D.length _ rfl (own_alloc HS9.out.row _) [.string nb, .string u] rfl _ rfl (cell_new _ [.string nb, .string u] 42 _ (by first | rfl | exact (World.size_setCell _ _ _).symm)) (by intro u hu; simp at hu; rcases hu with rfl | rfl <;> rfl) (by omega) (by unfold maxLen; omega) (by have h8 := HS9.out.be.size; rw [World.size_alloc]; omega) ?_)
                                 intro g6 k6 w6 own6 hg6 hgg6 hb6
                                 have HF6 := Lib.hid (HS9.out.push (a := ⟨nb, u⟩) ((Below.refl _ _).alloc (Nat.le_refl _) (.cells #[.string nb, .string u] 42)) (by have h8 := HS9.out.be.size; omega) own6 hb6)
                                 clear own6 hg6 hgg6 hb6))
                            go_roundw
                            case rel => exact ⟨m, D ++ [⟨nb, u⟩], _, _, by go_num, by simp, by omega, by omega, by rw [List.length_append]; simp only [List.length_cons, List.length_nil]; omega, HR3, HF6⟩
                            case measure => simp [intOf]; omega
                    | false =>
                      have hc : ¬ (K < s.size ∧ nAt s K = 61) := fun h2 => by simp [isAt, h2.1, h2.2] at hp2
                      clear hp1 hp2
                      have HR3 := Lib.hid (show AttsRel s i (D ++ [⟨nb, ⟨#[]⟩⟩]) K by
                        have h9 := HR2.out
                        rw [HAt.out, HEd.out, attVal_none hc] at h9
                        exact h9)
                      clear hc
                      have c0 : W4.cell? ⟨ab, 0, none⟩ = some (.string nb) := HAB4.out.c 0
                      have c1 : W4.cell? ⟨ab, 1, none⟩ = some (.string ⟨#[]⟩) := HAB4.out.c 1
                      have c1l : ab < W4.heap.size := HAB4.out.lt
                      go_wp2_with (first
                        | (go_at_call 15; go_must (refine (hasPre_q y _ _ _ (by first | with_reducible exact HP1.out | with_reducible exact HP2.out)).mono ?_); rintro e w7 ⟨rfl, rfl⟩)
                        | (at_builtin; go_must (refine wpList_push _ rfl (.tmp 115) (.tmp 117) 33 rfl B 42 _ 2 32 Tryz.underlying33 info_att rfl (by omega) (.slice A D.length c) D.length _ rfl (own_alloc HS4.out.row _) [.string nb, .string ⟨#[]⟩] rfl _ rfl (cell_new _ [.string nb, .string ⟨#[]⟩] 42 _ (by first | rfl | exact (World.size_setCell _ _ _).symm)) (by intro u hu; simp at hu; rcases hu with rfl | rfl <;> rfl) (by omega) (by unfold maxLen; omega) (by have h8 := HS4.out.be.size; rw [World.size_alloc]; omega) ?_)
                           intro g6 k6 w6 own6 hg6 hgg6 hb6
                           have HF6 := Lib.hid (HS4.out.push (a := ⟨nb, ⟨#[]⟩⟩) ((Below.refl _ _).alloc (Nat.le_refl _) (.cells #[.string nb, .string ⟨#[]⟩] 42)) (by have h8 := HS4.out.be.size; omega) own6 hb6)
                           clear own6 hg6 hgg6 hb6))
                      go_roundw
                      case rel => exact ⟨K, D ++ [⟨nb, ⟨#[]⟩⟩], _, _, by go_num, by simp, by omega, by omega, by rw [List.length_append]; simp only [List.length_cons, List.length_nil]; omega, HR3, HF6⟩
                      case measure => simp [intOf]; omega
    · have hks' : ¬ (k : Int) < (s.size : Int) := by omega
      have HV := Lib.hid (HR.out.stop (Or.inl (by omega)))
      have hke : min (k + 1) s.size = s.size := by omega
      have hmn : min ((k : Int) + 1) (s.size : Int) = ((s.size : Nat) : Int) := by omega
      have HKe := Lib.hid hke
      clear hke
      go_wp2_with fail
      go_ret2
      exact ⟨A, c, by rw [HV.out]; simp only [HKe.out]; first | rfl | (simp only [hmn]) | (simp; omega), by rw [HV.out]; exact HS0.out.row, HS0.out.be⟩

end Go.Proofs.YtelelpjhepcmbaaGreat
