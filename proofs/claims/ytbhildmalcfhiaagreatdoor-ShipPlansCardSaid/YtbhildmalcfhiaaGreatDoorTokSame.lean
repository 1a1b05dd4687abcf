/-
  Tokens compared: mastlaw1.sameTokens, where both lists hold the same.
-/
import Derived.Test.YtbhildmalcfhiaaGreatDoorTokRef
import Derived.Test.YtbhildmalcfhiaaGreatDoorUnRef
import Derived.Test.YtbhildmalcfhiaaGreatDoorTokAtt
import Derived.Deep.Cut
import Derived.Deep.CutRange
import Derived.Laws.ResultCell
import Derived.Test.YtbhildmalcfhiaaGreatDoorTokTok
namespace Go.Proofs.YtbhildmalcfhiaaGreatDoor
open Go.RowKit Go.Deep

/-- what attrsAt gives -/
def AttsR (B : Nat) (s : ByteArray) (i : Nat) (w : World) (e : Ending) (w' : World) : Prop :=
  ∃ (A : Option Addr) (c : Nat), e = .returned (.tuple #[.slice A (attsV s i).1.length c, .int .i64 ((min ((attsV s i).2 + 1) s.size : Nat) : Int)]) ∧ w'.ownsRow B 68 2 (.slice A (attsV s i).1.length c) (attsV s i).1.length (attCells (attsV s i).1) ∧ Below B w w'
theorem unR_q (s u : ByteArray) (w : World) (hu : unBA s = u) (hs : s.size ≤ 2097152) : Calls Tryz.prog 130 #[.string s] w fun e w' => e = .returned (.string u) ∧ Below w.heap.size w w' := by
  subst hu
  exact unescaped_q s w hs
theorem pre_one (s : ByteArray) (i : Nat) (c : UInt8) : Lib.hasPrefix (s.extract i s.size).data.toList [c] = isAt s i (c.toNat : Int) := by
  rw [pre_cons, pre_nil, Bool.and_true]
theorem pre_eqq (s : ByteArray) (i : Nat) : Lib.hasPrefix (s.extract i s.size).data.toList [61, 34] = (isAt s i 61 && isAt s (i + 1) 34) := by
  rw [pre_cons, pre_cons, pre_nil, Bool.and_true]; rfl
theorem hasPre_q (y p : ByteArray) (v : Bool) (w : World) (h : Lib.hasPrefix y.data.toList p.data.toList = v) : Calls Tryz.prog 28 #[.string y, .string p] w fun e w' => e = .returned (.bool v) ∧ w = w' := by
  subst h
  exact (Tryz.strings_HasPrefix y p w).mono fun _ _ ⟨h1, h2⟩ => ⟨h1, h2.symm⟩
/-- what the round has made so far -/
structure RState (B : Nat) (D : List AttrR) (A : Option Addr) (c : Nat) (w0 w : World) : Prop where
  row : w.ownsRow B 68 2 (.slice A D.length c) D.length (attCells D)
  be : Below B w0 w
theorem RState.below {B : Nat} {D : List AttrR} {A : Option Addr} {c : Nat} {w0 w w' : World} (h : RState B D A c w0 w) (hb : Below w.heap.size w w') (hB : B ≤ w.heap.size) : RState B D A c w0 w' :=
  ⟨own_keepX h.row (GrownX.of_below (p := fun _ => False) hb) (fun _ _ e => e), h.be.trans (hb.mono hB)⟩
theorem RState.box {B : Nat} {D : List AttrR} {A : Option Addr} {c ab : Nat} {w0 w : World} (h : RState B D A c w0 w) (hA : ∀ g, (Value.slice A D.length c).ownBlock = some g → g < ab) (hB : B ≤ ab) (o : Nat) (v : Value) : RState B D A c w0 (w.setCell ⟨ab, o, none⟩ v) :=
  ⟨own_keepX h.row (GrownX.one0 w ab o v) (fun q hq e => by have := hA q hq; omega), h.be.setCell (p := ⟨ab, o, none⟩) hB v⟩
theorem RState.push {B : Nat} {D : List AttrR} {A : Option Addr} {c g6 k6 : Nat} {a : AttrR} {w0 w W w' : World} (h : RState B D A c w0 w) (hW : Below w.heap.size w W) (hB : B ≤ w.heap.size)
    (own6 : w'.ownsRow B 68 2 (.slice (some ⟨g6, 0, none⟩) (D.length + 1) k6) (D.length + 1) (attCells D ++ [.string a.name, .string a.value])) (hb : Below B W w') : RState B (D ++ [a]) (some ⟨g6, 0, none⟩) k6 w0 w' := by
  have e : (D ++ [a]).length = D.length + 1 := by simp
  exact ⟨by rw [attCells_snoc, e]; exact own6, h.be.trans ((hW.mono hB).trans hb)⟩

set_option maxRecDepth 100000 in
set_option maxHeartbeats 40000000 in
theorem attsR_q (B : Nat) (s : ByteArray) (i : Nat) (w : World) (hB : B ≤ w.heap.size) (hi : i ≤ s.size) (hs : s.size ≤ 1048576) (hm : MaxT B w) :
    Calls Tryz.prog 91 #[.string s, .int .i64 (i : Int)] w (AttsR B s i w) := by
  have HM := Lib.hid hm; clear hm
  have H0 := Lib.hid (⟨World.ownsRow_nil _ _ _ _, Below.refl _ _⟩ : RState B [] none 0 w w)
  go_enter Tryz.func91, Tryz.ntmps91
  go_wp2_with fail
  go_loopw [1, 6] (fun t1 t6 wr => ∃ (k : Nat) (D : List AttrR) (A : Option Addr) (c : Nat), t1 = .int .i64 (k : Int) ∧ t6 = .slice A D.length c ∧ i ≤ k ∧ k ≤ s.size ∧ D.length ≤ k ∧ Hid (AttsRel s i D k) ∧ Hid (RState B D A c w wr)) (fun t1 _ _ => s.size - (intOf t1).toNat)
  case atStart => exact ⟨i, [], none, 0, rfl, rfl, Nat.le_refl _, hi, Nat.zero_le _, AttsRel.start _ _, H0⟩
  case round =>
    clear H0
    obtain ⟨k, D, A, c, rfl, rfl, hik, hk, hDk, HR, HS0⟩ := hrel
    have hk0 : (0 : Int) ≤ (k : Int) := by omega
    have hk1 : (k : Int) ≤ (s.size : Int) := by omega
    have hBr : B ≤ wr.heap.size := by have := HS0.out.be.size; omega
    by_cases hks : k < s.size
    · have hks' : (k : Int) < (s.size : Int) := by omega
      obtain ⟨n, hn⟩ : ∃ n, nAt s k = n := ⟨_, rfl⟩
      have e0 : ((s[k]'hks).toNat : Int) = n := by rw [bAt_idx hks]; exact hn
      by_cases h62 : n = 62
      · have HV := Lib.hid (HR.out.stop (Or.inr (hn.trans h62)))
        subst h62
        have hmn : min ((k : Int) + 1) (s.size : Int) = ((min (k + 1) s.size : Nat) : Int) := by omega
        clear hn
        go_wp2_with fail
        go_ret2
        exact ⟨A, c, by rw [HV.out]; first | rfl | (simp only [hmn]) | (simp; omega), by rw [HV.out]; exact HS0.out.row, HS0.out.be⟩
      · have z62 : (n == 62) = false := by rw [beq_eq_false_iff_ne]; exact h62
        have y62 : (n != 62) = true := by rw [bne, z62]; rfl
        obtain ⟨l, hl⟩ : ∃ a, isLetterP n = a := ⟨_, rfl⟩
        obtain ⟨v, hv⟩ : ∃ a, begN n = a := ⟨_, rfl⟩
        have HL := Lib.hid hl
        have HBg := Lib.hid (show v = (l || (n == 95) || (n == 58)) by rw [← hv, begN, hl])
        clear hl
        cases v with
        | false =>
          have HR2 := Lib.hid (HR.out.skip hks (by rw [hn]; exact h62) (by rw [hn]; exact hv))
          obtain ⟨hlf, z95, z58⟩ := or3_false HBg.out
          have y95 : (n != 95) = true := by rw [bne, z95]; rfl
          have y58 : (n != 58) = true := by rw [bne, z58]; rfl
          subst hlf
          clear hv hn h62
          go_wp2_with (go_at_call 88; go_must (refine (refIsLetter_any n _ _ HL.out).mono ?_); rintro e w1 ⟨rfl, rfl⟩)
          go_roundw
          case rel => exact ⟨k + 1, D, A, c, by go_num, rfl, by omega, by omega, by omega, HR2, HS0⟩
          case measure => simp [intOf]; omega
        | true =>
          have HR2 := Lib.hid (HR.out.push hks (by rw [hn]; exact h62) (by rw [hn]; exact hv))
          have hbe := attEnd_le hks (by rw [hn]; exact hv)
          have hsb := skip_beg hks (by rw [hn]; exact hv)
          obtain ⟨K, hK⟩ : ∃ K, skipTo attN s k = K := ⟨_, rfl⟩
          obtain ⟨nb, hnb⟩ : ∃ nb, lowBA (s.extract k K) = nb := ⟨_, rfl⟩
          have HEd := Lib.hid (show attEnd s k = (attVal s K).2 by rw [← hK]; rfl)
          have HAt := Lib.hid (show attAt s k = ⟨nb, (attVal s K).1⟩ by rw [← hnb, ← hK]; rfl)
          rw [hK] at hsb
          rw [HEd.out] at hbe
          have HK := Lib.hid hK
          have HNb := Lib.hid hnb
          clear hK hnb hv hn h62
          go_upto_region 3 with fail
          go_cut [38] from 12 to 118 (fun s38 wx => s38 = .bool false ∧ wx = wr)
          case first =>
            cases l with
            | true =>
              go_wp2_with (go_at_call 88; go_must (refine (refIsLetter_any n _ _ HL.out).mono ?_); rintro e w1 ⟨rfl, rfl⟩)
              go_meet
              exact ⟨rfl, rfl⟩
            | false =>
              cases z95 : (n == 95) with
              | true =>
                have y95 : (n != 95) = false := by rw [bne, z95]; rfl
                go_wp2_with (go_at_call 88; go_must (refine (refIsLetter_any n _ _ HL.out).mono ?_); rintro e w1 ⟨rfl, rfl⟩)
                go_meet
                exact ⟨rfl, rfl⟩
              | false =>
                have z58 : (n == 58) = true := by have := HBg.out; rw [z95] at this; simpa using this.symm
                have y95 : (n != 95) = true := by rw [bne, z95]; rfl
                have y58 : (n != 58) = false := by rw [bne, z58]; rfl
                go_wp2_with (go_at_call 88; go_must (refine (refIsLetter_any n _ _ HL.out).mono ?_); rintro e w1 ⟨rfl, rfl⟩)
                go_meet
                exact ⟨rfl, rfl⟩
          case rest =>
            obtain ⟨rfl, rfl⟩ := hcut
            go_wp2_with fail
            go_loopw [7] (fun t7 wr2 => ∃ m : Nat, t7 = .int .i64 (m : Int) ∧ k ≤ m ∧ m ≤ s.size ∧ Hid (skipTo attN s m = K) ∧ EqW wr2 wc) (fun t7 _ => s.size - (intOf t7).toNat)
            case atStart => exact ⟨k, rfl, Nat.le_refl _, hk, HK, EqW.refl _⟩
            case round =>
              obtain ⟨m, rfl, hkm, hm, HSm, hww⟩ := hrel
              unfold EqW at hww
              subst hww
              have hm0 : (0 : Int) ≤ (m : Int) := by omega
              by_cases hgo : m < s.size ∧ attN (nAt s m) = true
              · have hms := hgo.1
                have hms' : (m : Int) < (s.size : Int) := by omega
                obtain ⟨n5, hn5⟩ : ∃ n, nAt s m = n := ⟨_, rfl⟩
                have e5 : ((s[m]'hms).toNat : Int) = n5 := by rw [bAt_idx hms]; exact hn5
                have HGz := Lib.hid (show attN n5 = true by rw [← hn5]; exact hgo.2)
                have HSm2 := Lib.hid ((skip_in hms hgo.2).symm.trans HSm.out)
                clear hgo hn5
                go_wp2_with (go_at_call 129; go_must (refine (attR_q n5 _ _ HGz.out).mono ?_); rintro e w7 ⟨rfl, rfl⟩)
                go_roundw
                case rel => exact ⟨m + 1, by go_num, by omega, by omega, HSm2, EqW.refl _⟩
                case measure => simp [intOf]; omega
              · have HmV := Lib.hid (show m = K by
                  rw [← HSm.out]
                  by_cases h5 : m < s.size
                  · exact (skip_out h5 (by cases h6 : attN (nAt s m); rfl; exact absurd ⟨h5, h6⟩ hgo)).symm
                  · exact (skip_end (by omega)).symm)
                go_upto_region 6 with fail
                go_cut [51] from 42 to 53 (fun s51 wx => s51 = .bool false ∧ wx = wr)
                case first =>
                  by_cases hms : m < s.size
                  · have hms' : (m : Int) < (s.size : Int) := by omega
                    obtain ⟨n5, hn5⟩ : ∃ n, nAt s m = n := ⟨_, rfl⟩
                    have e5 : ((s[m]'hms).toNat : Int) = n5 := by rw [bAt_idx hms]; exact hn5
                    have HGz := Lib.hid (show attN n5 = false by rw [← hn5]; cases h6 : attN (nAt s m); rfl; exact absurd ⟨hms, h6⟩ hgo)
                    clear hgo hn5
                    go_wp2_with (go_at_call 129; go_must (refine (attR_q n5 _ _ HGz.out).mono ?_); rintro e w7 ⟨rfl, rfl⟩)
                    go_meet
                    exact ⟨rfl, rfl⟩
                  · have hms' : ¬ (m : Int) < (s.size : Int) := by omega
                    go_wp2_with fail
                    go_meet
                    exact ⟨rfl, rfl⟩
                case rest =>
                  obtain ⟨rfl, rfl⟩ := hcut
                  have hmV := HmV.out.symm
                  subst hmV
                  have hx1 : (k : Int) ≤ (K : Int) := by omega
                  have hx2 : (K : Int) ≤ (s.size : Int) := by omega
                  clear hgo HmV HSm HK
                  go_wp2_with (go_at_call 90; go_must (refine (lowerR_q _ nb _ (by rw [ext_size s (by omega)]; omega) HNb.out).mono ?_); rintro e w3 ⟨rfl, hb3⟩; have HS3 := Lib.hid (HS0.out.below hb3 hBr); clear hb3)
                  obtain ⟨ab, hab⟩ : ∃ ab, w3.heap.size = ab := ⟨_, rfl⟩
                  obtain ⟨W4, hW⟩ : ∃ W, w3.alloc (.cells #[.string nb, .string ⟨#[]⟩] 68) = W := ⟨_, rfl⟩
                  have hB3 : B ≤ w3.heap.size := by have := HS3.out.be.size; omega
                  have HAB4 := Lib.hid (show CB W4 ab 68 #[.string nb, .string ⟨#[]⟩] by rw [← hW, ← hab]; exact CB.new _ _ _)
                  have HS4 := Lib.hid (show RState B D A c w W4 by rw [← hW]; exact HS3.out.below ((Below.refl _ _).alloc (Nat.le_refl _) _) hB3)
                  have HA := Lib.hid (show ∀ g, (Value.slice A D.length c).ownBlock = some g → g < ab by rw [← hab]; exact own_lt HS3.out.row)
                  have hBab : B ≤ ab := by omega
                  have hB4 : B ≤ W4.heap.size := by have := HAB4.out.lt; omega
                  have HM4 := Lib.hid (HM.out.keep HS4.out.be)
                  try rw [hW]
                  try rw [hab]
                  clear hW hab HS3
                  obtain ⟨y, hy⟩ : ∃ y, s.extract K s.size = y := ⟨_, rfl⟩
                  rw [hy]
                  obtain ⟨p1, hp1⟩ : ∃ p, (isAt s K 61 && isAt s (K + 1) 34) = p := ⟨_, rfl⟩
                  obtain ⟨p2, hp2⟩ : ∃ p, isAt s K 61 = p := ⟨_, rfl⟩
                  have HP1 := Lib.hid (show Lib.hasPrefix y.data.toList (⟨#[61, 34]⟩ : ByteArray).data.toList = p1 by rw [← hy, ← hp1]; exact pre_eqq s K)
                  have HP2 := Lib.hid (show Lib.hasPrefix y.data.toList (⟨#[61]⟩ : ByteArray).data.toList = p2 by rw [← hy, ← hp2]; exact pre_one s K 61)
                  cases p1 with
                  | true =>
                    have ha : K < s.size ∧ nAt s K = 61 ∧ K + 1 < s.size ∧ nAt s (K + 1) = 34 := by
                      rw [Bool.and_eq_true] at hp1
                      have h1 := isAt_lt hp1.1
                      have h2 := isAt_lt hp1.2
                      exact ⟨h1.1, h1.2, h2.1, h2.2⟩
                    clear hp1 hp2
                    obtain ⟨en, hen⟩ : ∃ en, upE s (K + 2) [34] = en := ⟨_, rfl⟩
                    obtain ⟨E, hE⟩ : ∃ E, upN s (K + 2) [34] = E := ⟨_, rfl⟩
                    have hul := upE_le (s := s) (i := K + 2) (t := [34]) (by omega)
                    rw [hen, hE] at hul
                    obtain ⟨vb, hvb⟩ : ∃ vb, s.extract (K + 2) en = vb := ⟨_, rfl⟩
                    have hvz : vb.size ≤ s.size := by rw [← hvb, ext_size s (by omega)]; omega
                    obtain ⟨u, hu⟩ : ∃ u, unBA vb = u := ⟨_, rfl⟩
                    have HEn := Lib.hid hen
                    have HE := Lib.hid hE
                    have HU := Lib.hid hu
                    have HR3 := Lib.hid (show AttsRel s i (D ++ [⟨nb, u⟩]) E by
                      have h9 := HR2.out
                      rw [HAt.out, HEd.out, attVal_q ha.1 ha.2.1 ha.2.2.1 ha.2.2.2] at h9
                      simp only [hen, hE, hvb, hu] at h9
                      exact h9)
                    have hx1 : (K : Int) + 2 ≤ (en : Int) := by omega
                    have hx2 : (en : Int) ≤ (s.size : Int) := by omega
                    clear hen hE hu ha
                    go_wp2_with (first
                      | (go_at_call 28; go_must (refine (hasPre_q y _ _ _ (by first | with_reducible exact HP1.out | with_reducible exact HP2.out)).mono ?_); rintro e w7 ⟨rfl, rfl⟩)
                      | (go_at_call 87; go_must (refine (upToR_q B s ⟨#[34]⟩ [34] (K + 2) en E _ (by omega) hs (by decide) HM4.out rfl HEn.out HE.out).mono ?_); rintro e w7 ⟨rfl, rfl⟩)
                      | (go_at_call 130; go_must (refine (unR_q vb u _ HU.out (by omega)).mono ?_); rintro e w8 ⟨rfl, hb8⟩; have HS8 := Lib.hid (HS4.out.below hb8 hB4); have HAB8 := Lib.hid (HAB4.out.below hb8); have HS9 := Lib.hid (HS8.out.box HA.out hBab 1 (.string u)); clear hb8; have c0 : w8.cell? ⟨ab, 0, none⟩ = some (.string nb) := HAB8.out.c 0; have c1 : w8.cell? ⟨ab, 1, none⟩ = some (.string ⟨#[]⟩) := HAB8.out.c 1; have c1f := HAB8.out.f 1; have c1s : w8.shape? ab = some (68, 2) := HAB8.out.sh; have c1l : ab < w8.heap.size := HAB8.out.lt)
                      | (at_builtin; go_must (refine wpList_push _ rfl (.tmp 115) (.tmp 117) 54 rfl B 68 _ 2 32 Tryz.underlying54 info_att rfl (by omega) (.slice A D.length c) D.length _ rfl (own_alloc HS9.out.row _) [.string nb, .string u] rfl _ rfl (cell_new _ [.string nb, .string u] 68 _ (by first | rfl | exact (World.size_setCell _ _ _).symm)) (by intro u hu; simp at hu; rcases hu with rfl | rfl <;> rfl) (by omega) (by unfold maxLen; omega) (by have h8 := HS9.out.be.size; rw [World.size_alloc]; omega) ?_)
                         intro g6 k6 w6 own6 hg6 hgg6 hb6
                         have HF6 := Lib.hid (HS9.out.push (a := ⟨nb, u⟩) ((Below.refl _ _).alloc (Nat.le_refl _) (.cells #[.string nb, .string u] 68)) (by have h8 := HS9.out.be.size; omega) own6 hb6)
                         clear own6 hg6 hgg6 hb6))
                    go_roundw
                    case rel => exact ⟨E, D ++ [⟨nb, u⟩], _, _, by go_num, by simp, by omega, by omega, by rw [List.length_append]; simp only [List.length_cons, List.length_nil]; omega, HR3, HF6⟩
                    case measure => simp [intOf]; omega
                  | false =>
                    cases p2 with
                    | true =>
                      have hb : K < s.size ∧ nAt s K = 61 ∧ ¬ (K + 1 < s.size ∧ nAt s (K + 1) = 34) := by
                        have h1 := isAt_lt hp2
                        refine ⟨h1.1, h1.2, fun h2 => ?_⟩
                        rw [hp2, Bool.true_and] at hp1
                        simp [isAt, h2.1, h2.2] at hp1
                      clear hp1 hp2
                      obtain ⟨V, hV⟩ : ∃ V, skipTo valN s (K + 1) = V := ⟨_, rfl⟩
                      have hVl := skip_le (p := valN) (s := s) (i := K + 1) (by omega)
                      rw [hV] at hVl
                      obtain ⟨vb, hvb⟩ : ∃ vb, s.extract (K + 1) V = vb := ⟨_, rfl⟩
                      have hvz : vb.size ≤ s.size := by rw [← hvb, ext_size s (by omega)]; omega
                      obtain ⟨u, hu⟩ : ∃ u, unBA vb = u := ⟨_, rfl⟩
                      have HU := Lib.hid hu
                      have HVv := Lib.hid hV
                      have HR3 := Lib.hid (show AttsRel s i (D ++ [⟨nb, u⟩]) V by
                        have h9 := HR2.out
                        rw [HAt.out, HEd.out, attVal_u hb.1 hb.2.1 hb.2.2] at h9
                        simp only [hV, hvb, hu] at h9
                        exact h9)
                      have HVb := Lib.hid hvb
                      clear hV hu hb hvb
                      go_wp2_with (go_at_call 28; go_must (refine (hasPre_q y _ _ _ (by first | with_reducible exact HP1.out | with_reducible exact HP2.out)).mono ?_); rintro e w7 ⟨rfl, rfl⟩)
                      go_loopw [11] (fun t11 wr => ∃ m : Nat, t11 = .int .i64 (m : Int) ∧ K + 1 ≤ m ∧ m ≤ s.size ∧ Hid (skipTo valN s m = V) ∧ EqW wr W4) (fun t11 _ => s.size - (intOf t11).toNat)
                      case atStart => exact ⟨K + 1, by go_num, Nat.le_refl _, by omega, HVv, EqW.refl _⟩
                      case round =>
                        obtain ⟨m, rfl, hKm, hm, HSm, hww⟩ := hrel
                        unfold EqW at hww
                        subst hww
                        have hm0 : (0 : Int) ≤ (m : Int) := by omega
                        by_cases hgo : m < s.size ∧ valN (nAt s m) = true
                        · have hms := hgo.1
                          have hms' : (m : Int) < (s.size : Int) := by omega
                          obtain ⟨n5, hn5⟩ : ∃ n, nAt s m = n := ⟨_, rfl⟩
                          have e5 : ((s[m]'hms).toNat : Int) = n5 := by rw [bAt_idx hms]; exact hn5
                          have hgz : gapN n5 = false ∧ (n5 == 62) = false := by have h9 := hgo.2; rw [hn5, valN] at h9; revert h9; cases gapN n5 <;> cases (n5 == 62) <;> simp
                          have HGz := Lib.hid hgz.1
                          have z5 := hgz.2
                          have y5 : (n5 != 62) = true := by rw [bne, z5]; rfl
                          have HSm2 := Lib.hid ((skip_in hms hgo.2).symm.trans HSm.out)
                          clear hgo hn5 hgz
                          go_wp2_with (go_at_call 131; go_must (refine (gapR_q n5 _ _ HGz.out).mono ?_); rintro e w7 ⟨rfl, rfl⟩)
                          go_roundw
                          case rel => exact ⟨m + 1, by go_num, by omega, by omega, HSm2, EqW.refl _⟩
                          case measure => simp [intOf]; omega
                        · have HmV := Lib.hid (show m = V by
                            rw [← HSm.out]
                            by_cases h5 : m < s.size
                            · exact (skip_out h5 (by cases h6 : valN (nAt s m); rfl; exact absurd ⟨h5, h6⟩ hgo)).symm
                            · exact (skip_end (by omega)).symm)
                          go_upto_region 15 with fail
                          go_cut [104] from 88 to 106 (fun s104 wx => s104 = .bool false ∧ wx = wr)
                          case first =>
                            by_cases hms : m < s.size
                            · have hms' : (m : Int) < (s.size : Int) := by omega
                              obtain ⟨n5, hn5⟩ : ∃ n, nAt s m = n := ⟨_, rfl⟩
                              have e5 : ((s[m]'hms).toNat : Int) = n5 := by rw [bAt_idx hms]; exact hn5
                              obtain ⟨g, hg⟩ : ∃ a, gapN n5 = a := ⟨_, rfl⟩
                              have HGz := Lib.hid hg
                              cases g with
                              | true =>
                                clear hgo hn5 hg
                                go_wp2_with (go_at_call 131; go_must (refine (gapR_q n5 _ _ HGz.out).mono ?_); rintro e w7 ⟨rfl, rfl⟩)
                                go_meet
                                exact ⟨rfl, rfl⟩
                              | false =>
                                have z5 : (n5 == 62) = true := by
                                  have h9 : ¬ valN n5 = true := fun h6 => hgo ⟨hms, by rw [hn5]; exact h6⟩
                                  rw [valN, hg] at h9
                                  revert h9; cases (n5 == 62) <;> simp
                                have y5 : (n5 != 62) = false := by rw [bne, z5]; rfl
                                clear hgo hn5 hg
                                go_wp2_with (go_at_call 131; go_must (refine (gapR_q n5 _ _ HGz.out).mono ?_); rintro e w7 ⟨rfl, rfl⟩)
                                go_meet
                                exact ⟨rfl, rfl⟩
                            · have hms' : ¬ (m : Int) < (s.size : Int) := by omega
                              go_wp2_with fail
                              go_meet
                              exact ⟨rfl, rfl⟩
                          case rest =>
                            obtain ⟨rfl, rfl⟩ := hcut
                            have hmV := HmV.out
                            subst hmV
                            have hvb := HVb.out
                            have hx1 : (K : Int) + 1 ≤ (m : Int) := by omega
                            have hx2 : (m : Int) ≤ (s.size : Int) := by omega
                            clear hgo HmV
                            go_wp2_with (first
                              | (go_at_call 130; go_must (refine (unR_q vb u _ HU.out (by omega)).mono ?_); rintro e w8 ⟨rfl, hb8⟩; have HS8 := Lib.hid (HS4.out.below hb8 hB4); have HAB8 := Lib.hid (HAB4.out.below hb8); have HS9 := Lib.hid (HS8.out.box HA.out hBab 1 (.string u)); clear hb8; have c0 : w8.cell? ⟨ab, 0, none⟩ = some (.string nb) := HAB8.out.c 0; have c1 : w8.cell? ⟨ab, 1, none⟩ = some (.string ⟨#[]⟩) := HAB8.out.c 1; have c1f := HAB8.out.f 1; have c1s : w8.shape? ab = some (68, 2) := HAB8.out.sh; have c1l : ab < w8.heap.size := HAB8.out.lt)
                              | (at_builtin; go_must (refine wpList_push _ rfl (.tmp 115) (.tmp 117) 54 rfl B 68 _ 2 32 Tryz.underlying54 info_att rfl (by omega) (.slice A D.length c) D.length _ rfl (own_alloc HS9.out.row _) [.string nb, .string u] rfl _ rfl (cell_new _ [.string nb, .string u] 68 _ (by first | rfl | exact (World.size_setCell _ _ _).symm)) (by intro u hu; simp at hu; rcases hu with rfl | rfl <;> rfl) (by omega) (by unfold maxLen; omega) (by have h8 := HS9.out.be.size; rw [World.size_alloc]; omega) ?_)
                                 intro g6 k6 w6 own6 hg6 hgg6 hb6
                                 have HF6 := Lib.hid (HS9.out.push (a := ⟨nb, u⟩) ((Below.refl _ _).alloc (Nat.le_refl _) (.cells #[.string nb, .string u] 68)) (by have h8 := HS9.out.be.size; omega) own6 hb6)
                                 clear own6 hg6 hgg6 hb6))
                            go_roundw
                            case rel => exact ⟨m, D ++ [⟨nb, u⟩], _, _, by go_num, by simp, by omega, by omega, by rw [List.length_append]; simp only [List.length_cons, List.length_nil]; omega, HR3, HF6⟩
                            case measure => simp [intOf]; omega
                    | false =>
                      have hc : ¬ (K < s.size ∧ nAt s K = 61) := fun h2 => by simp [isAt, h2.1, h2.2] at hp2
                      clear hp1 hp2
                      have HR3 := Lib.hid (show AttsRel s i (D ++ [⟨nb, ⟨#[]⟩⟩]) K by
                        have h9 := HR2.out
                        rw [HAt.out, HEd.out, attVal_none hc] at h9
                        exact h9)
                      clear hc
                      have c0 : W4.cell? ⟨ab, 0, none⟩ = some (.string nb) := HAB4.out.c 0
                      have c1 : W4.cell? ⟨ab, 1, none⟩ = some (.string ⟨#[]⟩) := HAB4.out.c 1
                      have c1l : ab < W4.heap.size := HAB4.out.lt
                      go_wp2_with (first
                        | (go_at_call 28; go_must (refine (hasPre_q y _ _ _ (by first | with_reducible exact HP1.out | with_reducible exact HP2.out)).mono ?_); rintro e w7 ⟨rfl, rfl⟩)
                        | (at_builtin; go_must (refine wpList_push _ rfl (.tmp 115) (.tmp 117) 54 rfl B 68 _ 2 32 Tryz.underlying54 info_att rfl (by omega) (.slice A D.length c) D.length _ rfl (own_alloc HS4.out.row _) [.string nb, .string ⟨#[]⟩] rfl _ rfl (cell_new _ [.string nb, .string ⟨#[]⟩] 68 _ (by first | rfl | exact (World.size_setCell _ _ _).symm)) (by intro u hu; simp at hu; rcases hu with rfl | rfl <;> rfl) (by omega) (by unfold maxLen; omega) (by have h8 := HS4.out.be.size; rw [World.size_alloc]; omega) ?_)
                           intro g6 k6 w6 own6 hg6 hgg6 hb6
                           have HF6 := Lib.hid (HS4.out.push (a := ⟨nb, ⟨#[]⟩⟩) ((Below.refl _ _).alloc (Nat.le_refl _) (.cells #[.string nb, .string ⟨#[]⟩] 68)) (by have h8 := HS4.out.be.size; omega) own6 hb6)
                           clear own6 hg6 hgg6 hb6))
                      go_roundw
                      case rel => exact ⟨K, D ++ [⟨nb, ⟨#[]⟩⟩], _, _, by go_num, by simp, by omega, by omega, by rw [List.length_append]; simp only [List.length_cons, List.length_nil]; omega, HR3, HF6⟩
                      case measure => simp [intOf]; omega
    · have hks' : ¬ (k : Int) < (s.size : Int) := by omega
      have HV := Lib.hid (HR.out.stop (Or.inl (by omega)))
      have hke : min (k + 1) s.size = s.size := by omega
      have hmn : min ((k : Int) + 1) (s.size : Int) = ((s.size : Nat) : Int) := by omega
      have HKe := Lib.hid hke
      clear hke
      go_wp2_with fail
      go_ret2
      exact ⟨A, c, by rw [HV.out]; simp only [HKe.out]; first | rfl | (simp only [hmn]) | (simp; omega), by rw [HV.out]; exact HS0.out.row, HS0.out.be⟩

end Go.Proofs.YtbhildmalcfhiaaGreatDoor

namespace Go.Proofs.YtbhildmalcfhiaaGreatDoor
open Go.RowKit Go.Deep

theorem tok_done {fn : Func} {a : Act} {W : World} {Post : Ending → World → Prop} {n : Nat} {cs : Array Value} {code : Int} (hfn : fn.results = #[.cell 4 56, .tmp 5]) (hb : CB W n 56 cs) (hs : cs.size = 5)
    (hp : a.tmps.getD 4 undef = .pointer (some ⟨n, 0, none⟩)) (hc : a.tmps.getD 5 undef = .int .i64 code) (hd : a.defers = []) (h : Post (.returned (.tuple #[.agg cs, .int .i64 code])) W) : bodyPost Tryz.prog fn Post .ret a W := by
  refine bodyPost_ret ?_ hd h
  rw [results_cell_tmp hfn, hp, hc]
  have h2 := run_loadVar_row (P := Tryz.prog) W n 56 56 cs (0, 0) _ hb Tryz.underlying56 rfl (by rw [hs]; kernel_rfl)
  simp [asAddr, h2, Result.andThen]
theorem kd2 {s : ByteArray} {i : Nat} (h : kindAt s i ≠ 1) : decide (kindAt s i = 2) = (isAt s i 60 && (isAt s (i + 1) 33 || isAt s (i + 1) 63)) := by
  unfold kindAt at h ⊢
  revert h
  cases isAt s i 60 <;> cases isAt s (i + 1) 33 <;> cases isAt s (i + 1) 63 <;> cases isAt s (i + 1) 47 <;> cases letAt s (i + 2) <;> cases letAt s (i + 1) <;> cases isAt s (i + 2) 45 <;> cases isAt s (i + 3) 45 <;> decide
theorem kd3 {s : ByteArray} {i : Nat} (h33 : (isAt s i 60 && isAt s (i + 1) 33) = false) (h63 : (isAt s i 60 && isAt s (i + 1) 63) = false) : decide (kindAt s i = 3) = ((isAt s i 60 && isAt s (i + 1) 47) && letAt s (i + 2)) := by
  unfold kindAt
  cases h0 : isAt s i 60
  · rfl
  · rw [h0, Bool.true_and] at h33 h63
    rw [h33, h63]
    cases isAt s (i + 1) 47 <;> cases letAt s (i + 2) <;> cases letAt s (i + 1) <;> rfl
theorem kd4 {s : ByteArray} {i : Nat} (h33 : (isAt s i 60 && isAt s (i + 1) 33) = false) (h63 : (isAt s i 60 && isAt s (i + 1) 63) = false) (h3 : kindAt s i ≠ 3) : decide (kindAt s i = 4) = (isAt s i 60 && letAt s (i + 1)) := by
  have h47 : isAt s (i + 1) 47 = true → letAt s (i + 1) = false := fun h => by
    have := (isAt_lt h).2
    simp [letAt, this, isLetterP]
  unfold kindAt at h3 ⊢
  cases h0 : isAt s i 60
  · rfl
  · rw [h0, Bool.true_and] at h33 h63
    rw [h0, h33, h63] at h3
    rw [h33, h63]
    cases h5 : isAt s (i + 1) 47
    · cases letAt s (i + 1) <;> rfl
    · rw [h47 h5]
      rw [h5] at h3
      cases h6 : letAt s (i + 2)
      · rfl
      · rw [h6] at h3; exact absurd rfl h3
theorem pre_two (s : ByteArray) (i : Nat) (c d : UInt8) : Lib.hasPrefix (s.extract i s.size).data.toList [c, d] = (isAt s i (c.toNat : Int) && isAt s (i + 1) (d.toNat : Int)) := by
  rw [pre_cons, pre_cons, pre_nil, Bool.and_true]
theorem own_ne_cb {w : World} {B K n b : Nat} {e t : TypeId} {v : Value} {xs : List Value} {cs : Array Value} (h : w.ownsRow B e K v n xs) (hc : CB w b t cs) (ht : t ≠ e) : v.ownBlock ≠ some b := by
  intro e'
  rcases h.2 with ⟨h1, _⟩ | ⟨g, cap, cur, h1, _, hg, _⟩
  · rw [h1] at e'; cases e'
  · rw [h1] at e'
    simp only [Value.ownBlock, Option.some.injEq] at e'
    subst e'
    rw [show w.heap[g]? = _ from hc] at hg
    simp at hg
    exact ht hg.2
theorem ext_two {s : ByteArray} {i : Nat} (h : i + 2 ≤ s.size) : (s.extract i s.size).extract 0 2 = s.extract i (i + 2) := by
  apply Go.WideShapes.bytes_inj
  have h1 : ∀ (z : ByteArray) (a b : Nat), (z.extract a b).data.toList = (z.data.toList.drop a).take (b - a) := fun z a b => by
    rw [ByteArray.data_extract, Array.toList_extract]
  rw [h1, h1, h1, List.drop_zero, List.take_take]
  congr 1
  omega
def TokAtR (B : Nat) (s : ByteArray) (i : Nat) (w : World) (e : Ending) (w' : World) : Prop :=
  ∃ x : TokR × Value, e = .returned (.tuple #[.agg (tokRow x).toArray, .int .i64 ((tokAt s i).2 : Int)]) ∧ x.1 = (tokAt s i).1 ∧ w'.ownsRow B 68 2 x.2 x.1.atts.length (attCells x.1.atts) ∧ Below B w w'
theorem MaxT.up {B C : Nat} {w : World} (h : MaxT B w) (hc : B ≤ C) : MaxT C w := ⟨Nat.lt_of_lt_of_le h.1 hc, h.2⟩
theorem TokAtR.mk {B : Nat} {s : ByteArray} {i nx : Nat} {w w' : World} {x : TokR × Value} (h : tokAt s i = (x.1, nx)) (ho : w'.ownsRow B 68 2 x.2 x.1.atts.length (attCells x.1.atts)) (hb : Below B w w') : TokAtR B s i w (.returned (.tuple #[.agg (tokRow x).toArray, .int .i64 (nx : Int)])) w' :=
  ⟨x, by rw [h], by rw [h], ho, hb⟩

set_option maxRecDepth 100000 in
set_option maxHeartbeats 40000000 in
theorem tokAt_q (B : Nat) (s : ByteArray) (i : Nat) (w : World) (hB : B ≤ w.heap.size) (hi : i < s.size) (hs : s.size ≤ 1048576) (hm : MaxT B w) :
    Calls Tryz.prog 50 #[.string s, .int .i64 (i : Int)] w (TokAtR B s i w) := by
  have HM := Lib.hid hm; clear hm
  have hi0 : (0 : Int) ≤ (i : Int) := by omega
  have hi1 : (i : Int) ≤ (s.size : Int) := by omega
  obtain ⟨y, hy⟩ : ∃ y, s.extract i s.size = y := ⟨_, rfl⟩
  have hyz : y.size = s.size - i := by rw [← hy]; exact ext_size s (Nat.le_refl _)
  have HPc := Lib.hid (show Lib.hasPrefix y.data.toList (⟨#[60, 33, 45, 45]⟩ : ByteArray).data.toList = decide (kindAt s i = 1) by rw [← hy]; exact pre_com s i)
  have HPx := Lib.hid (show Lib.hasPrefix y.data.toList (⟨#[60, 33]⟩ : ByteArray).data.toList = (isAt s i 60 && isAt s (i + 1) 33) by rw [← hy]; exact pre_two s i 60 33)
  have HPq := Lib.hid (show Lib.hasPrefix y.data.toList (⟨#[60, 63]⟩ : ByteArray).data.toList = (isAt s i 60 && isAt s (i + 1) 63) by rw [← hy]; exact pre_two s i 60 63)
  have HYz := Lib.hid hyz
  clear hyz
  go_enter Tryz.func50, Tryz.ntmps50
  go_wp2_with fail
  try rw [hy]
  obtain ⟨W0, hW⟩ : ∃ W, w.alloc (.cells #[.int .i64 0, .int .i64 0, .string ⟨#[]⟩, .string ⟨#[]⟩, .slice none 0 0] 56) = W := ⟨_, rfl⟩
  obtain ⟨n, hn⟩ : ∃ n, w.heap.size = n := ⟨_, rfl⟩
  have HZ := Lib.hid (show CB W0 n 56 #[.int .i64 0, .int .i64 0, .string ⟨#[]⟩, .string ⟨#[]⟩, .slice none 0 0] by rw [← hW, ← hn]; exact CB.new _ _ _)
  have HB0 := Lib.hid (show Below B w W0 by rw [← hW]; exact (Below.refl _ _).alloc hB _)
  have hBn : B ≤ n := by omega
  have HM0 := Lib.hid (HM.out.keep HB0.out)
  try rw [hW]
  try rw [hn]
  clear hW hn
  have r0 : W0.cell? ⟨n, 0, none⟩ = some (.int .i64 0) := HZ.out.c 0
  have r1 : W0.cell? ⟨n, 1, none⟩ = some (.int .i64 0) := HZ.out.c 1
  have r2 : W0.cell? ⟨n, 2, none⟩ = some (.string ⟨#[]⟩) := HZ.out.c 2
  have r3 : W0.cell? ⟨n, 3, none⟩ = some (.string ⟨#[]⟩) := HZ.out.c 3
  have r4 : W0.cell? ⟨n, 4, none⟩ = some (.slice none 0 0) := HZ.out.c 4
  have g0 := HZ.out.f 0
  have g1 := HZ.out.f 1
  have g2 := HZ.out.f 2
  have g3 := HZ.out.f 3
  have g4 := HZ.out.f 4
  have gsh : W0.shape? n = some (56, 5) := HZ.out.sh
  have gl : n < W0.heap.size := HZ.out.lt
  by_cases hk1 : kindAt s i = 1
  · have hkd := hk1
    have hk4 : i + 4 ≤ s.size := by
      have h3 := pre_com s i
      rw [hkd] at h3
      have h4 := prefix_len h3
      rw [size_toList, ext_size s (Nat.le_refl _)] at h4
      simp at h4
      omega
    have HPc := Lib.hid (HPc.out.trans (decide_eq_true hk1))
    clear hk1
    have hle := upE_le (s := s) (i := i + 4) (t := [45, 45, 62]) (by omega)
    obtain ⟨en, hen⟩ : ∃ en, upE s (i + 4) [45, 45, 62] = en := ⟨_, rfl⟩
    obtain ⟨nx, hnx⟩ : ∃ nx, upN s (i + 4) [45, 45, 62] = nx := ⟨_, rfl⟩
    rw [hen, hnx] at hle
    have HEn := Lib.hid hen
    have HNx := Lib.hid hnx
    have HTk := Lib.hid (show tokAt s i = (⟨4, i, ⟨#[]⟩, s.extract (i + 4) en, []⟩, nx) by simp only [tokAt, hkd, hen, hnx])
    have hx1 : (i : Int) + 4 ≤ (en : Int) := by omega
    have hx2 : (en : Int) ≤ (s.size : Int) := by omega
    clear hen hnx hkd
    go_wp2_with (first
      | (go_at_call 28; go_must (refine (hasPre_q y _ _ _ (by first | with_reducible exact HPc.out | with_reducible exact HPx.out | with_reducible exact HPq.out)).mono ?_); rintro e w7 ⟨rfl, rfl⟩)
      | (go_at_call 87; go_must (refine (upToR_q B s ⟨#[45, 45, 62]⟩ [45, 45, 62] (i + 4) en nx _ (by omega) hs (by decide) HM0.out rfl HEn.out HNx.out).mono ?_); rintro e w7 ⟨rfl, rfl⟩))
    refine tok_done rfl (((((HZ.out.put 0 _).put 1 _).put 2 _).put 3 _).put 4 _) rfl rfl rfl rfl ?_
    exact TokAtR.mk (x := (⟨4, i, ⟨#[]⟩, s.extract (i + 4) en, []⟩, .slice none 0 0)) HTk.out (World.ownsRow_nil _ _ _ _) (((((HB0.out.setCell (p := ⟨_, 0, none⟩) hBn _).setCell (p := ⟨_, 1, none⟩) hBn _).setCell (p := ⟨_, 2, none⟩) hBn _).setCell (p := ⟨_, 3, none⟩) hBn _).setCell (p := ⟨_, 4, none⟩) hBn _)
  · have HPc := Lib.hid (HPc.out.trans (decide_eq_false hk1))
    obtain ⟨b33, h33⟩ : ∃ b, (isAt s i 60 && isAt s (i + 1) 33) = b := ⟨_, rfl⟩
    obtain ⟨b63, h63⟩ : ∃ b, (isAt s i 60 && isAt s (i + 1) 63) = b := ⟨_, rfl⟩
    rw [h33] at HPx
    rw [h63] at HPq
    have hkd2 := kd2 hk1
    cases b33 with
    | true =>
      have hkd : kindAt s i = 2 := of_decide_eq_true (by rw [hkd2]; revert h33; cases isAt s i 60 <;> cases isAt s (i + 1) 33 <;> simp)
      have hk4 : i + 2 ≤ s.size := by rw [Bool.and_eq_true] at h33; have := (isAt_lt h33.2).1; omega
      clear hk1 h33 h63 hkd2
      have hle := upE_le (s := s) (i := i + 2) (t := [62]) (by omega)
      obtain ⟨en, hen⟩ : ∃ en, upE s (i + 2) [62] = en := ⟨_, rfl⟩
      obtain ⟨nx, hnx⟩ : ∃ nx, upN s (i + 2) [62] = nx := ⟨_, rfl⟩
      rw [hen, hnx] at hle
      have HEn := Lib.hid hen
      have HNx := Lib.hid hnx
      have HTk := Lib.hid (show tokAt s i = (⟨5, i, ⟨#[]⟩, s.extract (i + 2) en, []⟩, nx) by simp only [tokAt, hkd, hen, hnx])
      have hx1 : (i : Int) + 2 ≤ (en : Int) := by omega
      have hx2 : (en : Int) ≤ (s.size : Int) := by omega
      clear hen hnx hkd
      go_wp2_with (first
        | (go_at_call 28; go_must (refine (hasPre_q y _ _ _ (by first | with_reducible exact HPc.out | with_reducible exact HPx.out | with_reducible exact HPq.out)).mono ?_); rintro e w7 ⟨rfl, rfl⟩)
        | (go_at_call 87; go_must (refine (upToR_q B s ⟨#[62]⟩ [62] (i + 2) en nx _ (by omega) hs (by decide) HM0.out rfl HEn.out HNx.out).mono ?_); rintro e w7 ⟨rfl, rfl⟩))
      refine tok_done rfl (((((HZ.out.put 0 _).put 1 _).put 2 _).put 3 _).put 4 _) rfl rfl rfl rfl ?_
      exact TokAtR.mk (x := (⟨5, i, ⟨#[]⟩, s.extract (i + 2) en, []⟩, .slice none 0 0)) HTk.out (World.ownsRow_nil _ _ _ _) (((((HB0.out.setCell (p := ⟨_, 0, none⟩) hBn _).setCell (p := ⟨_, 1, none⟩) hBn _).setCell (p := ⟨_, 2, none⟩) hBn _).setCell (p := ⟨_, 3, none⟩) hBn _).setCell (p := ⟨_, 4, none⟩) hBn _)
    | false =>
      cases b63 with
      | true =>
        have hkd : kindAt s i = 2 := of_decide_eq_true (by rw [hkd2]; revert h63; cases isAt s i 60 <;> cases isAt s (i + 1) 63 <;> simp)
        have hk4 : i + 2 ≤ s.size := by rw [Bool.and_eq_true] at h63; have := (isAt_lt h63.2).1; omega
        clear hk1 h33 h63 hkd2
        have hle := upE_le (s := s) (i := i + 2) (t := [62]) (by omega)
        obtain ⟨en, hen⟩ : ∃ en, upE s (i + 2) [62] = en := ⟨_, rfl⟩
        obtain ⟨nx, hnx⟩ : ∃ nx, upN s (i + 2) [62] = nx := ⟨_, rfl⟩
        rw [hen, hnx] at hle
        have HEn := Lib.hid hen
        have HNx := Lib.hid hnx
        have HTk := Lib.hid (show tokAt s i = (⟨5, i, ⟨#[]⟩, s.extract (i + 2) en, []⟩, nx) by simp only [tokAt, hkd, hen, hnx])
        have hx1 : (i : Int) + 2 ≤ (en : Int) := by omega
        have hx2 : (en : Int) ≤ (s.size : Int) := by omega
        clear hen hnx hkd
        go_wp2_with (first
          | (go_at_call 28; go_must (refine (hasPre_q y _ _ _ (by first | with_reducible exact HPc.out | with_reducible exact HPx.out | with_reducible exact HPq.out)).mono ?_); rintro e w7 ⟨rfl, rfl⟩)
          | (go_at_call 87; go_must (refine (upToR_q B s ⟨#[62]⟩ [62] (i + 2) en nx _ (by omega) hs (by decide) HM0.out rfl HEn.out HNx.out).mono ?_); rintro e w7 ⟨rfl, rfl⟩))
        refine tok_done rfl (((((HZ.out.put 0 _).put 1 _).put 2 _).put 3 _).put 4 _) rfl rfl rfl rfl ?_
        exact TokAtR.mk (x := (⟨5, i, ⟨#[]⟩, s.extract (i + 2) en, []⟩, .slice none 0 0)) HTk.out (World.ownsRow_nil _ _ _ _) (((((HB0.out.setCell (p := ⟨_, 0, none⟩) hBn _).setCell (p := ⟨_, 1, none⟩) hBn _).setCell (p := ⟨_, 2, none⟩) hBn _).setCell (p := ⟨_, 3, none⟩) hBn _).setCell (p := ⟨_, 4, none⟩) hBn _)
      | false =>
        have hk2 : kindAt s i ≠ 2 := of_decide_eq_false (by rw [hkd2]; revert h33 h63; cases isAt s i 60 <;> cases isAt s (i + 1) 33 <;> cases isAt s (i + 1) 63 <;> simp)
        have hd3 := kd3 h33 h63
        have hd4 := fun h3 => kd4 h33 h63 h3
        clear h33 h63 hkd2
        obtain ⟨v3, hv3⟩ : ∃ v, decide (kindAt s i = 3) = v := ⟨_, rfl⟩
        rw [hv3] at hd3
        have HD3 := Lib.hid hd3
        clear hd3
        go_upto_region 8 with (go_at_call 28; go_must (refine (hasPre_q y _ _ _ (by first | with_reducible exact HPc.out | with_reducible exact HPx.out | with_reducible exact HPq.out)).mono ?_); rintro e w7 ⟨rfl, rfl⟩)
        go_cut [60] from 17 (fun s60 wx => s60 = .bool v3 ∧ wx = W0)
        case first =>
          by_cases h2 : 2 < y.size
          · have h2' : (2 : Int) < (y.size : Int) := by omega
            have hi2 : i + 2 < s.size := by have := HYz.out; omega
            obtain ⟨y2, hy2⟩ : ∃ z, y.extract 0 2 = z := ⟨_, rfl⟩
            obtain ⟨q, hq⟩ : ∃ q, (y2.toList == [60, 47]) = q := ⟨_, rfl⟩
            have hqq : (isAt s i 60 && isAt s (i + 1) 47) = q := by rw [← two_bytes (by omega), ← ext_two (by omega), hy, hy2, hq]
            obtain ⟨n2, hn2⟩ : ∃ n, nAt s (i + 2) = n := ⟨_, rfl⟩
            have ey2 : ((y[2]'h2).toNat : Int) = n2 := by
              rw [bAt_idx h2, ← hn2]
              unfold nAt
              congr 1
              rw [← hy, bAt, bAt, drop_list, List.getD_eq_getElem?_getD, List.getD_eq_getElem?_getD, List.getElem?_drop]
            obtain ⟨l2, hl2⟩ : ∃ l, isLetterP n2 = l := ⟨_, rfl⟩
            have HL2 := Lib.hid hl2
            have HV := Lib.hid (show v3 = (q && l2) by rw [HD3.out, hqq, letAt, decide_eq_true hi2, hn2, hl2, Bool.true_and])
            clear hv3 hqq hn2 hl2
            cases q with
            | false =>
              go_wp2_with fail
              go_meet
              exact ⟨by rw [HV.out]; rfl, rfl⟩
            | true =>
              go_wp2_with (go_at_call 88; go_must (refine (refIsLetter_any n2 _ _ HL2.out).mono ?_); rintro e w7 ⟨rfl, rfl⟩)
              go_meet
              exact ⟨by rw [HV.out]; simp, rfl⟩
          · have h2' : ¬ (2 : Int) < (y.size : Int) := by omega
            have HV := Lib.hid (show v3 = false by rw [HD3.out, letAt, decide_eq_false (by have := HYz.out; omega), Bool.false_and, Bool.and_false])
            clear hv3
            go_wp2_with fail
            go_meet
            exact ⟨by rw [HV.out], rfl⟩
        case rest =>
          obtain ⟨rfl, rfl⟩ := hcut
          cases v3 with
          | true =>
            have hkd : kindAt s i = 3 := of_decide_eq_true hv3
            have hk4 : i + 2 ≤ s.size := by
              have h9 := HD3.out.symm
              rw [Bool.and_eq_true] at h9
              have := (letAt_lt h9.2).1
              omega
            clear hv3 hk1 hk2 hd4
            have hKl := skip_le (p := tagN) (s := s) (i := i + 2) (by omega)
            obtain ⟨K, hK⟩ : ∃ K, skipTo tagN s (i + 2) = K := ⟨_, rfl⟩
            obtain ⟨nm, hnm⟩ : ∃ nm, lowBA (s.extract (i + 2) K) = nm := ⟨_, rfl⟩
            rw [hK] at hKl
            have HNm := Lib.hid hnm
            obtain ⟨en, hen⟩ : ∃ en, upE s K [62] = en := ⟨_, rfl⟩
            obtain ⟨nx, hnx⟩ : ∃ nx, upN s K [62] = nx := ⟨_, rfl⟩
            have HEn := Lib.hid hen
            have HNx := Lib.hid hnx
            have HTk := Lib.hid (show tokAt s i = (⟨3, i, nm, ⟨#[]⟩, []⟩, nx) by simp only [tokAt, hkd, hK, hnm, hnx])
            have HK := Lib.hid hK
            clear hen hnx hK hnm hkd
            go_wp2_with (go_at_call 28; go_must (refine (hasPre_q y _ _ _ (by first | with_reducible exact HPc.out | with_reducible exact HPx.out | with_reducible exact HPq.out)).mono ?_); rintro e w7 ⟨rfl, rfl⟩)
            go_loopw [11] (fun t11 wr => ∃ m : Nat, t11 = .int .i64 (m : Int) ∧ i + 2 ≤ m ∧ m ≤ s.size ∧ Hid (skipTo tagN s m = K) ∧ EqW wr wc) (fun t11 _ => s.size - (intOf t11).toNat)
            case atStart => exact ⟨i + 2, by go_num, Nat.le_refl _, by omega, HK, EqW.refl _⟩
            case round =>
              obtain ⟨m, rfl, hkm, hm, HSm, hww⟩ := hrel
              unfold EqW at hww
              subst hww
              have hm0 : (0 : Int) ≤ (m : Int) := by omega
              by_cases hgo : m < s.size ∧ tagN (nAt s m) = true
              · have hms := hgo.1
                have hms' : (m : Int) < (s.size : Int) := by omega
                obtain ⟨n5, hn5⟩ : ∃ n, nAt s m = n := ⟨_, rfl⟩
                have e5 : ((s[m]'hms).toNat : Int) = n5 := by rw [bAt_idx hms]; exact hn5
                have HGz := Lib.hid (show tagN n5 = true by rw [← hn5]; exact hgo.2)
                have HSm2 := Lib.hid ((skip_in hms hgo.2).symm.trans HSm.out)
                clear hgo hn5
                go_wp2_with (go_at_call 89; go_must (refine (tagR_q n5 _ _ HGz.out).mono ?_); rintro e w7 ⟨rfl, rfl⟩)
                go_roundw
                case rel => exact ⟨m + 1, by go_num, by omega, by omega, HSm2, EqW.refl _⟩
                case measure => simp [intOf]; omega
              · have HmV := Lib.hid (show m = K by
                  rw [← HSm.out]
                  by_cases h5 : m < s.size
                  · exact (skip_out h5 (by cases h6 : tagN (nAt s m); rfl; exact absurd ⟨h5, h6⟩ hgo)).symm
                  · exact (skip_end (by omega)).symm)
                go_upto_region 10 with fail
                go_cut [85] from 76 to 87 (fun s85 wx => s85 = .bool false ∧ wx = wr)
                case first =>
                  by_cases hms : m < s.size
                  · have hms' : (m : Int) < (s.size : Int) := by omega
                    obtain ⟨n5, hn5⟩ : ∃ n, nAt s m = n := ⟨_, rfl⟩
                    have e5 : ((s[m]'hms).toNat : Int) = n5 := by rw [bAt_idx hms]; exact hn5
                    have HGz := Lib.hid (show tagN n5 = false by rw [← hn5]; cases h6 : tagN (nAt s m); rfl; exact absurd ⟨hms, h6⟩ hgo)
                    clear hgo hn5
                    go_wp2_with (go_at_call 89; go_must (refine (tagR_q n5 _ _ HGz.out).mono ?_); rintro e w7 ⟨rfl, rfl⟩)
                    go_meet
                    exact ⟨rfl, rfl⟩
                  · have hms' : ¬ (m : Int) < (s.size : Int) := by omega
                    go_wp2_with fail
                    go_meet
                    exact ⟨rfl, rfl⟩
                case rest =>
                  obtain ⟨rfl, rfl⟩ := hcut
                  have hmV := HmV.out.symm
                  subst hmV
                  have hx1 : (i : Int) + 2 ≤ (K : Int) := by omega
                  have hx2 : (K : Int) ≤ (s.size : Int) := by omega
                  clear hgo HmV HSm HK
                  go_wp2_with (first
                    | (go_at_call 87; go_must (refine (upToR_q B s ⟨#[62]⟩ [62] K en nx _ (by omega) hs (by decide) HM0.out rfl HEn.out HNx.out).mono ?_); rintro e w7 ⟨rfl, rfl⟩)
                    | (go_at_call 90; go_must (refine (lowerR_q _ nm _ (by rw [ext_size s (by omega)]; omega) HNm.out).mono ?_); rintro e w5 ⟨rfl, hb5⟩; have HZ5 := Lib.hid (HZ.out.below hb5); have HB5 := Lib.hid (HB0.out.trans (hb5.mono (by have := HZ.out.lt; omega))); clear hb5; have q0 : w5.cell? ⟨n, 0, none⟩ = some (.int .i64 0) := HZ5.out.c 0; have q1 : w5.cell? ⟨n, 1, none⟩ = some (.int .i64 0) := HZ5.out.c 1; have q2 : w5.cell? ⟨n, 2, none⟩ = some (.string ⟨#[]⟩) := HZ5.out.c 2; have q3 : w5.cell? ⟨n, 3, none⟩ = some (.string ⟨#[]⟩) := HZ5.out.c 3; have q4 : w5.cell? ⟨n, 4, none⟩ = some (.slice none 0 0) := HZ5.out.c 4; have p0 := HZ5.out.f 0; have p1 := HZ5.out.f 1; have p2 := HZ5.out.f 2; have p3 := HZ5.out.f 3; have p4 := HZ5.out.f 4; have psh : w5.shape? n = some (56, 5) := HZ5.out.sh; have pl : n < w5.heap.size := HZ5.out.lt))
                  refine tok_done rfl (((((HZ5.out.put 0 _).put 1 _).put 2 _).put 3 _).put 4 _) rfl rfl rfl rfl ?_
                  exact TokAtR.mk (x := (⟨3, i, nm, ⟨#[]⟩, []⟩, .slice none 0 0)) HTk.out (World.ownsRow_nil _ _ _ _) (((((HB5.out.setCell (p := ⟨_, 0, none⟩) hBn _).setCell (p := ⟨_, 1, none⟩) hBn _).setCell (p := ⟨_, 2, none⟩) hBn _).setCell (p := ⟨_, 3, none⟩) hBn _).setCell (p := ⟨_, 4, none⟩) hBn _)
          | false =>
            have hk3 : kindAt s i ≠ 3 := of_decide_eq_false hv3
            have hd4 := hd4 hk3
            obtain ⟨v4, hv4⟩ : ∃ v, decide (kindAt s i = 4) = v := ⟨_, rfl⟩
            rw [hv4] at hd4
            have HD4 := Lib.hid hd4
            clear hd4 hv3
            go_upto_region 14 with fail
            go_cut [103] from 17 (fun s103 wx => s103 = .bool v4 ∧ wx = wc)
            case first =>
              have hy0 : 0 < y.size := by have := HYz.out; omega
              obtain ⟨n0, hn0⟩ : ∃ n, nAt s i = n := ⟨_, rfl⟩
              have ey0 : ((y[0]'hy0).toNat : Int) = n0 := by
                rw [bAt_idx hy0, ← hn0]
                unfold nAt
                congr 1
                rw [← hy, bAt, bAt, drop_list, List.getD_eq_getElem?_getD, List.getD_eq_getElem?_getD, List.getElem?_drop]
                rfl
              obtain ⟨q, hq⟩ : ∃ q, (n0 == 60) = q := ⟨_, rfl⟩
              have hqq : isAt s i 60 = q := by rw [isAt, decide_eq_true hi, hn0, Bool.true_and, ← hq]; rw [Bool.eq_iff_iff, decide_eq_true_eq, beq_iff_eq]
              by_cases h2 : 1 < y.size
              · have h2' : (1 : Int) < (y.size : Int) := by omega
                have hi2 : i + 1 < s.size := by have := HYz.out; omega
                obtain ⟨n2, hn2⟩ : ∃ n, nAt s (i + 1) = n := ⟨_, rfl⟩
                have ey2 : ((y[1]'h2).toNat : Int) = n2 := by
                  rw [bAt_idx h2, ← hn2]
                  unfold nAt
                  congr 1
                  rw [← hy, bAt, bAt, drop_list, List.getD_eq_getElem?_getD, List.getD_eq_getElem?_getD, List.getElem?_drop]
                obtain ⟨l2, hl2⟩ : ∃ l, isLetterP n2 = l := ⟨_, rfl⟩
                have HL2 := Lib.hid hl2
                have HV := Lib.hid (show v4 = (q && l2) by rw [HD4.out, hqq, letAt, decide_eq_true hi2, hn2, hl2, Bool.true_and])
                clear hv4 hqq hn2 hl2 hn0
                cases q with
                | false =>
                  go_wp2_with fail
                  go_meet
                  exact ⟨by rw [HV.out]; first | rfl | simp_all, rfl⟩
                | true =>
                  go_wp2_with (go_at_call 88; go_must (refine (refIsLetter_any n2 _ _ HL2.out).mono ?_); rintro e w7 ⟨rfl, rfl⟩)
                  go_meet
                  exact ⟨by rw [HV.out]; simp, rfl⟩
              · have h2' : ¬ (1 : Int) < (y.size : Int) := by omega
                have HV := Lib.hid (show v4 = false by rw [HD4.out, letAt, decide_eq_false (by have := HYz.out; omega), Bool.false_and, Bool.and_false])
                clear hv4 hqq hn0
                go_wp2_with fail
                go_meet
                exact ⟨by rw [HV.out], rfl⟩
            case rest =>
              obtain ⟨rfl, rfl⟩ := hcut
              cases v4 with
              | true =>
                have hkd : kindAt s i = 4 := of_decide_eq_true hv4
                have hk4 : i + 1 < s.size := by
                  have h9 := HD4.out.symm
                  rw [Bool.and_eq_true] at h9
                  exact (letAt_lt h9.2).1
                clear hv4 hk1 hk2 hk3
                have hKl := skip_le (p := tagN) (s := s) (i := i + 1) (by omega)
                obtain ⟨K, hK⟩ : ∃ K, skipTo tagN s (i + 1) = K := ⟨_, rfl⟩
                obtain ⟨nm, hnm⟩ : ∃ nm, lowBA (s.extract (i + 1) K) = nm := ⟨_, rfl⟩
                rw [hK] at hKl
                have HNm := Lib.hid hnm
                obtain ⟨D, j, hat⟩ : ∃ D j, attsV s K = (D, j) := ⟨_, _, rfl⟩
                obtain ⟨m', hm1⟩ : ∃ m, min (j + 1) s.size = m := ⟨_, rfl⟩
                have HAt := Lib.hid hat
                have HMi := Lib.hid hm1
                have HTk := Lib.hid (show tokAt s i = (⟨2, i, nm, ⟨#[]⟩, D⟩, m') by simp only [tokAt, hkd, hK, hnm, hat, hm1])
                have HK := Lib.hid hK
                clear hat hm1 hK hnm hkd
                go_wp2_with (go_at_call 28; go_must (refine (hasPre_q y _ _ _ (by first | with_reducible exact HPc.out | with_reducible exact HPx.out | with_reducible exact HPq.out)).mono ?_); rintro e w7 ⟨rfl, rfl⟩)
                go_loopw [14] (fun t14 wr => ∃ m : Nat, t14 = .int .i64 (m : Int) ∧ i + 1 ≤ m ∧ m ≤ s.size ∧ Hid (skipTo tagN s m = K) ∧ EqW wr wc) (fun t14 _ => s.size - (intOf t14).toNat)
                case atStart => exact ⟨i + 1, by go_num, Nat.le_refl _, by omega, HK, EqW.refl _⟩
                case round =>
                  obtain ⟨m, rfl, hkm, hm, HSm, hww⟩ := hrel
                  unfold EqW at hww
                  subst hww
                  have hm0 : (0 : Int) ≤ (m : Int) := by omega
                  by_cases hgo : m < s.size ∧ tagN (nAt s m) = true
                  · have hms := hgo.1
                    have hms' : (m : Int) < (s.size : Int) := by omega
                    obtain ⟨n5, hn5⟩ : ∃ n, nAt s m = n := ⟨_, rfl⟩
                    have e5 : ((s[m]'hms).toNat : Int) = n5 := by rw [bAt_idx hms]; exact hn5
                    have HGz := Lib.hid (show tagN n5 = true by rw [← hn5]; exact hgo.2)
                    have HSm2 := Lib.hid ((skip_in hms hgo.2).symm.trans HSm.out)
                    clear hgo hn5
                    go_wp2_with (go_at_call 89; go_must (refine (tagR_q n5 _ _ HGz.out).mono ?_); rintro e w7 ⟨rfl, rfl⟩)
                    go_roundw
                    case rel => exact ⟨m + 1, by go_num, by omega, by omega, HSm2, EqW.refl _⟩
                    case measure => simp [intOf]; omega
                  · have HmV := Lib.hid (show m = K by
                      rw [← HSm.out]
                      by_cases h5 : m < s.size
                      · exact (skip_out h5 (by cases h6 : tagN (nAt s m); rfl; exact absurd ⟨h5, h6⟩ hgo)).symm
                      · exact (skip_end (by omega)).symm)
                    go_upto_region 16 with fail
                    go_cut [128] from 119 to 130 (fun s128 wx => s128 = .bool false ∧ wx = wr)
                    case first =>
                      by_cases hms : m < s.size
                      · have hms' : (m : Int) < (s.size : Int) := by omega
                        obtain ⟨n5, hn5⟩ : ∃ n, nAt s m = n := ⟨_, rfl⟩
                        have e5 : ((s[m]'hms).toNat : Int) = n5 := by rw [bAt_idx hms]; exact hn5
                        have HGz := Lib.hid (show tagN n5 = false by rw [← hn5]; cases h6 : tagN (nAt s m); rfl; exact absurd ⟨hms, h6⟩ hgo)
                        clear hgo hn5
                        go_wp2_with (go_at_call 89; go_must (refine (tagR_q n5 _ _ HGz.out).mono ?_); rintro e w7 ⟨rfl, rfl⟩)
                        go_meet
                        exact ⟨rfl, rfl⟩
                      · have hms' : ¬ (m : Int) < (s.size : Int) := by omega
                        go_wp2_with fail
                        go_meet
                        exact ⟨rfl, rfl⟩
                    case rest =>
                      obtain ⟨rfl, rfl⟩ := hcut
                      have hmV := HmV.out.symm
                      subst hmV
                      have hx1 : (i : Int) + 1 ≤ (K : Int) := by omega
                      have hx2 : (K : Int) ≤ (s.size : Int) := by omega
                      clear hgo HmV HSm HK
                      go_wp2_with (go_at_call 90; go_must (refine (lowerR_q _ nm _ (by rw [ext_size s (by omega)]; omega) HNm.out).mono ?_); rintro e w5 ⟨rfl, hb5⟩; have HZ5 := Lib.hid (HZ.out.below hb5); have HB5 := Lib.hid (HB0.out.trans (hb5.mono (by have := HZ.out.lt; omega))); clear hb5; skip)
                      obtain ⟨tb, htb⟩ : ∃ tb, w5.heap.size = tb := ⟨_, rfl⟩
                      obtain ⟨W6, hW⟩ : ∃ W, w5.alloc (.cells #[.int .i64 2, .int .i64 (i : Int), .string nm, .string ⟨#[]⟩, .slice none 0 0] 56) = W := ⟨_, rfl⟩
                      have HT6 := Lib.hid (show CB W6 tb 56 #[.int .i64 2, .int .i64 (i : Int), .string nm, .string ⟨#[]⟩, .slice none 0 0] by rw [← hW, ← htb]; exact CB.new _ _ _)
                      have HZ6 := Lib.hid (show CB W6 n 56 #[.int .i64 0, .int .i64 0, .string ⟨#[]⟩, .string ⟨#[]⟩, .slice none 0 0] by rw [← hW]; exact HZ5.out.alloc _)
                      have hnt : n < tb := by rw [← htb]; exact HZ5.out.lt
                      have HB6 := Lib.hid (show Below B w W6 by rw [← hW]; exact HB5.out.alloc (by omega) _)
                      have HM6 := Lib.hid (HM.out.keep HB6.out)
                      have hB6 : B ≤ W6.heap.size := by have := HZ6.out.lt; omega
                      try rw [hW]
                      try rw [htb]
                      clear hW htb
                      refine (attsR_q W6.heap.size s K W6 (Nat.le_refl _) (by omega) hs (HM6.out.up hB6)).mono ?_
                      rintro e w7 ⟨A, c, rfl, hrow, hb7⟩
                      rw [HAt.out] at hrow ⊢
                      simp only at hrow
                      simp only [HMi.out]
                      have HR7 := Lib.hid hrow
                      have HZ7 := Lib.hid (HZ6.out.below hb7)
                      have HT7 := Lib.hid (HT6.out.below hb7)
                      have HB7 := Lib.hid (HB6.out.trans (hb7.mono hB6))
                      clear hrow hb7
                      have q0 : w7.cell? ⟨n, 0, none⟩ = some (.int .i64 0) := HZ7.out.c 0
                      have q1 : w7.cell? ⟨n, 1, none⟩ = some (.int .i64 0) := HZ7.out.c 1
                      have q2 : w7.cell? ⟨n, 2, none⟩ = some (.string ⟨#[]⟩) := HZ7.out.c 2
                      have q3 : w7.cell? ⟨n, 3, none⟩ = some (.string ⟨#[]⟩) := HZ7.out.c 3
                      have q4 : w7.cell? ⟨n, 4, none⟩ = some (.slice none 0 0) := HZ7.out.c 4
                      have p0 := HZ7.out.f 0
                      have p1 := HZ7.out.f 1
                      have p2 := HZ7.out.f 2
                      have p3 := HZ7.out.f 3
                      have p4 := HZ7.out.f 4
                      have psh : w7.shape? n = some (56, 5) := HZ7.out.sh
                      have pl : n < w7.heap.size := HZ7.out.lt
                      have t0 : w7.cell? ⟨tb, 0, none⟩ = some (.int .i64 2) := HT7.out.c 0
                      have t1 : w7.cell? ⟨tb, 1, none⟩ = some (.int .i64 (i : Int)) := HT7.out.c 1
                      have t2 : w7.cell? ⟨tb, 2, none⟩ = some (.string nm) := HT7.out.c 2
                      have t3 : w7.cell? ⟨tb, 3, none⟩ = some (.string ⟨#[]⟩) := HT7.out.c 3
                      have t4 : w7.cell? ⟨tb, 4, none⟩ = some (.slice none 0 0) := HT7.out.c 4
                      have t4f := HT7.out.f 4
                      have tsh : w7.shape? tb = some (56, 5) := HT7.out.sh
                      have ttl : tb < w7.heap.size := HT7.out.lt
                      have hnt2 : n ≠ tb := by omega
                      have hnt3 : tb ≠ n := by omega
                      go_wp2_with fail
                      have HZ8 := Lib.hid (HZ7.out.keepX (GrownX.one0 w7 tb 4 (.slice A D.length c)) hnt2)
                      have HB8 := Lib.hid (HB7.out.setCell (p := ⟨tb, 4, none⟩) (show B ≤ tb by omega) (.slice A D.length c))
                      refine tok_done rfl (((((HZ8.out.put 0 _).put 1 _).put 2 _).put 3 _).put 4 _) rfl rfl rfl rfl ?_
                      refine TokAtR.mk (x := (⟨2, i, nm, ⟨#[]⟩, D⟩, .slice A D.length c)) HTk.out (own_low (own_keepX HR7.out (p := fun x => x = tb ∨ x = n) ((((((GrownX.set (GrownX.refl (fun x => x = tb ∨ x = n) w7) (Or.inl (Or.inl rfl)) 4 _).set (Or.inl (Or.inr rfl)) 0 _).set (Or.inl (Or.inr rfl)) 1 _).set (Or.inl (Or.inr rfl)) 2 _).set (Or.inl (Or.inr rfl)) 3 _).set (Or.inl (Or.inr rfl)) 4 _) (fun g hg e => ?_)) hB6) (((((HB8.out.setCell (p := ⟨_, 0, none⟩) hBn _).setCell (p := ⟨_, 1, none⟩) hBn _).setCell (p := ⟨_, 2, none⟩) hBn _).setCell (p := ⟨_, 3, none⟩) hBn _).setCell (p := ⟨_, 4, none⟩) hBn _)
                      rcases e with e | e
                      · exact own_ne_cb HR7.out HT7.out (by decide) (by rw [hg, e])
                      · exact own_ne_cb HR7.out HZ7.out (by decide) (by rw [hg, e])
              | false =>
                have hk4 : kindAt s i ≠ 4 := of_decide_eq_false hv4
                have hkd : kindAt s i = 0 := by
                  cases Nat.decEq (kindAt s i) 0 with
                  | isTrue h => exact h
                  | isFalse h => rcases kind_or h with h9 | h9 | h9 | h9 <;> contradiction
                have HTk := Lib.hid (show tokAt s i = (⟨0, 0, ⟨#[]⟩, ⟨#[]⟩, []⟩, 0) by simp only [tokAt, hkd])
                clear hv4 hk1 hk2 hk3 hk4 hkd
                go_wp2_with fail
                refine tok_done rfl (((((HZ.out.put 0 _).put 1 _).put 2 _).put 3 _).put 4 _) rfl rfl rfl rfl ?_
                exact TokAtR.mk (x := (⟨0, 0, ⟨#[]⟩, ⟨#[]⟩, []⟩, .slice none 0 0)) (nx := 0) HTk.out (World.ownsRow_nil _ _ _ _) (((((HB0.out.setCell (p := ⟨_, 0, none⟩) hBn _).setCell (p := ⟨_, 1, none⟩) hBn _).setCell (p := ⟨_, 2, none⟩) hBn _).setCell (p := ⟨_, 3, none⟩) hBn _).setCell (p := ⟨_, 4, none⟩) hBn _)

end Go.Proofs.YtbhildmalcfhiaaGreatDoor

namespace Go.Proofs.YtbhildmalcfhiaaGreatDoor
open Go.RowKit Go.Deep

theorem charsL_none (s : ByteArray) (a : Nat) : charsL s a a = [] := by rw [charsL, if_neg (by omega)]
theorem ToksRel.fin {s : ByteArray} {i a : Nat} {D : List TokR} (h : ToksRel s D i a) (hi : i = s.size) : ToksRel s (D ++ charsL s a i) i i := by
  subst hi
  have h1 := h.stop (Nat.le_refl _)
  refine ⟨0, by omega, ?_⟩
  rw [h1, toksF, charsL_none, List.append_nil]
def ToksPost (s : ByteArray) (w : World) (e : Ending) (w' : World) : Prop :=
  ∃ (ov : Value) (L : List (TokR × Value)), e = .returned (.tuple #[ov, .int .i64 (tokE s)]) ∧ L.map (·.1) = tokR s ∧ ToksOwn w' w.heap.size ov L ∧ Below w.heap.size w w'
theorem ToksPost.no {s : ByteArray} {w w' : World} (h : tokE s = 4) (hb : Below w.heap.size w w') : ToksPost s w (.returned (.tuple #[.slice none 0 0, .int .i64 4])) w' :=
  ⟨_, [], by rw [h], by rw [tokR, if_neg (by rw [h]; decide)]; rfl, ToksOwn.start _ _, hb⟩
theorem ToksPost.yes {s : ByteArray} {w w' : World} {ov : Value} {L : List (TokR × Value)} (h : toksV s = L.map (·.1)) (h1 : s.size ≤ 200000) (h2 : L.length ≤ 20000) (hO : ToksOwn w' w.heap.size ov L) (hb : Below w.heap.size w w') : ToksPost s w (.returned (.tuple #[ov, .int .i64 0])) w' := by
  have h3 : tokE s = 0 := by rw [tokE, if_neg (by omega), if_neg (by rw [h, List.length_map]; omega)]
  exact ⟨ov, L, by rw [h3], by rw [tokR, if_pos h3, h], hO, hb⟩

set_option maxRecDepth 100000 in
set_option maxHeartbeats 20000000 in
theorem tokens_q (s : ByteArray) (w : World) (hm : MaxT w.heap.size w) : Calls Tryz.prog 20 #[.string s] w (ToksPost s w) := by
  by_cases hbig : 200000 < s.size
  · have HE := Lib.hid (show tokE s = 4 by rw [tokE, if_pos hbig])
    have hbig' : (200000 : Int) < (s.size : Int) := by omega
    go_enter Tryz.func20, Tryz.ntmps20
    go_wp2_with fail
    go_ret2
    exact ToksPost.no HE.out (Below.refl _ _)
  have hs : s.size ≤ 200000 := by omega
  have hbig' : ¬ (200000 : Int) < (s.size : Int) := by omega
  clear hbig
  obtain ⟨B, hBe⟩ : ∃ B, w.heap.size = B := ⟨_, rfl⟩
  have HM := Lib.hid hm; clear hm
  go_enter Tryz.func20, Tryz.ntmps20
  go_wp2_with fail
  obtain ⟨W0, hW⟩ : ∃ W, w.alloc (.cells #[.string s, .int .i64 0, .slice none 0 0] 97) = W := ⟨_, rfl⟩
  have HX0 := Lib.hid (show ScanAt W0 B s 0 (.slice none 0 0) by rw [← hW, ← hBe]; exact CB.new _ _ _)
  have HB0 := Lib.hid (show Below B w W0 by rw [← hW, ← hBe]; exact (Below.refl _ _).alloc (Nat.le_refl _) _)
  rw [hBe] at HM
  have HBe := Lib.hid hBe
  try rw [hW]
  try rw [hBe]
  clear hW hBe
  go_loopw [] (fun wr => ∃ (i : Nat) (ov : Value) (L : List (TokR × Value)), i ≤ s.size ∧ L.length ≤ 3 * i ∧ Hid (ToksRel s (L.map (·.1)) i i) ∧ Hid (ScanAt wr B s i ov) ∧ Hid (ToksOwn wr B ov L) ∧ Hid (Below B w wr)) (fun wr => s.size - iOf wr B)
  case atStart => exact ⟨0, _, [], Nat.zero_le _, Nat.zero_le _, ToksRel.start s, HX0, ToksOwn.start _ _, HB0⟩
  case round =>
    clear HX0 HB0
    obtain ⟨i, ov, L, hi, hL3, HR, HX, HO, HB⟩ := hrel
    obtain ⟨Ao, co, rfl⟩ := HO.out.len
    have HMe := Lib.hid (iOf_scan HX.out)
    have b0 : wr.cell? ⟨B, 0, none⟩ = some (.string s) := HX.out.c 0
    have b1 : wr.cell? ⟨B, 1, none⟩ = some (.int .i64 (i : Int)) := HX.out.c 1
    have b2 : wr.cell? ⟨B, 2, none⟩ = some (.slice Ao L.length co) := HX.out.c 2
    have hlt : B < wr.heap.size := HX.out.lt
    by_cases hgo : i < s.size ∧ L.length ≤ 20000
    · have h1 : (i : Int) < (s.size : Int) := by omega
      have h2 : (L.length : Int) ≤ 20000 := by omega
      go_wp2_with fail
      clear b0 b1 b2 hlt
      go_loopw [] (fun wx => ∃ k : Nat, i ≤ k ∧ k ≤ s.size ∧ Hid (ScanAt wx B s k (.slice Ao L.length co)) ∧ Hid (GrownX (fun x => x = B) wr wx) ∧ Hid (seekTo (fun j => decide (kindAt s j ≠ 0)) s.size i = seekTo (fun j => decide (kindAt s j ≠ 0)) s.size k)) (fun wx => s.size - iOf wx B)
      case atStart => exact ⟨i, Nat.le_refl _, hi, HX, GrownX.refl _ _, rfl⟩
      case round =>
        obtain ⟨k, hik, hk, HX2, HG2, HS2⟩ := hrel
        have HMe2 := Lib.hid (iOf_scan HX2.out)
        have b0 : wr.cell? ⟨B, 0, none⟩ = some (.string s) := HX2.out.c 0
        have b1 : wr.cell? ⟨B, 1, none⟩ = some (.int .i64 (k : Int)) := HX2.out.c 1
        have bf1 := HX2.out.f 1
        have bsh : wr.shape? B = some (97, 3) := HX2.out.sh
        have hlt : B < wr.heap.size := HX2.out.lt
        have HO2 := Lib.hid (HO.out.scan HX.out HG2.out)
        have HB2 := Lib.hid (HB.out.trans (HG2.out.below (by have := HX.out.lt; omega) (fun x e => by omega)))
        by_cases hks : k < s.size
        · have h3 : (k : Int) < (s.size : Int) := by omega
          obtain ⟨v, hv⟩ : ∃ v, decide (kindAt s k ≠ 0) = v := ⟨_, rfl⟩
          have HV := Lib.hid hv
          cases v with
          | false =>
            have HS3 := Lib.hid (HS2.out.trans (seek_miss hks hv))
            clear hv
            go_wp2_with (go_at_call 46; go_must (refine (begins_q B s k k _ _ _ HX2.out hks (by omega) HV.out).mono ?_); rintro e w1 ⟨rfl, rfl⟩)
            go_roundw
            case rel => exact ⟨k + 1, by omega, by omega, HX2.out.go0 _ (by omega), HG2.out.set (Or.inl rfl) 1 _, HS3⟩
            case measure =>
              rw [HMe2.out, iOf_scan (HX2.out.go0 (j := k + 1) _ (by omega))]
              omega
          | true =>
            have hkk : kindAt s k ≠ 0 := of_decide_eq_true hv
            have HS3 := Lib.hid (HS2.out.trans (seek_hit hks hv))
            have hR2 := (HR.out.skipTo hi)
            rw [HS3.out] at hR2
            have HR2 := Lib.hid (hR2.push hkk)
            have htn := tokN_le hkk
            have htl := tokL_len s k
            have hcl := charsL_len s i k
            clear hv hR2
            go_wp2_with (first
              | (go_at_call 46; go_must (refine (begins_q B s k k _ _ _ HX2.out hks (by omega) HV.out).mono ?_); rintro e w1 ⟨rfl, rfl⟩)
              | (go_at_call 47; go_must (refine (chars_q B B s k i k _ L _ HX2.out HO2.out (Nat.le_refl _) (by omega) (by omega)).mono ?_); rintro e w3 ⟨rfl, hM3⟩; obtain ⟨ov3, N3, hN3, hX3, hO3, hB3⟩ := hM3; have HN3 := Lib.hid hN3; have HX3 := Lib.hid hX3; have HO3 := Lib.hid hO3; have HB3 := Lib.hid (HB2.out.trans hB3); clear hN3 hX3 hO3 hB3; have d1 : w3.cell? ⟨B, 1, none⟩ = some (.int .i64 (k : Int)) := HX3.out.c 1; have dlt : B < w3.heap.size := HX3.out.lt; have hN3l : N3.length ≤ 1 := by (have h9 := congrArg List.length HN3.out; rw [List.length_map] at h9; omega))
              | (go_at_call 48; go_must (refine (token_q B B s k ov3 (L ++ N3) _ HX3.out HO3.out (Nat.le_refl _) (by omega) (by rw [List.length_append]; omega) (HM.out.keep HB3.out) hkk).mono ?_); rintro e w4 ⟨rfl, hM4⟩; obtain ⟨ov4, N4, hN4, hX4, hO4, hB4⟩ := hM4; have HN4 := Lib.hid hN4; have HX4 := Lib.hid hX4; have HO4 := Lib.hid hO4; have HB4 := Lib.hid (HB3.out.trans hB4); clear hN4 hX4 hO4 hB4))
            have hN4l : N4.length ≤ 2 := by have h9 := congrArg List.length HN4.out; rw [List.length_map] at h9; omega
            go_roundw
            case rel => exact ⟨tokN s k, ov4, L ++ N3 ++ N4, by omega, by simp only [List.length_append]; omega, Lib.hid (by rw [List.map_append, List.map_append, HN3.out, HN4.out]; exact HR2.out), HX4, HO4, HB4⟩
            case measure =>
              rw [HMe.out, iOf_scan HX4.out]
              omega
        · have h3 : ¬ (k : Int) < (s.size : Int) := by omega
          have hke : k = s.size := by omega
          have HS3 := Lib.hid (HS2.out.trans (seek_end (by omega)))
          have hR2 := (HR.out.skipTo hi)
          rw [HS3.out] at hR2
          have HR2 := Lib.hid (hR2.fin hke)
          have hcl := charsL_len s i k
          clear hR2 hke
          go_wp2_with (go_at_call 47; go_must (refine (chars_q B B s k i k _ L _ HX2.out HO2.out (Nat.le_refl _) (by omega) (by omega)).mono ?_); rintro e w3 ⟨rfl, hM3⟩; obtain ⟨ov3, N3, hN3, hX3, hO3, hB3⟩ := hM3; have HN3 := Lib.hid hN3; have HX3 := Lib.hid hX3; have HO3 := Lib.hid hO3; have HB3 := Lib.hid (HB2.out.trans hB3); clear hN3 hX3 hO3 hB3; have d1 : w3.cell? ⟨B, 1, none⟩ = some (.int .i64 (k : Int)) := HX3.out.c 1; have dlt : B < w3.heap.size := HX3.out.lt; have hN3l : N3.length ≤ 1 := by (have h9 := congrArg List.length HN3.out; rw [List.length_map] at h9; omega))
          go_roundw
          case rel => exact ⟨k, ov3, L ++ N3, by omega, by rw [List.length_append]; omega, Lib.hid (by rw [List.map_append, HN3.out]; exact HR2.out), HX3, HO3, HB3⟩
          case measure =>
            rw [HMe.out, iOf_scan HX3.out]
            omega
    · by_cases hin : i < s.size
      · have h1 : (i : Int) < (s.size : Int) := by omega
        have h2 : ¬ (L.length : Int) ≤ 20000 := by omega
        have h3 : (20000 : Int) < (L.length : Int) := by omega
        have HE := Lib.hid (show tokE s = 4 by
          have h9 := HR.out.many
          rw [List.length_map] at h9
          rw [tokE, if_neg (by omega), if_pos (by omega)])
        clear hgo
        go_wp2_with fail
        go_ret2
        exact ToksPost.no HE.out (by rw [HBe.out]; exact HB.out)
      · have h1 : ¬ (i : Int) < (s.size : Int) := by omega
        have HV := Lib.hid (show toksV s = L.map (·.1) by
          have h9 := HR.out.stop (by omega)
          rw [show i = s.size by omega, charsL_none, List.append_nil] at h9
          exact h9)
        clear hgo
        by_cases hmx : L.length ≤ 20000
        · have h3 : ¬ (20000 : Int) < (L.length : Int) := by omega
          go_wp2_with fail
          go_ret2
          exact ToksPost.yes HV.out hs hmx (by rw [HBe.out]; exact HO.out) (by rw [HBe.out]; exact HB.out)
        · have h3 : (20000 : Int) < (L.length : Int) := by omega
          have HE := Lib.hid (show tokE s = 4 by rw [tokE, if_neg (by omega), if_pos (by rw [HV.out, List.length_map]; omega)])
          go_wp2_with fail
          go_ret2
          exact ToksPost.no HE.out (by rw [HBe.out]; exact HB.out)

end Go.Proofs.YtbhildmalcfhiaaGreatDoor

namespace Go.Proofs.YtbhildmalcfhiaaGreatDoor
open Go.RowKit Go.Deep

def CharsG (B : Nat) (ov0 : Value) (L : List (TokR × Value)) (add : List TokR) (w : World) (e : Ending) (w' : World) : Prop :=
  ∃ (ov : Value) (N : List (TokR × Value)), e = .returned ov ∧ N.map (·.1) = add ∧ ToksOwn w' B ov (L ++ N) ∧ Below B w w' ∧ GrownX (fun x => ov0.ownBlock = some x) w w' ∧ ∀ g, ov.ownBlock = some g → ∀ b, ov0.ownBlock ≠ some b → b < w.heap.size → g ≠ b
set_option maxRecDepth 100000 in
set_option maxHeartbeats 2000000 in
theorem charsG_q (B : Nat) (s : ByteArray) (a b : Nat) (ov : Value) (L : List (TokR × Value)) (w : World) (hO : ToksOwn w B ov L) (hB : B ≤ w.heap.size) (hb : b ≤ s.size) (hL : L.length ≤ 1048576) :
    Calls Tryz.prog 51 #[ov, .string s, .int .i64 (a : Int), .int .i64 (b : Int)] w (CharsG B ov L (charsL s a b) w) := by
  obtain ⟨Ao, co, rfl⟩ := hO.len
  have HO := Lib.hid hO; clear hO
  have hi0 : (0 : Int) ≤ (a : Int) := by omega
  have hi2 : (b : Int) ≤ (s.size : Int) := by omega
  by_cases hab : a < b
  · have hi1 : (a : Int) ≤ (b : Int) := by omega
    have hab' : (a : Int) < (b : Int) := by omega
    have HC := Lib.hid (show charsL s a b = [⟨1, a, ⟨#[]⟩, s.extract a b, []⟩] by rw [charsL, if_pos hab])
    go_enter Tryz.func51, Tryz.ntmps51
    go_wp2_with (first
      | (at_builtin; go_must (refine wpList_push _ rfl (.tmp 12) (.tmp 19) 50 rfl B 56 _ 5 72 Tryz.underlying50 info_tok rfl (by omega) (.slice Ao L.length co) L.length _ rfl (own_alloc HO.out.row _) (tokRow (⟨1, a, ⟨#[]⟩, s.extract a b, []⟩, .slice none 0 0)) rfl _ rfl (cell_new _ (tokRow (⟨1, a, ⟨#[]⟩, s.extract a b, []⟩, .slice none 0 0)) 56 _ rfl) (by intro u hu; simp [tokRow] at hu; rcases hu with rfl | rfl | rfl | rfl | rfl <;> rfl) (by omega) (by unfold maxLen; omega) (by simp; omega) ?_)
         intro g6 k6 w6 own6 hg6 hgg6 hb6
         have HF := Lib.hid ((HO.out.alloc (.cells (tokRow (⟨1, a, ⟨#[]⟩, s.extract a b, []⟩, .slice none 0 0)).toArray 56)).push (⟨1, a, ⟨#[]⟩, s.extract a b, []⟩, .slice none 0 0) (World.ownsRow_nil _ _ _ _) hg6 own6)
         have HB6 := Lib.hid (((Below.refl B w).alloc hB (.cells (tokRow (⟨1, a, ⟨#[]⟩, s.extract a b, []⟩, .slice none 0 0)).toArray 56)).trans hb6)
         have HG6 := Lib.hid ((GrownX.of_below (p := fun x => (Value.slice Ao L.length co).ownBlock = some x) ((Below.refl _ _).alloc (Nat.le_refl _) (.cells (tokRow (⟨1, a, ⟨#[]⟩, s.extract a b, []⟩, .slice none 0 0)).toArray 56))).trans (GrownX.of_grown hg6 (fun _ h => h)))
         have HF6 := Lib.hid (show ∀ g, (Value.slice (some ⟨g6, 0, none⟩) (L.length + 1) k6).ownBlock = some g → ∀ b, (Value.slice Ao L.length co).ownBlock ≠ some b → b < w.heap.size → g ≠ b from fun g hg b hb hlt e => by
           simp only [Value.ownBlock, Option.some.injEq] at hg
           subst hg; subst e
           rcases hgg6 with h | h
           · exact hb h
           · rw [World.size_alloc] at h; omega)
         clear own6 hg6 hgg6 hb6))
    go_ret
    exact ⟨_, [(⟨1, a, ⟨#[]⟩, s.extract a b, []⟩, .slice none 0 0)], rfl, HC.out.symm, HF.out, HB6.out, HG6.out, HF6.out⟩
  · have HC := Lib.hid (show charsL s a b = [] by rw [charsL, if_neg hab])
    have hab' : ¬ (a : Int) < (b : Int) := by omega
    go_enter Tryz.func51, Tryz.ntmps51
    go_wp2_with fail
    go_ret
    exact ⟨_, [], rfl, HC.out.symm, by rw [List.append_nil]; exact HO.out, Below.refl _ _, GrownX.refl _ _, fun g hg b hb _ e => hb (by rw [← e]; exact hg)⟩

theorem own_apart {w : World} {B B' K K' n n' : Nat} {e e' : TypeId} {v u : Value} {xs ys : List Value} (h1 : w.ownsRow B e K v n xs) (h2 : w.ownsRow B' e' K' u n' ys) (ne : e ≠ e') : ∀ g, v.ownBlock = some g → u.ownBlock ≠ some g := by
  intro g hg hu
  rcases h2.2 with ⟨k1, _⟩ | ⟨g', cap, cur, k1, _, k4, _⟩
  · rw [k1] at hu; cases hu
  · rw [k1] at hu
    simp only [Value.ownBlock, Option.some.injEq] at hu
    subst hu
    exact own_ne_cb h1 (show CB w g' e' cur from k4) (fun e => ne e.symm) hg
theorem ToksOwn.slice {w : World} {B : Nat} {ov : Value} {L : List (TokR × Value)} (h : ToksOwn w B ov L) : ∃ (A : Option Addr) (c : Nat), ov = .slice A L.length c := h.len
theorem tok_name (s : ByteArray) (i : Nat) : (tokAt s i).1.name.size ≤ s.size := by
  have hx : ∀ a b, (lowBA (s.extract a b)).size ≤ s.size := fun a b => by rw [lowBA_size, ByteArray.size_extract]; omega
  unfold tokAt
  split
  · exact Nat.zero_le _
  · exact Nat.zero_le _
  · exact hx _ _
  · exact hx _ _
  · exact Nat.zero_le _
theorem raw_skip {s name : ByteArray} {i m : Nat} (h : rawEnd s name m = rawEnd s name i) (hm : m < s.size) (he : endAt s name m = false) : rawEnd s name (m + 1) = rawEnd s name i := by
  rw [← h]; exact (seek_miss hm he).symm

set_option maxRecDepth 100000 in
set_option maxHeartbeats 40000000 in
theorem tokensOf_q (s : ByteArray) (w : World) (hm : MaxT w.heap.size w) : Calls Tryz.prog 22 #[.string s] w (ToksPost s w) := by
  by_cases hbig : 200000 < s.size
  · have HE := Lib.hid (show tokE s = 4 by rw [tokE, if_pos hbig])
    have hbig' : (200000 : Int) < (s.size : Int) := by omega
    go_enter Tryz.func22, Tryz.ntmps22
    go_wp2_with fail
    go_ret2
    exact ToksPost.no HE.out (Below.refl _ _)
  have hs : s.size ≤ 200000 := by omega
  have hbig' : ¬ (200000 : Int) < (s.size : Int) := by omega
  clear hbig
  obtain ⟨B, hBe⟩ : ∃ B, w.heap.size = B := ⟨_, rfl⟩
  have HM := Lib.hid hm; clear hm
  rw [hBe] at HM
  have HBe := Lib.hid hBe
  have HB0 := Lib.hid (Below.refl B w)
  have hBw : B ≤ w.heap.size := by omega
  clear hBe
  go_enter Tryz.func22, Tryz.ntmps22
  go_wp2_with fail
  go_loopw [4, 5, 6] (fun t4 t5 t6 wr => ∃ (i a : Nat) (L : List (TokR × Value)) (A : Option Addr) (c q : Nat), t4 = .slice A q c ∧ t5 = .int .i64 (a : Int) ∧ t6 = .int .i64 (i : Int) ∧ L.length = q ∧ a ≤ i ∧ i ≤ s.size ∧ L.length ≤ 3 * i ∧ Hid (ToksRel s (L.map (·.1)) i a) ∧ Hid (ToksOwn wr B (.slice A q c) L) ∧ Hid (Below B w wr)) (fun _ _ t6 _ => s.size - (intOf t6).toNat)
  case atStart => exact ⟨0, 0, [], none, 0, 0, rfl, rfl, rfl, rfl, Nat.le_refl _, Nat.zero_le _, Nat.zero_le _, ToksRel.start s, ToksOwn.start _ _, HB0⟩
  case round =>
    clear HB0
    obtain ⟨i, a, L, A, c, q, rfl, rfl, rfl, hq, hai, hi, hL3, HR, HO, HB⟩ := hrel
    subst hq
    have hBr : B ≤ wr.heap.size := by have := HB.out.size; omega
    by_cases hlt : i < s.size
    · have hlt' : (i : Int) < (s.size : Int) := by omega
      have HM1 := Lib.hid (HM.out.keep HB.out)
      go_wp2_with fail
      refine (tokAt_q wr.heap.size s i wr (Nat.le_refl _) hlt (by omega) (HM1.out.up hBr)).mono ?_
      rintro e w3 ⟨⟨tk, av⟩, rfl, hx1, hxr, hb3⟩
      simp only at hx1 hxr
      obtain ⟨Av, cv, hav, _⟩ := own_form hxr
      subst hav
      have HO3 := Lib.hid (HO.out.below hb3)
      have HB3 := Lib.hid (HB.out.trans (hb3.mono hBr))
      have HXr := Lib.hid (own_low hxr hBr)
      obtain ⟨nx, hnx⟩ : ∃ nx, (tokAt s i).2 = nx := ⟨_, rfl⟩
      have HTk := Lib.hid (show tokAt s i = (tk, nx) by rw [hx1, ← hnx])
      rw [hnx]
      clear hx1 hxr hb3 hnx HO HB
      obtain ⟨kd, at0, nm, tx, atts⟩ := tk
      simp only [tokRow]
      have hB3 : B ≤ w3.heap.size := by have := HB3.out.size; omega
      go_upto_region 8 with fail
      obtain ⟨tb, htb⟩ : ∃ tb, w3.heap.size = tb := ⟨_, rfl⟩
      obtain ⟨w4, hW⟩ : ∃ W, w3.alloc (.cells #[.int .i64 kd, .int .i64 (at0 : Int), .string nm, .string tx, .slice Av atts.length cv] 56) = W := ⟨_, rfl⟩
      have HT4 := Lib.hid (show CB w4 tb 56 #[.int .i64 kd, .int .i64 (at0 : Int), .string nm, .string tx, .slice Av atts.length cv] by rw [← hW, ← htb]; exact CB.new _ _ _)
      have HO4 := Lib.hid (show ToksOwn w4 B (.slice A L.length c) L by rw [← hW]; exact HO3.out.alloc _)
      have HB4 := Lib.hid (show Below B w w4 by rw [← hW]; exact HB3.out.alloc hB3 _)
      have HX4 := Lib.hid (show w4.ownsRow B 68 2 (.slice Av atts.length cv) atts.length (attCells atts) by rw [← hW]; exact own_alloc HXr.out _)
      have hov : ∀ g, (Value.slice A L.length c).ownBlock = some g → g < tb := by rw [← htb]; exact own_lt HO3.out.row
      have hB4 : B ≤ w4.heap.size := by have := HB4.out.size; omega
      try rw [hW]
      try rw [htb]
      clear hW htb HO3 HB3 HXr
      have Hov := Lib.hid hov; clear hov
      by_cases hk : kindAt s i = 0
      · have HR2 := Lib.hid (HR.out.skip hlt hk)
        have hn0 : nx = 0 := by have h9 := HTk.out; rw [tokAt, hk] at h9; simpa using (congrArg Prod.snd h9).symm
        subst hn0
        clear hk
        go_wp2_with fail
        go_roundw
        case rel => exact ⟨i + 1, a, L, A, c, _, rfl, rfl, by go_num, rfl, by omega, by omega, by omega, HR2, HO4, HB4⟩
        case measure => simp [intOf]; omega
      · have HR2 := Lib.hid (HR.out.push hk)
        have htl := tok_le hk
        have htn := tokN_le hk
        rw [HTk.out] at htl
        simp only at htl
        have hn0 : ((nx : Int) == 0) = false := by rw [beq_eq_false_iff_ne]; omega
        have hcl := charsL_len s a i
        have hll := tokL_len s i
        clear hk
        have r0 : w4.cell? ⟨tb, 0, none⟩ = some (.int .i64 kd) := HT4.out.c 0
        have tl : tb < w4.heap.size := HT4.out.lt
        obtain ⟨rt, hrt⟩ : ∃ b, rawT ⟨kd, at0, nm, tx, atts⟩ = b := ⟨_, rfl⟩
        have HRt := Lib.hid hrt
        clear hrt
        go_upto_region 13 with (first
          | (go_at_call 51; go_must (refine (charsG_q B s a i _ L _ HO4.out hB4 (by omega) (by omega)).mono ?_); rintro e w5 ⟨ov5, N5, rfl, hN5, hO5, hB5, hG5, hF5⟩; have hT5 := fun g hg => hF5 g hg tb (fun e => by have := Hov.out tb e; omega) HT4.out.lt; have HN5 := Lib.hid hN5; have HT5 := Lib.hid (HT4.out.keepX hG5 (fun e => by have := Hov.out tb e; omega)); have HX5 := Lib.hid (own_keepX HX4.out hG5 (fun g hg e => own_apart HO4.out.row HX4.out (by decide) g e hg)); have HO5 := Lib.hid hO5; have HB5 := Lib.hid (HB4.out.trans hB5); have Hov5 := Lib.hid (hT5 : ∀ g, ov5.ownBlock = some g → g ≠ tb); clear hN5 hB5 hO5 hG5 hT5 hF5; obtain ⟨A5, c5, hov5⟩ := HO5.out.len; subst hov5; obtain ⟨L5, hL5⟩ : ∃ L5, L ++ N5 = L5 := ⟨_, rfl⟩; have HL5 := Lib.hid hL5; have hL5n : L5.length ≤ 3 * i + 1 := (by rw [← hL5, List.length_append]; have h9 := congrArg List.length HN5.out; rw [List.length_map] at h9; omega); rw [hL5] at HO5 Hov5 ⊢; clear hL5; have r0 : w5.cell? ⟨tb, 0, none⟩ = some (.int .i64 kd) := HT5.out.c 0; have r1 : w5.cell? ⟨tb, 1, none⟩ = some (.int .i64 (at0 : Int)) := HT5.out.c 1; have r2 : w5.cell? ⟨tb, 2, none⟩ = some (.string nm) := HT5.out.c 2; have r3 : w5.cell? ⟨tb, 3, none⟩ = some (.string tx) := HT5.out.c 3; have r4 : w5.cell? ⟨tb, 4, none⟩ = some (.slice Av atts.length cv) := HT5.out.c 4; have tl5 : tb < w5.heap.size := HT5.out.lt)
          | (at_builtin; go_must (refine wpList_push _ rfl (.tmp 31) (.tmp 33) 50 rfl B 56 _ 5 72 Tryz.underlying50 info_tok rfl (by omega) (.slice A5 L5.length c5) L5.length _ rfl (own_alloc HO5.out.row _) (tokRow (⟨kd, at0, nm, tx, atts⟩, .slice Av atts.length cv)) rfl _ rfl (cell_new _ (tokRow (⟨kd, at0, nm, tx, atts⟩, .slice Av atts.length cv)) 56 _ rfl) (by intro u hu; simp only [tokRow, List.mem_cons, List.not_mem_nil, or_false] at hu; rcases hu with rfl | rfl | rfl | rfl | rfl <;> rfl) (by omega) (by unfold maxLen; omega) (by have h8 := HB5.out.size; rw [World.size_alloc]; omega) ?_)
             intro g6 k6 w6 own6 hg6 hgg6 hb6
             have HO6 := Lib.hid ((HO5.out.alloc (.cells (tokRow (⟨kd, at0, nm, tx, atts⟩, .slice Av atts.length cv)).toArray 56)).push (⟨kd, at0, nm, tx, atts⟩, .slice Av atts.length cv) (own_alloc HX5.out _) hg6 own6)
             have HT6 := Lib.hid (CB.other (HT5.out.alloc (.cells (tokRow (⟨kd, at0, nm, tx, atts⟩, .slice Av atts.length cv)).toArray 56)) hg6 (fun e => by have h8 := Hov5.out tb e.symm; omega))
             have HB6 := Lib.hid ((HB5.out.alloc (by have h8 := HB5.out.size; omega) (.cells (tokRow (⟨kd, at0, nm, tx, atts⟩, .slice Av atts.length cv)).toArray 56)).trans hb6)
             clear own6 hg6 hgg6 hb6
             have u0 : w6.cell? ⟨tb, 0, none⟩ = some (.int .i64 kd) := HT6.out.c 0
             have u2 : w6.cell? ⟨tb, 2, none⟩ = some (.string nm) := HT6.out.c 2
             have ul : tb < w6.heap.size := HT6.out.lt))
        go_cut [59] from 12 to 79 (fun s59 wx => s59 = .bool rt ∧ wx = w6)
        case first =>
          obtain ⟨k2, hk2⟩ : ∃ b, (kd == 2) = b := ⟨_, rfl⟩
          obtain ⟨b0, hb0⟩ : ∃ b, (nm.toList == [115, 99, 114, 105, 112, 116]) = b := ⟨_, rfl⟩
          obtain ⟨b1, hb1⟩ : ∃ b, (nm.toList == [115, 116, 121, 108, 101]) = b := ⟨_, rfl⟩
          obtain ⟨b2, hb2⟩ : ∃ b, (nm.toList == [116, 105, 116, 108, 101]) = b := ⟨_, rfl⟩
          obtain ⟨b3, hb3⟩ : ∃ b, (nm.toList == [116, 101, 120, 116, 97, 114, 101, 97]) = b := ⟨_, rfl⟩
          have HV := Lib.hid (show rt = (k2 && (b0 || b1 || b2 || b3)) by
            rw [← HRt.out, rawT, rawB, hb0, hb1, hb2, hb3]
            rw [show decide (kd = 2) = k2 by rw [← hk2, Bool.eq_iff_iff, decide_eq_true_eq, beq_iff_eq]])
          cases k2 with
          | false =>
            go_wp2_with fail
            go_meet
            exact ⟨by first | (rw [HV.out]; done) | (rw [HV.out]; rfl) | (rw [HV.out]; simp), rfl⟩
          | true =>
            cases b0 with
            | true =>
              go_wp2_with fail
              go_meet
              exact ⟨by first | (rw [HV.out]; done) | (rw [HV.out]; rfl) | (rw [HV.out]; simp), rfl⟩
            | false =>
              cases b1 with
              | true =>
                go_wp2_with fail
                go_meet
                exact ⟨by first | (rw [HV.out]; done) | (rw [HV.out]; rfl) | (rw [HV.out]; simp), rfl⟩
              | false =>
                cases b2 with
                | true =>
                  go_wp2_with fail
                  go_meet
                  exact ⟨by first | (rw [HV.out]; done) | (rw [HV.out]; rfl) | (rw [HV.out]; simp), rfl⟩
                | false =>
                  cases b3 with
                  | true =>
                    go_wp2_with fail
                    go_meet
                    exact ⟨by first | (rw [HV.out]; done) | (rw [HV.out]; rfl) | (rw [HV.out]; simp), rfl⟩
                  | false =>
                    go_wp2_with fail
                    go_meet
                    exact ⟨by first | (rw [HV.out]; done) | (rw [HV.out]; rfl) | (rw [HV.out]; simp), rfl⟩
        case rest =>
          obtain ⟨rfl, rfl⟩ := hcut
          cases rt with
          | false =>
            have hnr : rawT (tokAt s i).1 = false := by rw [HTk.out]; exact HRt.out
            have HL2 := Lib.hid (show tokL s i = [⟨kd, at0, nm, tx, atts⟩] by rw [tokL, if_neg (by rw [hnr]; simp), HTk.out])
            have HN2 := Lib.hid (show tokN s i = nx by rw [tokN, if_neg (by rw [hnr]; simp), HTk.out])
            rw [HN2.out, HL2.out] at HR2
            go_wp2_with fail
            go_roundw
            case rel => exact ⟨nx, nx, L5 ++ [(⟨kd, at0, nm, tx, atts⟩, .slice Av atts.length cv)], _, _, _, rfl, rfl, rfl, by simp, Nat.le_refl _, by omega, by simp only [List.length_append, List.length_cons, List.length_nil]; omega, Lib.hid (by have h9 := HR2.out; rw [List.map_append, ← HL5.out, List.map_append, HN5.out]; simpa using h9), HO6, HB6⟩
            case measure => simp [intOf]; omega
          | true =>
            have HRt2 := Lib.hid (show rawT (tokAt s i).1 = true by rw [HTk.out]; exact HRt.out)
            have HL2 := Lib.hid (show tokL s i = ⟨kd, at0, nm, tx, atts⟩ :: charsL s nx (rawEnd s nm nx) by rw [tokL, if_pos HRt2.out, HTk.out])
            have HN2 := Lib.hid (show tokN s i = rawEnd s nm nx by rw [tokN, if_pos HRt2.out, HTk.out])
            rw [HN2.out] at htn HR2
            rw [HL2.out] at HR2
            have hnmz : nm.size ≤ 1048576 := by have h9 := tok_name s i; rw [HTk.out] at h9; simp only at h9; omega
            go_wp2_with fail
            go_loopw [6] (fun t6 wr => ∃ m : Nat, t6 = .int .i64 (m : Int) ∧ nx ≤ m ∧ m ≤ s.size ∧ Hid (rawEnd s nm m = rawEnd s nm nx) ∧ Hid (ToksOwn wr B (.slice (some ⟨g6, 0, none⟩) (L5.length + 1) k6) (L5 ++ [(⟨kd, at0, nm, tx, atts⟩, .slice Av atts.length cv)])) ∧ Hid (CB wr tb 56 #[.int .i64 kd, .int .i64 (at0 : Int), .string nm, .string tx, .slice Av atts.length cv]) ∧ Hid (Below B w wr)) (fun t6 _ => s.size - (intOf t6).toNat)
            case atStart => exact ⟨nx, rfl, Nat.le_refl _, by omega, rfl, HO6, HT6, HB6⟩
            case round =>
              clear HO6 HT6 HB6
              obtain ⟨m, rfl, hnm2, hm, HSm, HO7, HT7, HB7⟩ := hrel
              have hm0 : (0 : Int) ≤ (m : Int) := by omega
              have t2 : wr.cell? ⟨tb, 2, none⟩ = some (.string nm) := HT7.out.c 2
              have tl : tb < wr.heap.size := HT7.out.lt
              have hBr7 : B ≤ wr.heap.size := by have := HB7.out.size; omega
              by_cases hgo : m < s.size ∧ endAt s nm m = false
              · have hms' : (m : Int) < (s.size : Int) := by omega
                have HEn := Lib.hid hgo.2
                have HSm2 := Lib.hid (raw_skip HSm.out hgo.1 hgo.2)
                have hms := hgo.1
                clear hgo
                go_wp2_with (go_at_call 52; go_must (refine (endTag_q s nm m _ _ hms (by omega) hnmz HEn.out).mono ?_); rintro e w8 ⟨rfl, hb8⟩; have HO8 := Lib.hid (HO7.out.below hb8); have HT8 := Lib.hid (HT7.out.below hb8); have HB8 := Lib.hid (HB7.out.trans (hb8.mono hBr7)); clear hb8)
                go_roundw
                case rel => exact ⟨m + 1, by go_num, by omega, by omega, HSm2, HO8, HT8, HB8⟩
                case measure => simp [intOf]; omega
              · have HmV := Lib.hid (show m = rawEnd s nm nx by
                  rw [← HSm.out]
                  by_cases h5 : m < s.size
                  · exact (seek_hit h5 (by cases h6 : endAt s nm m; exact absurd ⟨h5, h6⟩ hgo; rfl)).symm
                  · exact (seek_end (by omega)).symm)
                go_upto_region 14 with fail
                go_cut [71] from 60 to 73 (fun s71 wx => s71 = .bool false ∧ Hid (ToksOwn wx B (.slice (some ⟨g6, 0, none⟩) (L5.length + 1) k6) (L5 ++ [(⟨kd, at0, nm, tx, atts⟩, .slice Av atts.length cv)])) ∧ Hid (Below B w wx))
                case first =>
                  by_cases hms : m < s.size
                  · have hms' : (m : Int) < (s.size : Int) := by omega
                    have HEn := Lib.hid (show endAt s nm m = true by cases h6 : endAt s nm m; exact absurd ⟨hms, h6⟩ hgo; rfl)
                    clear hgo
                    go_wp2_with (go_at_call 52; go_must (refine (endTag_q s nm m _ _ hms (by omega) hnmz HEn.out).mono ?_); rintro e w8 ⟨rfl, hb8⟩; have HO8 := Lib.hid (HO7.out.below hb8); have HB8 := Lib.hid (HB7.out.trans (hb8.mono hBr7)); clear hb8)
                    go_meet
                    exact ⟨rfl, HO8, HB8⟩
                  · have hms' : ¬ (m : Int) < (s.size : Int) := by omega
                    go_wp2_with fail
                    go_meet
                    exact ⟨rfl, HO7, HB7⟩
                case rest =>
                  obtain ⟨rfl, HO9, HB9⟩ := hcut
                  clear hgo t2 tl HO7 HT7 HB7 hBr7
                  have hB9 : B ≤ wc.heap.size := by have := HB9.out.size; omega
                  rw [← HmV.out] at HR2 htn
                  have hcm := charsL_len s nx m
                  clear HSm HmV
                  go_wp2_with (go_at_call 51; go_must (refine (charsG_q B s nx m _ (L5 ++ [(⟨kd, at0, nm, tx, atts⟩, .slice Av atts.length cv)]) _ HO9.out hB9 (by omega) (by simp only [List.length_append, List.length_cons, List.length_nil]; omega)).mono ?_); rintro e w10 ⟨ov10, N10, rfl, hN10, hO10, hB10, _, _⟩; have HN10 := Lib.hid hN10; have HO10 := Lib.hid hO10; have HB10 := Lib.hid (HB9.out.trans hB10); clear hN10 hO10 hB10; obtain ⟨A10, c10, hov10⟩ := HO10.out.len; subst hov10; obtain ⟨L10, hL10⟩ : ∃ L10, L5 ++ [(⟨kd, at0, nm, tx, atts⟩, .slice Av atts.length cv)] ++ N10 = L10 := ⟨_, rfl⟩; have HL10 := Lib.hid hL10; have HL10n := Lib.hid (show L10.length = L5.length + 1 + N10.length by rw [← hL10]; simp only [List.length_append, List.length_cons, List.length_nil]); rw [hL10] at HO10 ⊢; clear hL10)
                  have hN10l : N10.length ≤ 1 := by have h9 := congrArg List.length HN10.out; rw [List.length_map] at h9; omega
                  go_roundw
                  case rel => exact ⟨m, m, L10, A10, c10, _, rfl, rfl, rfl, rfl, Nat.le_refl _, by omega, by (have h9 := HL10n.out; omega), Lib.hid (by have h9 := HR2.out; rw [← HL10.out, List.map_append, List.map_append, ← HL5.out, List.map_append, HN5.out, HN10.out]; simpa using h9), HO10, HB10⟩
                  case measure => simp [intOf]; omega
    · have hlt' : ¬ (i : Int) < (s.size : Int) := by omega
      have hie : i = s.size := by omega
      have HV := Lib.hid (HR.out.stop (by omega))
      have hcl := charsL_len s a s.size
      clear hie
      have ha2 : a ≤ s.size := by omega
      go_wp2_with (go_at_call 51; go_must (refine (charsG_q B s a s.size _ L _ HO.out hBr (Nat.le_refl _) (by omega)).mono ?_); rintro e w5 ⟨ov5, N5, rfl, hN5, hO5, hB5, _, _⟩; have HN5 := Lib.hid hN5; have HO5 := Lib.hid hO5; have HB5 := Lib.hid (HB.out.trans hB5); clear hN5 hO5 hB5; obtain ⟨A5, c5, hov5⟩ := HO5.out.len; subst hov5; obtain ⟨L5, hL5⟩ : ∃ L5, L ++ N5 = L5 := ⟨_, rfl⟩; have HL5 := Lib.hid hL5; rw [hL5] at HO5 ⊢; clear hL5)
      all_goals
        have HW := Lib.hid (show toksV s = L5.map (·.1) by rw [HV.out, ← HL5.out, List.map_append, HN5.out])
        go_ret2
        first
          | exact ToksPost.yes HW.out hs (by omega) (by rw [HBe.out]; exact HO5.out) (by rw [HBe.out]; exact HB5.out)
          | exact ToksPost.no (by rw [tokE, if_neg (by omega), if_pos (by rw [HW.out, List.length_map]; omega)]) (by rw [HBe.out]; exact HB5.out)

end Go.Proofs.YtbhildmalcfhiaaGreatDoor

namespace Go.Proofs.YtbhildmalcfhiaaGreatDoor
open Go.RowKit Go.Deep

theorem own_rd {w : World} {B K : Nat} {e : TypeId} {v : Value} {n : Nat} {xs : List Value} (h : w.ownsRow B e K v n xs) : ∃ (A : Option Addr) (c b : Nat), v = .slice A n c ∧ n ≤ c ∧ c ≤ maxLen ∧ (0 < n → A = some ⟨b, 0, none⟩ ∧ b < w.heap.size) ∧ ∀ j x, xs[j]? = some x → w.cell? ⟨b, j, none⟩ = some x := by
  obtain ⟨hl, h2⟩ := h
  rcases h2 with ⟨rfl, rfl⟩ | ⟨g, cap, cur, rfl, hB, hg, hnc, hm, hsz, htake⟩
  · have : xs = [] := List.eq_nil_of_length_eq_zero (by omega)
    subst this
    exact ⟨none, 0, 0, rfl, Nat.le_refl _, by simp [maxLen], fun h => absurd h (by omega), fun i x hx => by simp at hx⟩
  · refine ⟨some ⟨g, 0, none⟩, cap, g, rfl, by omega, hm, fun _ => ⟨rfl, (Array.getElem?_eq_some_iff.1 hg).1⟩, fun i x hx => ?_⟩
    rw [cell_of_row w g i cur e (0, 0) hg]
    rw [← htake, List.getElem?_take] at hx
    split at hx
    · simpa using hx
    · cases hx
theorem flatN {α : Type} (K : Nat) (f : α → List Value) (hf : ∀ a, (f a).length = K) : ∀ (l : List α) (i : Nat) (a : α), l[i]? = some a → ∀ j, j < K → (l.flatMap f)[i * K + j]? = (f a)[j]?
  | [], i, a, h, _, _ => by simp at h
  | b :: r, 0, a, h, j, hj => by
    simp at h
    subst h
    rw [List.flatMap_cons, List.getElem?_append_left (by rw [hf]; omega)]
    simp
  | b :: r, i + 1, a, h, j, hj => by
    rw [List.flatMap_cons, List.getElem?_append_right (by rw [hf, Nat.add_mul]; omega), hf, show (i + 1) * K + j - K = i * K + j by rw [Nat.add_mul]; omega]
    exact flatN K f hf r i a (by simpa using h) j hj
def AttsAt (w : World) (v : Value) (D : List AttrR) : Prop := ∃ (A : Option Addr) (c b : Nat), v = .slice A D.length c ∧ D.length ≤ c ∧ c ≤ maxLen ∧ (D ≠ [] → A = some ⟨b, 0, none⟩) ∧ ∀ i a, D[i]? = some a → w.cell? ⟨b, i * 2, none⟩ = some (.string a.name) ∧ w.cell? ⟨b, i * 2 + 1, none⟩ = some (.string a.value)
theorem AttsAt.of_own {w : World} {B : Nat} {v : Value} {D : List AttrR} (h : w.ownsRow B 68 2 v D.length (attCells D)) : AttsAt w v D := by
  obtain ⟨A, c, b, h1, h2, h3, h4, h5⟩ := own_rd h
  refine ⟨A, c, b, h1, h2, h3, fun hne => (h4 (by cases D; exact absurd rfl hne; simp)).1, fun i a ha => ?_⟩
  have k := flatN 2 (fun a : AttrR => [Value.string a.name, .string a.value]) (fun _ => rfl) D i a ha
  exact ⟨h5 _ _ (k 0 (by omega)), h5 _ _ (k 1 (by omega))⟩
theorem AttsAt.keep {w w' : World} {v : Value} {D : List AttrR} (h : AttsAt w v D) (k : Keeps w w') : AttsAt w' v D := by
  obtain ⟨A, c, b, h1, h2, h3, h4, h5⟩ := h
  exact ⟨A, c, b, h1, h2, h3, h4, fun i a ha => ⟨k _ _ (h5 i a ha).1, k _ _ (h5 i a ha).2⟩⟩

end Go.Proofs.YtbhildmalcfhiaaGreatDoor

namespace Go.Proofs.YtbhildmalcfhiaaGreatDoor
open Go.RowKit Go.Deep

structure FirstT (na nb : Nat) (ca cb : Array Value) (w0 w : World) : Prop where
  a : CB w na 56 ca
  b : CB w nb 56 cb
  bel : Below w0.heap.size w0 w
theorem FirstT.below {na nb : Nat} {ca cb : Array Value} {w0 w w' : World} (h : FirstT na nb ca cb w0 w) (hb : Below w.heap.size w w') : FirstT na nb ca cb w0 w' := ⟨h.a.below hb, h.b.below hb, h.bel.trans (hb.mono h.bel.size)⟩
theorem FirstT.ab (w : World) (ca cb : Array Value) : FirstT w.heap.size (w.heap.size + 1) ca cb w ((w.alloc (.cells ca 56)).alloc (.cells cb 56)).drew :=
  ⟨((CB.new w ca 56).alloc _).drew, by have := CB.new (w.alloc (.cells ca 56)) cb 56; rw [World.size_alloc] at this; exact this.drew, (((Below.refl _ _).alloc (Nat.le_refl _) _).alloc (by simp) _).drew⟩
theorem FirstT.ba (w : World) (ca cb : Array Value) : FirstT (w.heap.size + 1) w.heap.size ca cb w ((w.alloc (.cells cb 56)).alloc (.cells ca 56)).drew :=
  ⟨by have := CB.new (w.alloc (.cells cb 56)) ca 56; rw [World.size_alloc] at this; exact this.drew, ((CB.new w cb 56).alloc _).drew, (((Below.refl _ _).alloc (Nat.le_refl _) _).alloc (by simp) _).drew⟩
def ToksIn (w : World) (v : Value) (L : List (TokR × Value)) : Prop := ∃ (A : Option Addr) (c b : Nat), v = .slice A L.length c ∧ L.length ≤ c ∧ c ≤ maxLen ∧ (L ≠ [] → A = some ⟨b, 0, none⟩) ∧ ∀ i x, L[i]? = some x → AttsAt w x.2 x.1.atts ∧ ∀ j u, (tokRow x)[j]? = some u → w.cell? ⟨b, i * 5 + j, none⟩ = some u
theorem ToksIn.of_own {w : World} {B : Nat} {v : Value} {L : List (TokR × Value)} (h : ToksOwn w B v L) : ToksIn w v L := by
  obtain ⟨A, c, b, h1, h2, h3, h4, h5⟩ := own_rd h.row
  refine ⟨A, c, b, h1, h2, h3, fun hne => (h4 (by cases L; exact absurd rfl hne; simp)).1, fun i x hx => ⟨.of_own (h.att x (List.mem_of_getElem? hx)), fun j u hu => ?_⟩⟩
  have hj : j < 5 := (List.getElem?_eq_some_iff.1 hu).1
  exact h5 _ _ ((flatN 5 tokRow (fun _ => rfl) L i x hx j hj).trans hu)
theorem ToksIn.keep {w w' : World} {v : Value} {L : List (TokR × Value)} (h : ToksIn w v L) (k : Keeps w w') : ToksIn w' v L := by
  obtain ⟨A, c, b, h1, h2, h3, h4, h5⟩ := h
  exact ⟨A, c, b, h1, h2, h3, h4, fun i a ha => ⟨(h5 i a ha).1.keep k, fun j u hu => k _ _ ((h5 i a ha).2 j u hu)⟩⟩

end Go.Proofs.YtbhildmalcfhiaaGreatDoor
