/-
  Tokens: the scanner's value.
-/
import Derived.Test.YtbhildmalcfhiaaGreatDoorTokName
namespace Go.Proofs.YtbhildmalcfhiaaGreatDoor
open Go.RowKit Go.Deep

theorem ext_none (s : ByteArray) (i : Nat) : s.extract i i = ByteArray.empty := by
  apply Go.WideShapes.bytes_inj
  rw [ByteArray.data_extract, Array.toList_extract]
  simp [List.extract]
/-- a value's text, and where one goes on -/
def valR (s : ByteArray) (i : Nat) : ByteArray × Nat :=
  if i < s.size ∧ nAt s i = 34 then (s.extract (i + 1) (upE s (i + 1) [34]), upN s (i + 1) [34]) else (s.extract i (skipTo valN s i), skipTo valN s i)
theorem valR_att {s : ByteArray} {k : Nat} (h : k < s.size) (h1 : nAt s k = 61) : attVal s k = (unBA (valR s (k + 1)).1, (valR s (k + 1)).2) := by
  by_cases h2 : k + 1 < s.size ∧ nAt s (k + 1) = 34
  · rw [attVal_q h h1 h2.1 h2.2, valR, if_pos h2]
  · rw [attVal_u h h1 h2, valR, if_neg h2]
theorem valR_le {s : ByteArray} {i : Nat} (h : i ≤ s.size) : i ≤ (valR s i).2 ∧ (valR s i).2 ≤ s.size ∧ (valR s i).1.size ≤ s.size := by
  by_cases h2 : i < s.size ∧ nAt s i = 34
  · rw [valR, if_pos h2]
    have := upE_le (s := s) (i := i + 1) (t := [34]) (by omega)
    have h9 := ext_size s (a := i + 1) (b := upE s (i + 1) [34]) (by omega)
    simp only
    omega
  · rw [valR, if_neg h2]
    have := skip_le (p := valN) h
    have h9 := ext_size s (a := i) (b := skipTo valN s i) (by omega)
    simp only
    omega

set_option maxRecDepth 100000 in
set_option maxHeartbeats 4000000 in
theorem value_q (B bx : Nat) (s : ByteArray) (i : Nat) (ov : Value) (w : World) (hX : ScanAt w bx s i ov) (hi : i ≤ s.size) (hs : s.size ≤ 1048576) (hm : MaxT B w) (hB : B ≤ bx) :
    Calls Tryz.prog 127 #[.pointer (some ⟨bx, 0, none⟩)] w fun e w' =>
      e = .returned (.string (valR s i).1) ∧ ScanAt w' bx s (valR s i).2 ov ∧ GrownX (fun x => x = bx) w w' := by
  have b0 : w.cell? ⟨bx, 0, none⟩ = some (.string s) := hX.c 0
  have b1 : w.cell? ⟨bx, 1, none⟩ = some (.int .i64 (i : Int)) := hX.c 1
  have bf1 := hX.f 1
  have bsh : w.shape? bx = some (97, 3) := hX.sh
  have hlt : bx < w.heap.size := hX.lt
  have HX := Lib.hid hX; clear hX
  have HM := Lib.hid hm; clear hm
  have hi0 : (0 : Int) ≤ (i : Int) := by omega
  by_cases hq : i < s.size ∧ nAt s i = 34
  · have his := hq.1
    have his' : (i : Int) < (s.size : Int) := by omega
    have e0 : ((s[i]'his).toNat : Int) = 34 := by rw [bAt_idx his]; exact hq.2
    have HR := Lib.hid (show valR s i = (s.extract (i + 1) (upE s (i + 1) [34]), upN s (i + 1) [34]) by rw [valR, if_pos hq])
    clear hq
    go_enter Tryz.func127, Tryz.ntmps127
    go_wp2_with fail
    go_quiet (fail)
    go_wp2_with (go_at_call 81; go_must (refine (upTo_q B bx s (i + 1) ov ⟨#[34]⟩ _ (HX.out.go _ (by omega) _) (by omega) hs (by decide) (HM.out.keep ((Below.drewN' (Below.refl _ _) _).setCell hB _))).mono ?_); rintro e w5 ⟨rfl, hX5, hG5⟩; have HX5 := Lib.hid hX5; clear hX5; have HG5 := Lib.hid hG5; clear hG5)
    go_ret
    rw [HR.out]
    exact ⟨rfl, HX5.out, (GrownX.one _ _ _ _ _).trans HG5.out⟩
  · have HR := Lib.hid (show valR s i = (s.extract i (skipTo valN s i), skipTo valN s i) by rw [valR, if_neg hq])
    have e1 : i < s.size → ∃ h : i < s.size, ((s[i]'h).toNat : Int) = nAt s i ∧ ((nAt s i) == 34) = false := fun h => ⟨h, by rw [bAt_idx h]; rfl, by simpa using fun e => hq ⟨h, e⟩⟩
    clear hq
    go_enter Tryz.func127, Tryz.ntmps127
    go_wp2_with fail
    by_cases his : i < s.size
    · have his' : (i : Int) < (s.size : Int) := by omega
      obtain ⟨_, e0, e2⟩ := e1 his
      clear e1
      go_quiet (fail)
      go_wp2_with fail
      clear e0 e2 his' his
      clear b0 b1 bf1 bsh hlt
      go_loopw [] (fun wr => ∃ k : Nat, i ≤ k ∧ k ≤ s.size ∧ Hid (ScanAt wr bx s k ov) ∧ Hid (GrownX (fun x => x = bx) w wr) ∧ Hid (skipTo valN s i = skipTo valN s k)) (fun wr => s.size - iOf wr bx)
      case atStart => exact ⟨i, Nat.le_refl _, hi, HX.out.drewN _, (GrownX.refl _ _).drewN _, rfl⟩
      case round =>
        clear HX HM
        obtain ⟨k, hik, hk, HX2, HG, HS⟩ := hrel
        have b0 : wr.cell? ⟨bx, 0, none⟩ = some (.string s) := HX2.out.c 0
        have b1 : wr.cell? ⟨bx, 1, none⟩ = some (.int .i64 (k : Int)) := HX2.out.c 1
        have bf1 := HX2.out.f 1
        have bsh : wr.shape? bx = some (97, 3) := HX2.out.sh
        have hlt : bx < wr.heap.size := HX2.out.lt
        have hi1 : (i : Int) ≤ (k : Int) := by omega
        have hk0 : (0 : Int) ≤ (k : Int) := by omega
        have hk1 : (k : Int) ≤ (s.size : Int) := by omega
        by_cases hks : k < s.size
        · have hks' : (k : Int) < (s.size : Int) := by omega
          obtain ⟨n, hn⟩ : ∃ n, nAt s k = n := ⟨_, rfl⟩
          have e5 : ((s[k]'hks).toNat : Int) = n := by rw [bAt_idx hks]; exact hn
          obtain ⟨g, hg⟩ : ∃ a, gapN n = a := ⟨_, rfl⟩
          obtain ⟨z, hz⟩ : ∃ a, (n == 62) = a := ⟨_, rfl⟩
          have HV := Lib.hid (show valN (nAt s k) = (!g && !z) by rw [valN, hn, hg, hz])
          have HP := Lib.hid hg
          clear hn hg
          cases g with
          | true =>
            have HS := Lib.hid (HS.out.trans (skip_out hks HV.out))
            go_wp2_with fail
            go_quiet ((go_at_call 162; exact Calls.quiet_of_same ((space_q n true _ HP.out).mono fun _ _ ⟨h1, h2⟩ => ⟨h1, h2.symm⟩)))
            go_wp2_with fail
            go_quiet (fail)
            go_wp2_with fail
            go_ret
            rw [HR.out, HS.out]
            exact ⟨rfl, (HX2.out.drewN _).drewN _, (HG.out.drewN _).drewN _⟩
          | false =>
            cases z with
            | true =>
              have HS := Lib.hid (HS.out.trans (skip_out hks HV.out))
              go_wp2_with fail
              go_quiet ((go_at_call 162; exact Calls.quiet_of_same ((space_q n false _ HP.out).mono fun _ _ ⟨h1, h2⟩ => ⟨h1, h2.symm⟩)))
              go_wp2_with fail
              go_quiet (fail)
              go_wp2_with fail
              go_ret
              rw [HR.out, HS.out]
              exact ⟨rfl, (HX2.out.drewN _).drewN _, (HG.out.drewN _).drewN _⟩
            | false =>
              have HS2 := Lib.hid (HS.out.trans (skip_in hks HV.out))
              go_wp2_with fail
              go_quiet ((go_at_call 162; exact Calls.quiet_of_same ((space_q n false _ HP.out).mono fun _ _ ⟨h1, h2⟩ => ⟨h1, h2.symm⟩)))
              go_wp2_with fail
              go_roundw
              case rel => exact ⟨k + 1, by omega, by omega, HX2.out.go _ (by omega) _, (HG.out.drewN _).set (Or.inl rfl) 1 _, HS2.out⟩
              case measure =>
                rw [iOf_scan HX2.out, iOf_scan (HX2.out.go (j := k + 1) _ (by omega) _)]
                omega
        · have hks' : ¬ (k : Int) < (s.size : Int) := by omega
          have HS := Lib.hid (HS.out.trans (skip_end (by omega)))
          go_wp2_with fail
          go_quiet (fail)
          go_wp2_with fail
          go_quiet (fail)
          go_wp2_with fail
          go_ret
          rw [HR.out, HS.out]
          exact ⟨rfl, (HX2.out.drewN _).drewN _, (HG.out.drewN _).drewN _⟩
    · have his' : ¬ (i : Int) < (s.size : Int) := by omega
      have HS := Lib.hid (show skipTo valN s i = i from skip_end (by omega))
      have HEm := Lib.hid (show s.extract i i = ByteArray.empty from ext_none s i)
      clear e1
      go_quiet (fail)
      go_wp2_with fail
      clear b0 b1 bf1 bsh hlt
      go_loopw [] (fun wr => Hid (ScanAt wr bx s i ov) ∧ Hid (GrownX (fun x => x = bx) w wr)) (fun _ => 0)
      case atStart => exact ⟨HX.out.drewN _, (GrownX.refl _ _).drewN _⟩
      case round =>
        clear HX HM
        obtain ⟨HX2, HG⟩ := hrel
        have b0 : wr.cell? ⟨bx, 0, none⟩ = some (.string s) := HX2.out.c 0
        have b1 : wr.cell? ⟨bx, 1, none⟩ = some (.int .i64 (i : Int)) := HX2.out.c 1
        have hlt : bx < wr.heap.size := HX2.out.lt
        have hi1 : (i : Int) ≤ (s.size : Int) := by omega
        go_wp2_with fail
        go_quiet (fail)
        go_wp2_with fail
        go_quiet (fail)
        go_wp2_with fail
        go_ret
        rw [HR.out, HS.out]
        simp only [HEm.out]
        exact ⟨rfl, (HX2.out.drewN _).drewN _, (HG.out.drewN _).drewN _⟩

end Go.Proofs.YtbhildmalcfhiaaGreatDoor
