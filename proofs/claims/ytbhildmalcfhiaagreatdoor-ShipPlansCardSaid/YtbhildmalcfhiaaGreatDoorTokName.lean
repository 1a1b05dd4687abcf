/-
  Tokens: the scanner's name and value.
-/
import Derived.Test.YtbhildmalcfhiaaGreatDoorTokScan
import Derived.StillTailTactics
namespace Go.Proofs.YtbhildmalcfhiaaGreatDoor
open Go.RowKit Go.Deep

def iOf (w : World) (bx : Nat) : Nat := match w.cell? ⟨bx, 1, none⟩ with
  | some (.int _ n) => n.toNat
  | _ => 0
theorem lowerT_q (s z : ByteArray) (w : World) (hs : s.size ≤ 1073741824) (hz : lowBA s = z) : Calls Tryz.prog 123 #[.string s] w fun e w' => e = .returned (.string z) ∧ Below w.heap.size w w' := by
  subst hz
  exact shipLower_any s w hs
theorem iOf_scan {w : World} {bx : Nat} {s : ByteArray} {i : Nat} {ov : Value} (h : ScanAt w bx s i ov) : iOf w bx = i := by
  have b1 : w.cell? ⟨bx, 1, none⟩ = some (.int .i64 (i : Int)) := CB.c h 1
  rw [iOf, b1]
  simp

set_option maxRecDepth 100000 in
set_option maxHeartbeats 4000000 in
theorem nameT_q (bx : Nat) (s : ByteArray) (i : Nat) (ov : Value) (w : World) (hX : ScanAt w bx s i ov) (hi : i ≤ s.size) (hs : s.size ≤ 1048576) :
    Calls Tryz.prog 82 #[.pointer (some ⟨bx, 0, none⟩), .func (.func 83) #[] #[]] w fun e w' =>
      e = .returned (.string (lowBA (s.extract i (skipTo tagN s i)))) ∧ ScanAt w' bx s (skipTo tagN s i) ov ∧ GrownX (fun x => x = bx) w w' := by
  have b1 : w.cell? ⟨bx, 1, none⟩ = some (.int .i64 (i : Int)) := hX.c 1
  have hlt : bx < w.heap.size := hX.lt
  have HX := Lib.hid hX; clear hX
  go_enter Tryz.func82, Tryz.ntmps82
  go_wp2_with fail
  clear b1 hlt
  go_loopw [] (fun wr => ∃ k : Nat, i ≤ k ∧ k ≤ s.size ∧ Hid (ScanAt wr bx s k ov) ∧ Hid (GrownX (fun x => x = bx) w wr) ∧ Hid (skipTo tagN s i = skipTo tagN s k)) (fun wr => s.size - iOf wr bx)
  case atStart => exact ⟨i, Nat.le_refl _, hi, HX, GrownX.refl _ _, rfl⟩
  case round =>
    clear HX
    obtain ⟨k, hik, hk, HX2, HG, HS⟩ := hrel
    have b0 : wr.cell? ⟨bx, 0, none⟩ = some (.string s) := HX2.out.c 0
    have b1 : wr.cell? ⟨bx, 1, none⟩ = some (.int .i64 (k : Int)) := HX2.out.c 1
    have bf1 := HX2.out.f 1
    have bsh : wr.shape? bx = some (97, 3) := HX2.out.sh
    have hlt : bx < wr.heap.size := HX2.out.lt
    have hi0 : (0 : Int) ≤ (i : Int) := by omega
    have hi1 : (i : Int) ≤ (k : Int) := by omega
    have hk0 : (0 : Int) ≤ (k : Int) := by omega
    have hk1 : (k : Int) ≤ (s.size : Int) := by omega
    by_cases hks : k < s.size
    · have hks' : (k : Int) < (s.size : Int) := by omega
      obtain ⟨n, hn⟩ : ∃ n, nAt s k = n := ⟨_, rfl⟩
      have e0 : ((s[k]'hks).toNat : Int) = n := by rw [bAt_idx hks]; exact hn
      cases hp : tagN n with
      | true =>
        have HP := Lib.hid hp
        have HS2 := Lib.hid (HS.out.trans (skip_in hks (by rw [hn]; exact hp)))
        clear hp hn
        go_wp2_with fail
        go_quiet ((go_at_call 83; exact Calls.quiet_of_same ((tagB_q n true _ HP.out).mono fun _ _ ⟨h1, h2⟩ => ⟨h1, h2.symm⟩)))
        go_wp2_with fail
        go_roundw
        case rel => exact ⟨k + 1, by omega, by omega, HX2.out.go _ (by omega) _, (HG.out.drewN _).set (Or.inl rfl) 1 _, HS2.out⟩
        case measure =>
          rw [iOf_scan HX2.out, iOf_scan (HX2.out.go (j := k + 1) _ (by omega) _)]
          omega
      | false =>
        have HP := Lib.hid hp
        have HS := Lib.hid (HS.out.trans (skip_out hks (by rw [hn]; exact hp)))
        clear hp hn
        go_wp2_with fail
        go_quiet ((go_at_call 83; exact Calls.quiet_of_same ((tagB_q n false _ HP.out).mono fun _ _ ⟨h1, h2⟩ => ⟨h1, h2.symm⟩)))
        go_wp2_with fail
        obtain ⟨W, hW⟩ : ∃ W, wr.drewN nq = W := ⟨_, rfl⟩
        have HX3 := Lib.hid (show ScanAt W bx s k ov by rw [← hW]; exact HX2.out.drewN _)
        have HG3 := Lib.hid (show GrownX (fun x => x = bx) w W by rw [← hW]; exact HG.out.drewN _)
        rw [hW]
        obtain ⟨z, hz⟩ : ∃ z, lowBA (s.extract i k) = z := ⟨_, rfl⟩
        have HZ := Lib.hid hz; clear hz
        clear hW b0 b1 bf1 bsh hlt
        have b0 : W.cell? ⟨bx, 0, none⟩ = some (.string s) := HX3.out.c 0
        have b1 : W.cell? ⟨bx, 1, none⟩ = some (.int .i64 (k : Int)) := HX3.out.c 1
        have hlt : bx < W.heap.size := HX3.out.lt
        go_still_tail 10, (by kernel_rfl)
        change wpList _ _ _ _ _ (World.drew W)
        go_wp2_with (go_at_call 123; go_must (refine (lowerT_q _ z _ (by rw [ext_size s hk]; omega) HZ.out).mono ?_); rintro e w5 ⟨rfl, hb5⟩; have HB5 := Lib.hid hb5; clear hb5)
        go_ret
        rw [HS.out, HZ.out]
        exact ⟨rfl, HX3.out.drew.below HB5.out, HG3.out.drew.trans (.of_below HB5.out)⟩
    · have hks' : ¬ (k : Int) < (s.size : Int) := by omega
      have HS := Lib.hid (HS.out.trans (skip_end (by omega)))
      go_wp2_with fail
      go_quiet (fail)
      go_wp2_with fail
      obtain ⟨W, hW⟩ : ∃ W, wr.drewN nq = W := ⟨_, rfl⟩
      have HX3 := Lib.hid (show ScanAt W bx s k ov by rw [← hW]; exact HX2.out.drewN _)
      have HG3 := Lib.hid (show GrownX (fun x => x = bx) w W by rw [← hW]; exact HG.out.drewN _)
      rw [hW]
      obtain ⟨z, hz⟩ : ∃ z, lowBA (s.extract i k) = z := ⟨_, rfl⟩
      have HZ := Lib.hid hz; clear hz
      clear hW b0 b1 bf1 bsh hlt
      have b0 : W.cell? ⟨bx, 0, none⟩ = some (.string s) := HX3.out.c 0
      have b1 : W.cell? ⟨bx, 1, none⟩ = some (.int .i64 (k : Int)) := HX3.out.c 1
      have hlt : bx < W.heap.size := HX3.out.lt
      go_still_tail 10, (by kernel_rfl)
      change wpList _ _ _ _ _ (World.drew W)
      go_wp2_with (go_at_call 123; go_must (refine (lowerT_q _ z _ (by rw [ext_size s hk]; omega) HZ.out).mono ?_); rintro e w5 ⟨rfl, hb5⟩; have HB5 := Lib.hid hb5; clear hb5)
      go_ret
      rw [HS.out, HZ.out]
      exact ⟨rfl, HX3.out.drew.below HB5.out, HG3.out.drew.trans (.of_below HB5.out)⟩

set_option maxRecDepth 100000 in
set_option maxHeartbeats 4000000 in
theorem nameA_q (bx : Nat) (s : ByteArray) (i : Nat) (ov : Value) (w : World) (hX : ScanAt w bx s i ov) (hi : i ≤ s.size) (hs : s.size ≤ 1048576) :
    Calls Tryz.prog 82 #[.pointer (some ⟨bx, 0, none⟩), .func (.func 125) #[] #[]] w fun e w' =>
      e = .returned (.string (lowBA (s.extract i (skipTo attN s i)))) ∧ ScanAt w' bx s (skipTo attN s i) ov ∧ GrownX (fun x => x = bx) w w' := by
  have b1 : w.cell? ⟨bx, 1, none⟩ = some (.int .i64 (i : Int)) := hX.c 1
  have hlt : bx < w.heap.size := hX.lt
  have HX := Lib.hid hX; clear hX
  go_enter Tryz.func82, Tryz.ntmps82
  go_wp2_with fail
  clear b1 hlt
  go_loopw [] (fun wr => ∃ k : Nat, i ≤ k ∧ k ≤ s.size ∧ Hid (ScanAt wr bx s k ov) ∧ Hid (GrownX (fun x => x = bx) w wr) ∧ Hid (skipTo attN s i = skipTo attN s k)) (fun wr => s.size - iOf wr bx)
  case atStart => exact ⟨i, Nat.le_refl _, hi, HX, GrownX.refl _ _, rfl⟩
  case round =>
    clear HX
    obtain ⟨k, hik, hk, HX2, HG, HS⟩ := hrel
    have b0 : wr.cell? ⟨bx, 0, none⟩ = some (.string s) := HX2.out.c 0
    have b1 : wr.cell? ⟨bx, 1, none⟩ = some (.int .i64 (k : Int)) := HX2.out.c 1
    have bf1 := HX2.out.f 1
    have bsh : wr.shape? bx = some (97, 3) := HX2.out.sh
    have hlt : bx < wr.heap.size := HX2.out.lt
    have hi0 : (0 : Int) ≤ (i : Int) := by omega
    have hi1 : (i : Int) ≤ (k : Int) := by omega
    have hk0 : (0 : Int) ≤ (k : Int) := by omega
    have hk1 : (k : Int) ≤ (s.size : Int) := by omega
    by_cases hks : k < s.size
    · have hks' : (k : Int) < (s.size : Int) := by omega
      obtain ⟨n, hn⟩ : ∃ n, nAt s k = n := ⟨_, rfl⟩
      have e0 : ((s[k]'hks).toNat : Int) = n := by rw [bAt_idx hks]; exact hn
      cases hp : attN n with
      | true =>
        have HP := Lib.hid hp
        have HS2 := Lib.hid (HS.out.trans (skip_in hks (by rw [hn]; exact hp)))
        clear hp hn
        go_wp2_with fail
        go_quiet ((go_at_call 125; exact Calls.quiet_of_same ((attB_q n true _ HP.out).mono fun _ _ ⟨h1, h2⟩ => ⟨h1, h2.symm⟩)))
        go_wp2_with fail
        go_roundw
        case rel => exact ⟨k + 1, by omega, by omega, HX2.out.go _ (by omega) _, (HG.out.drewN _).set (Or.inl rfl) 1 _, HS2.out⟩
        case measure =>
          rw [iOf_scan HX2.out, iOf_scan (HX2.out.go (j := k + 1) _ (by omega) _)]
          omega
      | false =>
        have HP := Lib.hid hp
        have HS := Lib.hid (HS.out.trans (skip_out hks (by rw [hn]; exact hp)))
        clear hp hn
        go_wp2_with fail
        go_quiet ((go_at_call 125; exact Calls.quiet_of_same ((attB_q n false _ HP.out).mono fun _ _ ⟨h1, h2⟩ => ⟨h1, h2.symm⟩)))
        go_wp2_with fail
        obtain ⟨W, hW⟩ : ∃ W, wr.drewN nq = W := ⟨_, rfl⟩
        have HX3 := Lib.hid (show ScanAt W bx s k ov by rw [← hW]; exact HX2.out.drewN _)
        have HG3 := Lib.hid (show GrownX (fun x => x = bx) w W by rw [← hW]; exact HG.out.drewN _)
        rw [hW]
        obtain ⟨z, hz⟩ : ∃ z, lowBA (s.extract i k) = z := ⟨_, rfl⟩
        have HZ := Lib.hid hz; clear hz
        clear hW b0 b1 bf1 bsh hlt
        have b0 : W.cell? ⟨bx, 0, none⟩ = some (.string s) := HX3.out.c 0
        have b1 : W.cell? ⟨bx, 1, none⟩ = some (.int .i64 (k : Int)) := HX3.out.c 1
        have hlt : bx < W.heap.size := HX3.out.lt
        go_still_tail 10, (by kernel_rfl)
        change wpList _ _ _ _ _ (World.drew W)
        go_wp2_with (go_at_call 123; go_must (refine (lowerT_q _ z _ (by rw [ext_size s hk]; omega) HZ.out).mono ?_); rintro e w5 ⟨rfl, hb5⟩; have HB5 := Lib.hid hb5; clear hb5)
        go_ret
        rw [HS.out, HZ.out]
        exact ⟨rfl, HX3.out.drew.below HB5.out, HG3.out.drew.trans (.of_below HB5.out)⟩
    · have hks' : ¬ (k : Int) < (s.size : Int) := by omega
      have HS := Lib.hid (HS.out.trans (skip_end (by omega)))
      go_wp2_with fail
      go_quiet (fail)
      go_wp2_with fail
      obtain ⟨W, hW⟩ : ∃ W, wr.drewN nq = W := ⟨_, rfl⟩
      have HX3 := Lib.hid (show ScanAt W bx s k ov by rw [← hW]; exact HX2.out.drewN _)
      have HG3 := Lib.hid (show GrownX (fun x => x = bx) w W by rw [← hW]; exact HG.out.drewN _)
      rw [hW]
      obtain ⟨z, hz⟩ : ∃ z, lowBA (s.extract i k) = z := ⟨_, rfl⟩
      have HZ := Lib.hid hz; clear hz
      clear hW b0 b1 bf1 bsh hlt
      have b0 : W.cell? ⟨bx, 0, none⟩ = some (.string s) := HX3.out.c 0
      have b1 : W.cell? ⟨bx, 1, none⟩ = some (.int .i64 (k : Int)) := HX3.out.c 1
      have hlt : bx < W.heap.size := HX3.out.lt
      go_still_tail 10, (by kernel_rfl)
      change wpList _ _ _ _ _ (World.drew W)
      go_wp2_with (go_at_call 123; go_must (refine (lowerT_q _ z _ (by rw [ext_size s hk]; omega) HZ.out).mono ?_); rintro e w5 ⟨rfl, hb5⟩; have HB5 := Lib.hid hb5; clear hb5)
      go_ret
      rw [HS.out, HZ.out]
      exact ⟨rfl, HX3.out.drew.below HB5.out, HG3.out.drew.trans (.of_below HB5.out)⟩

end Go.Proofs.YtbhildmalcfhiaaGreatDoor
