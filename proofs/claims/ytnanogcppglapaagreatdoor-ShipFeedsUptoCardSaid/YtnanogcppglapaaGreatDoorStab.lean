/-
  sort.swapRange_func, rotate_func at rows of structs.
-/
import Derived.Test.YtnanogcppglapaaGreatDoorStabPlain
import Derived.Test.YtnanogcppglapaaGreatDoorBase
import Derived.Test.YtnanogcppglapaaGreatDoorShelf
import Derived.Shelf.SlSortFuncK.SWK
import Derived.Deep.DeepMust
namespace Go.Proofs.YtnanogcppglapaaGreatDoor
open Go.RowKit Go.Deep Go.Sort

section
variable {α : Type} [Inhabited α]

variable {enc : α → List Value} {k : Nat} {lt : α → α → Bool} {g : Nat} {lb : Array Value} {sf : Nat} {sb : Array Value} {blk off size : Nat} {W : World}

theorem swk_on {d dk : Array α} {W1 wr : World} (h1 : SWK enc k W blk off d W1) (hblk : blk < W.heap.size) (h : SWK enc k W1 blk off dk wr) (hs : dk.size = d.size) : SWK enc k W blk off dk wr := by
  obtain ⟨n, os, rfl⟩ := h
  exact h1.on hblk n dk os hs
theorem swk_grow {dk : Array α} {wr : World} (h : SWK enc k W blk off dk wr) (os' : Array Obj) : SWK enc k W blk off dk (grow wr os') := by
  obtain ⟨n, os, rfl⟩ := h
  exact ⟨n, os ++ os', by unfold sortWorldK; rw [grow_grow]⟩
theorem swk_below {dk : Array α} {wr : World} {os0 : Array Obj} (h : SWK enc k (grow W os0) blk off dk wr) (hblk : blk < W.heap.size) : SWK enc k W blk off dk wr := by
  obtain ⟨n, os, rfl⟩ := h
  exact ⟨n, os0 ++ os, by unfold sortWorldK; rw [ahead_grow, putRowK_grow enc k (Sort.ahead W n) _ blk off _ hblk, grow_grow]⟩
/-- 'less' in whatever world of the family: it reads, and may make memory of its own -/
def LessG (P : Program) (g : Nat) (lb : Array Value) (enc : α → List Value) (k : Nat) (lt : α → α → Bool) (blk off size : Nat) (W : World) : Prop :=
  ∀ (dk : Array α) (wr : World), SWK enc k W blk off dk wr → dk.size = size → ∀ i j : Nat, i < size → j < size →
    Calls P g (#[.int .i64 i, .int .i64 j] ++ lb) wr fun e w' => e = .returned (.bool (lt dk[i]! dk[j]!)) ∧ ∃ q os, w' = grow (wr.drewN q) os
theorem LessG.of_reads {P : Program} (h : LessReadsK P g lb enc k lt blk off size W) : LessG P g lb enc k lt blk off size W := fun _ _ hs hz i j hi hj =>
  (hs.less h hz i j hi hj).mono fun _ _ ⟨h1, q, h2⟩ => ⟨h1, q, #[], by rw [h2, grow_empty]⟩
theorem LessG.grow {P : Program} (h : LessG P g lb enc k lt blk off size W) (hblk : blk < W.heap.size) (os0 : Array Obj) : LessG P g lb enc k lt blk off size (grow W os0) := fun dk wr hs hz => h dk wr (swk_below hs hblk) hz
theorem LessG.on {P : Program} (h : LessG P g lb enc k lt blk off size W) (hblk : blk < W.heap.size) {dk : Array α} {wr : World} (hs : SWK enc k W blk off dk wr) (hz : dk.size = size) : LessG P g lb enc k lt blk off size wr := fun dk2 w2 h2 hz2 =>
  h dk2 w2 (swk_on hs hblk h2 (hz2.trans hz.symm)) hz2

/-- what a sort's helpers are called with -/
structure SEnv (enc : α → List Value) (k : Nat) (lt : α → α → Bool) (g : Nat) (lb : Array Value) (sf : Nat) (sb : Array Value) (blk off size : Nat) (W : World) : Prop where
  hk : ∀ x, (enc x).length = k
  eg : ∀ args w, (callFunc g args).run Tryz.prog w = .ok (.enter g args) w
  less : LessG Tryz.prog g lb enc k lt blk off size W
  swap : SwapSwapsK Tryz.prog sf sb enc k blk off size
  hlt : blk < W.heap.size
  sz : size < 4611686018427387904


theorem SEnv.alloc (E : SEnv enc k lt g lb sf sb blk off size W) (o : Obj) : SEnv enc k lt g lb sf sb blk off size (W.alloc o) :=
  ⟨E.hk, E.eg, by rw [alloc_eq_grow]; exact E.less.grow E.hlt _, E.swap, by have := E.hlt; rw [World.size_alloc]; omega, E.sz⟩
theorem SEnv.on (E : SEnv enc k lt g lb sf sb blk off size W) {dk : Array α} {wr : World} (h : SWK enc k W blk off dk wr) (hs : dk.size = size) : SEnv enc k lt g lb sf sb blk off size wr :=
  ⟨E.hk, E.eg, E.less.on E.hlt h hs, E.swap, h.lt E.hlt, E.sz⟩
/-- the box lies as it lay -/
theorem swk_cell {dk : Array α} {wr : World} (h : SWK enc k W blk off dk wr) (b o : Nat) (hb : b ≠ blk) (hl : b < W.heap.size) : wr.cell? ⟨b, o, none⟩ = W.cell? ⟨b, o, none⟩ := by
  obtain ⟨n, os, rfl⟩ := h
  unfold sortWorldK
  rw [cell?_grow _ _ _ (by rw [size_putRowK]; exact hl), cell?_putRowK_other enc k _ blk off dk _ hb]
  rfl
theorem swk_box {d : Array α} (hH : HoldsK enc k W blk off d) (o : Obj) : SWK enc k W blk off d (W.alloc o) := (SWK.start hH).alloc o
theorem holds_box {d : Array α} (hH : HoldsK enc k W blk off d) (hblk : blk < W.heap.size) (o : Obj) : HoldsK enc k (W.alloc o) blk off d := by
  rw [alloc_eq_grow]; exact holdsK_grow enc k W _ blk off d hblk hH

/-- two calls' worth of 'less' and 'swap' -/
abbrev dataV (g : Nat) (lb : Array Value) (sf : Nat) (sb : Array Value) : Value := .agg #[.func (.func g) #[] lb, .func (.func sf) #[] sb]
abbrev dataB (g : Nat) (lb : Array Value) (sf : Nat) (sb : Array Value) : Obj := .cells #[.func (.func g) #[] lb, .func (.func sf) #[] sb] 87

def SwapPost (enc : α → List Value) (k blk off a b n : Nat) (d : Array α) (W : World) (e : Ending) (w' : World) : Prop := e = .returned (.tuple #[]) ∧ ∃ d', Swapped d d' a b n ∧ SWK enc k W blk off d' w'

set_option maxHeartbeats 2000000 in
set_option maxRecDepth 100000 in
theorem swapRange_w (a b n : Nat) (d : Array α) (E : SEnv enc k lt g lb sf sb blk off d.size W) (hH : HoldsK enc k W blk off d) (hab : a + n ≤ b) (hb : b + n ≤ d.size) :
    Calls Tryz.prog 101 #[dataV g lb sf sb, .int .i64 a, .int .i64 b, .int .i64 n] W (SwapPost enc k blk off a b n d W) := by
  have hsz := E.sz
  have hblk := E.hlt
  have hk := E.hk
  have hswap := E.swap
  have HE1 := Lib.hid (E.alloc (dataB g lb sf sb))
  have HH1 := Lib.hid (holds_box hH hblk (dataB g lb sf sb))
  have HS1 := Lib.hid (swk_box hH (dataB g lb sf sb))
  have HB := Lib.hid hblk
  have HSw := Lib.hid hswap
  have HK := Lib.hid hk
  clear hH E hswap hk
  go_enter Tryz.func101, Tryz.ntmps101
  go_wp2_with fail
  go_loopw [8] (fun v8 wr => ∃ (i : Nat) (dk : Array α), v8 = .int .i64 i ∧ i ≤ n ∧ Hid (Swapped d dk a b i) ∧ Hid (SWK enc k (W.alloc (dataB g lb sf sb)) blk off dk wr)) (fun v8 _ => n - (intOf v8).toNat)
  case atStart => exact ⟨0, d, rfl, Nat.zero_le _, Swapped.start _ _ _, SWK.start HH1.out⟩
  case round =>
    obtain ⟨i, dk, rfl, hi, hsw, hK⟩ := hrel
    by_cases hlt : i < n
    · have hds : dk.size = d.size := hsw.out.size
      have c1 : wr.cell? ⟨W.heap.size, 1, none⟩ = some (.func (.func sf) #[] sb) := by
        rw [swk_cell hK.out _ _ (by omega) (by rw [World.size_alloc]; omega)]; simp
      have hs := HSw.out wr dk (hK.out.holds HE1.out.hlt HH1.out hds) hds (a + i) (b + i) (by omega) (by omega)
      rw [show (((a + i : Nat)) : Int) = (a : Int) + (i : Int) by omega, show (((b + i : Nat)) : Int) = (b : Int) + (i : Int) by omega] at hs
      have hK2 := Lib.hid (hK.out.swap HK.out HE1.out.hlt (a + i) (b + i) (by omega) (by omega))
      have hsw2 := Lib.hid (hsw.out.step (by omega) (by omega))
      go_wp2_with fail
      go_roundw
      case rel => exact ⟨i + 1, _, by go_num, by omega, hsw2, hK2⟩
      case measure => simp [intOf]; omega
    · have hin : i = n := by omega
      subst hin
      go_wp2_with fail
      go_end0
      exact ⟨rfl, dk, hsw.out, swk_on HS1.out HB.out hK.out hsw.out.size⟩

def RotPost (enc : α → List Value) (k blk off a m b : Nat) (d : Array α) (W : World) (e : Ending) (w' : World) : Prop := e = .returned (.tuple #[]) ∧ ∃ d', Rotated d d' a m b ∧ SWK enc k W blk off d' w'

set_option maxHeartbeats 2000000 in
set_option maxRecDepth 100000 in
theorem rotate_w (a m b : Nat) (d : Array α) (E : SEnv enc k lt g lb sf sb blk off d.size W) (hH : HoldsK enc k W blk off d) (ham : a < m) (hmb : m < b) (hb : b ≤ d.size) :
    Calls Tryz.prog 91 #[dataV g lb sf sb, .int .i64 a, .int .i64 m, .int .i64 b] W (RotPost enc k blk off a m b d W) := by
  have hsz := E.sz
  have hblk := E.hlt
  have HE1 := Lib.hid (E.alloc (dataB g lb sf sb))
  have HH1 := Lib.hid (holds_box hH hblk (dataB g lb sf sb))
  have HS1 := Lib.hid (swk_box hH (dataB g lb sf sb))
  have HB := Lib.hid hblk
  clear hH E
  go_enter Tryz.func91, Tryz.ntmps91
  go_wp2_with fail
  go_loopw [8, 9] (fun v8 v9 wr => ∃ (i j : Nat) (dk : Array α), v8 = .int .i64 i ∧ v9 = .int .i64 j ∧ 0 < i ∧ 0 < j ∧ i ≤ m ∧ m + j ≤ d.size ∧ dk.size = d.size ∧ Hid (∀ d', Rotated dk d' (m - i) m (m + j) → Rotated d d' a m b) ∧ Hid (SWK enc k (W.alloc (dataB g lb sf sb)) blk off dk wr)) (fun v8 v9 _ => (intOf v8).toNat + (intOf v9).toNat)
  case atStart => exact ⟨m - a, b - m, d, by congr 1; omega, by congr 1; omega, by omega, by omega, by omega, by omega, rfl, fun d' h => by rw [show m - (m - a) = a by omega, show m + (b - m) = b by omega] at h; exact h, SWK.start HH1.out⟩
  case round =>
    obtain ⟨i, j, dk, rfl, rfl, hi, hj, him, hmj, hds, hR, hK⟩ := hrel
    have c0 : wr.cell? ⟨W.heap.size, 0, none⟩ = some (.func (.func g) #[] lb) := by
      rw [swk_cell hK.out _ _ (by omega) (by rw [World.size_alloc]; omega)]; simp
    have c1 : wr.cell? ⟨W.heap.size, 1, none⟩ = some (.func (.func sf) #[] sb) := by
      rw [swk_cell hK.out _ _ (by omega) (by rw [World.size_alloc]; omega)]; simp
    have hE2 := HE1.out.on hK.out hds
    rw [← hds] at hE2
    have HE2 := Lib.hid hE2; clear hE2
    have HH2 := Lib.hid (hK.out.holds HE1.out.hlt HH1.out hds)
    by_cases hij : i = j
    · subst hij
      have t1 : ((i : Int) != (i : Int)) = false := by simp
      have hc := swapRange_w (m - i) m i dk HE2.out HH2.out (by omega) (by omega)
      rw [show ((m - i : Nat) : Int) = (m : Int) - (i : Int) by omega] at hc
      have HC := Lib.hid hc; clear hc
      go_wp2_with (go_at_call 101; go_must (refine HC.out.mono ?_); rintro e w2 ⟨rfl, d1, hd1, hk1⟩; have HD := Lib.hid hd1; have HK1 := Lib.hid hk1; clear hd1 hk1)
      go_end0
      have hrot := hR.out d1 (rot_equal HD.out him (by omega))
      exact ⟨rfl, d1, hrot, swk_on HS1.out HB.out (swk_on hK.out HE1.out.hlt HK1.out (by rw [HD.out.size])) (by rw [hrot.size])⟩
    · by_cases hlt : j < i
      · have t1 : ((i : Int) != (j : Int)) = true := by simp; omega
        have hc := swapRange_w (m - i) m j dk HE2.out HH2.out (by omega) (by omega)
        rw [show ((m - i : Nat) : Int) = (m : Int) - (i : Int) by omega] at hc
        have HC := Lib.hid hc; clear hc
        go_wp2_with (go_at_call 101; go_must (refine HC.out.mono ?_); rintro e w2 ⟨rfl, d1, hd1, hk1⟩; have HD := Lib.hid hd1; have HK1 := Lib.hid hk1; clear hd1 hk1)
        go_roundw
        case rel => exact ⟨i - j, j, d1, by congr 1; omega, rfl, by omega, hj, by omega, hmj, by rw [HD.out.size]; exact hds, fun d' h => hR.out d' (rot_left hlt him (by omega) HD.out h), swk_on hK.out HE1.out.hlt HK1.out (by rw [HD.out.size])⟩
        case measure => simp [intOf]; omega
      · have t1 : ((i : Int) != (j : Int)) = true := by simp; omega
        have hc := swapRange_w (m - i) (m + j - i) i dk HE2.out HH2.out (by omega) (by omega)
        rw [show ((m - i : Nat) : Int) = (m : Int) - (i : Int) by omega, show ((m + j - i : Nat) : Int) = (m : Int) + (j : Int) - (i : Int) by omega] at hc
        have HC := Lib.hid hc; clear hc
        go_wp2_with (go_at_call 101; go_must (refine HC.out.mono ?_); rintro e w2 ⟨rfl, d1, hd1, hk1⟩; have HD := Lib.hid hd1; have HK1 := Lib.hid hk1; clear hd1 hk1)
        go_roundw
        case rel => exact ⟨i, j - i, d1, rfl, by congr 1; omega, hi, by omega, him, by omega, by rw [HD.out.size]; exact hds, fun d' h => hR.out d' (rot_right (by omega) him (by omega) HD.out h), swk_on hK.out HE1.out.hlt HK1.out (by rw [HD.out.size])⟩
        case measure => simp [intOf]; omega
end
end Go.Proofs.YtnanogcppglapaaGreatDoor
