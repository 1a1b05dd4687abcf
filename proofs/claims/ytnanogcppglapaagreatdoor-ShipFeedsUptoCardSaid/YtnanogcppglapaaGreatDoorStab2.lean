/-
  sort.symMerge_func at rows of structs.
-/
import Derived.Test.YtnanogcppglapaaGreatDoorStab
namespace Go.Proofs.YtnanogcppglapaaGreatDoor
open Go.RowKit Go.Deep Go.Sort

section
variable {α : Type} [Inhabited α]
variable {enc : α → List Value} {k : Nat} {lt : α → α → Bool} {g : Nat} {lb : Array Value} {sf : Nat} {sb : Array Value} {blk off : Nat} {W : World}

def SymPost (enc : α → List Value) (k blk off : Nat) (lt : α → α → Bool) (a b : Nat) (d : Array α) (W : World) (e : Ending) (w' : World) : Prop := e = .returned (.tuple #[]) ∧ ∃ d', (PermIn a b d d' ∧ SortedIn lt a b d') ∧ SWK enc k W blk off d' w'

theorem less_at {d : Array α} {W0 wr : World} (E : SEnv enc k lt g lb sf sb blk off d.size W0) (h : SWK enc k W0 blk off d wr) (i j : Nat) (hi : i < d.size) (hj : j < d.size) (r : Bool) (hr : lt d[i]! d[j]! = r) :
    Calls Tryz.prog g (#[.int .i64 i, .int .i64 j] ++ lb) wr fun e w' => e = .returned (.bool r) ∧ SWK enc k W0 blk off d w' := by
  subst hr; exact (E.less d wr h rfl i j hi hj).mono fun e w' ⟨h1, q, os, h2⟩ => ⟨h1, by rw [h2]; exact swk_grow (h.drewN q) os⟩
theorem half_int {i j h : Nat} (hh : h = (i + j) / 2) : ((i : Int) + (j : Int)) / 2 = (h : Int) := by omega
theorem dec_false {p : Prop} [Decidable p] (h : ¬ p) : decide p = false := decide_eq_false h


set_option maxHeartbeats 4000000 in
set_option maxRecDepth 100000 in
/-- one element on the left -/
theorem symFirst_w (hO : SWO lt) (a m b : Nat) (hm : m = a + 1) (d : Array α) (E : SEnv enc k lt g lb sf sb blk off d.size W) (hH : HoldsK enc k W blk off d) (hmb : a + 1 < b) (hb : b ≤ d.size) (hs2 : SortedIn lt (a + 1) b d) :
    Calls Tryz.prog 76 #[dataV g lb sf sb, .int .i64 a, .int .i64 m, .int .i64 b] W (SymPost enc k blk off lt a b d W) := by
  have hsz := E.sz
  have hblk := E.hlt
  have eg := E.eg
  have HE1 := Lib.hid (E.alloc (dataB g lb sf sb))
  have HH1 := Lib.hid (holds_box hH hblk (dataB g lb sf sb))
  have HS1 := Lib.hid (swk_box hH (dataB g lb sf sb))
  have HB := Lib.hid hblk
  have cc : ∀ (dk : Array α) (wx : World), SWK enc k (W.alloc (dataB g lb sf sb)) blk off dk wx → wx.cell? ⟨W.heap.size, 0, none⟩ = some (.func (.func g) #[] lb) ∧ wx.cell? ⟨W.heap.size, 1, none⟩ = some (.func (.func sf) #[] sb) := fun dk wx h2 => by
    have := HB.out
    rw [swk_cell h2 _ _ (by omega) (by rw [World.size_alloc]; omega), swk_cell h2 _ _ (by omega) (by rw [World.size_alloc]; omega)]; simp
  have HCc := Lib.hid cc; clear cc
  have HS2 := Lib.hid hs2
  have HO := Lib.hid hO
  have t1 : (((m : Int) - (a : Int)) == 1) = true := by simp; omega
  have HM := Lib.hid hm
  have hx1 : a < m := by omega
  have hx2 : m < b := by omega
  clear hs2 hO hm
  clear hH E
  go_enter Tryz.func76, Tryz.ntmps76
  go_wp2_with fail
  go_loopw [8, 9] (fun v8 v9 wr => ∃ (i j : Nat), v8 = .int .i64 i ∧ v9 = .int .i64 j ∧ a + 1 ≤ i ∧ i ≤ j ∧ j ≤ b ∧ Hid (i = a + 1 ∨ lt d[i - 1]! d[a]! = true) ∧ Hid (j = b ∨ lt d[j]! d[a]! = false) ∧ Hid (SWK enc k (W.alloc (dataB g lb sf sb)) blk off d wr)) (fun v8 v9 _ => (intOf v9).toNat - (intOf v8).toNat)
  case atStart => exact ⟨m, b, rfl, rfl, by have := HM.out; omega, by have := HM.out; omega, Nat.le_refl _, Or.inl HM.out, Or.inl rfl, SWK.start HH1.out⟩
  case round =>
    obtain ⟨i, j, rfl, rfl, hi, hij, hjb, hL, hR, hK⟩ := hrel
    obtain ⟨c0, c1⟩ := HCc.out d wr hK.out
    by_cases hlt : i < j
    · obtain ⟨h, hh⟩ : ∃ h : Nat, h = (i + j) / 2 := ⟨_, rfl⟩
      have hh1 := half_int hh
      have hh2 : i ≤ h := by omega
      have hh3 : h < j := by omega
      clear hh
      cases hr : lt d[h]! d[a]! with
      | true =>
        have hl := Lib.hid (less_at HE1.out hK.out h a (by omega) (by omega) true hr)
        have HR1 := Lib.hid hr; clear hr
        go_wp2_with (go_at_fn g; refine (hl.out).mono ?_; rintro e w' ⟨rfl, hk9⟩; have HK9 := Lib.hid hk9; clear hk9)
        go_roundw
        case rel => exact ⟨h + 1, j, by go_num, rfl, by omega, by omega, hjb, Or.inr (by rw [Nat.add_sub_cancel]; exact HR1.out), hR, HK9⟩
        case measure => simp [intOf]; omega
      | false =>
        have hl := Lib.hid (less_at HE1.out hK.out h a (by omega) (by omega) false hr)
        have HR1 := Lib.hid hr; clear hr
        go_wp2_with (go_at_fn g; refine (hl.out).mono ?_; rintro e w' ⟨rfl, hk9⟩; have HK9 := Lib.hid hk9; clear hk9)
        go_roundw
        case rel => exact ⟨i, h, rfl, rfl, hi, hh2, by omega, hL, Or.inr HR1.out, HK9⟩
        case measure => simp [intOf]; omega
    · have hij2 : i = j := by omega
      subst hij2
      clear hij hlt
      go_wp2_with fail
      go_loopw [11] (fun v11 wr2 => ∃ (kk : Nat) (dk : Array α), v11 = .int .i64 kk ∧ a ≤ kk ∧ kk + 1 ≤ i ∧ Hid (Rotated d dk a (a + 1) (kk + 1)) ∧ Hid (SWK enc k (W.alloc (dataB g lb sf sb)) blk off dk wr2)) (fun v11 _ => i - (intOf v11).toNat)
      case atStart => exact ⟨a, d, rfl, Nat.le_refl _, by omega, Rotated.same_r d a (a + 1), hK.out⟩
      case round =>
        obtain ⟨kk, dk, rfl, hka, hki, hrot, hK2⟩ := hrel
        obtain ⟨c2, c3⟩ := HCc.out dk _ hK2.out
        have hds : dk.size = d.size := hrot.out.size
        by_cases hlt2 : kk + 1 < i
        · have hs := HE1.out.swap _ dk (hK2.out.holds HE1.out.hlt HH1.out hds) hds kk (kk + 1) (by omega) (by omega)
          rw [show ((kk + 1 : Nat) : Int) = (kk : Int) + 1 by omega] at hs
          have hK3 := Lib.hid (hK2.out.swap HE1.out.hk HE1.out.hlt kk (kk + 1) (by omega) (by omega))
          have hrot3 := Lib.hid (rot_up hka (by omega) hrot.out)
          go_wp2_with fail
          go_roundw
          case rel => exact ⟨kk + 1, _, by go_num, by omega, by omega, hrot3, hK3⟩
          case measure => simp [intOf]; omega
        · have hke : kk + 1 = i := by omega
          rw [hke] at hrot
          go_wp2_with fail
          go_end0
          exact ⟨rfl, dk, merge_first HO.out hi hjb hb HS2.out hL.out hR.out hrot.out, swk_on HS1.out HB.out hK2.out hds⟩


set_option maxHeartbeats 4000000 in
set_option maxRecDepth 100000 in
/-- one element on the right -/
theorem symLast_w (hO : SWO lt) (a m b : Nat) (hm : b = m + 1) (d : Array α) (E : SEnv enc k lt g lb sf sb blk off d.size W) (hH : HoldsK enc k W blk off d) (ham : a + 1 < m) (hb : m + 1 ≤ d.size) (hs2 : SortedIn lt a m d) :
    Calls Tryz.prog 76 #[dataV g lb sf sb, .int .i64 a, .int .i64 m, .int .i64 b] W (SymPost enc k blk off lt a b d W) := by
  have hsz := E.sz
  have hblk := E.hlt
  have eg := E.eg
  have HE1 := Lib.hid (E.alloc (dataB g lb sf sb))
  have HH1 := Lib.hid (holds_box hH hblk (dataB g lb sf sb))
  have HS1 := Lib.hid (swk_box hH (dataB g lb sf sb))
  have HB := Lib.hid hblk
  have cc : ∀ (dk : Array α) (wx : World), SWK enc k (W.alloc (dataB g lb sf sb)) blk off dk wx → wx.cell? ⟨W.heap.size, 0, none⟩ = some (.func (.func g) #[] lb) ∧ wx.cell? ⟨W.heap.size, 1, none⟩ = some (.func (.func sf) #[] sb) := fun dk wx h2 => by
    have := HB.out
    rw [swk_cell h2 _ _ (by omega) (by rw [World.size_alloc]; omega), swk_cell h2 _ _ (by omega) (by rw [World.size_alloc]; omega)]; simp
  have HCc := Lib.hid cc; clear cc
  have HS2 := Lib.hid hs2
  have HO := Lib.hid hO
  have t1 : (((m : Int) - (a : Int)) == 1) = false := by simp; omega
  have t2 : (((b : Int) - (m : Int)) == 1) = true := by simp; omega
  have HM := Lib.hid hm
  have hx1 : a < m := by omega
  have hx2 : m < b := by omega
  have hx3 : b ≤ d.size := by omega
  clear hs2 hO hm
  clear hH E
  go_enter Tryz.func76, Tryz.ntmps76
  go_wp2_with fail
  go_loopw [12, 13] (fun v8 v9 wr => ∃ (i j : Nat), v8 = .int .i64 i ∧ v9 = .int .i64 j ∧ a ≤ i ∧ i ≤ j ∧ j ≤ m ∧ Hid (i = a ∨ lt d[m]! d[i - 1]! = false) ∧ Hid (j = m ∨ lt d[m]! d[j]! = true) ∧ Hid (SWK enc k (W.alloc (dataB g lb sf sb)) blk off d wr)) (fun v8 v9 _ => (intOf v9).toNat - (intOf v8).toNat)
  case atStart => exact ⟨a, m, rfl, rfl, Nat.le_refl _, by omega, Nat.le_refl _, Or.inl rfl, Or.inl rfl, SWK.start HH1.out⟩
  case round =>
    obtain ⟨i, j, rfl, rfl, hi, hij, hjb, hL, hR, hK⟩ := hrel
    obtain ⟨c0, c1⟩ := HCc.out d wr hK.out
    by_cases hlt : i < j
    · obtain ⟨h, hh⟩ : ∃ h : Nat, h = (i + j) / 2 := ⟨_, rfl⟩
      have hh1 := half_int hh
      have hh2 : i ≤ h := by omega
      have hh3 : h < j := by omega
      clear hh
      cases hr : lt d[m]! d[h]! with
      | true =>
        have hl := Lib.hid (less_at HE1.out hK.out m h (by omega) (by omega) true hr)
        have HR1 := Lib.hid hr; clear hr
        go_wp2_with (go_at_fn g; refine (hl.out).mono ?_; rintro e w' ⟨rfl, hk9⟩; have HK9 := Lib.hid hk9; clear hk9)
        go_roundw
        case rel => exact ⟨i, h, rfl, rfl, hi, hh2, by omega, hL, Or.inr HR1.out, HK9⟩
        case measure => simp [intOf]; omega
      | false =>
        have hl := Lib.hid (less_at HE1.out hK.out m h (by omega) (by omega) false hr)
        have HR1 := Lib.hid hr; clear hr
        go_wp2_with (go_at_fn g; refine (hl.out).mono ?_; rintro e w' ⟨rfl, hk9⟩; have HK9 := Lib.hid hk9; clear hk9)
        go_roundw
        case rel => exact ⟨h + 1, j, by go_num, rfl, by omega, by omega, hjb, Or.inr (by rw [Nat.add_sub_cancel]; exact HR1.out), hR, HK9⟩
        case measure => simp [intOf]; omega
    · have hij2 : i = j := by omega
      subst hij2
      clear hij hlt
      go_wp2_with fail
      go_loopw [15] (fun v11 wr2 => ∃ (kk : Nat) (dk : Array α), v11 = .int .i64 kk ∧ i ≤ kk ∧ kk ≤ m ∧ Hid (Rotated d dk kk m (m + 1)) ∧ Hid (SWK enc k (W.alloc (dataB g lb sf sb)) blk off dk wr2)) (fun v11 _ => (intOf v11).toNat)
      case atStart => exact ⟨m, d, rfl, hjb, Nat.le_refl _, Rotated.same_l d m (m + 1), hK.out⟩
      case round =>
        obtain ⟨kk, dk, rfl, hka, hki, hrot, hK2⟩ := hrel
        obtain ⟨c2, c3⟩ := HCc.out dk _ hK2.out
        have hds : dk.size = d.size := hrot.out.size
        by_cases hlt2 : i < kk
        · have hs := HE1.out.swap _ dk (hK2.out.holds HE1.out.hlt HH1.out hds) hds kk (kk - 1) (by omega) (by omega)
          rw [show ((kk - 1 : Nat) : Int) = (kk : Int) - 1 by omega] at hs
          have hK3 := Lib.hid (hK2.out.swap HE1.out.hk HE1.out.hlt kk (kk - 1) (by omega) (by omega))
          have hrot3 := Lib.hid (rot_down hki (by omega) (by omega) hrot.out)
          go_wp2_with fail
          go_roundw
          case rel => exact ⟨kk - 1, _, by congr 1; omega, by omega, by omega, hrot3, hK3⟩
          case measure => simp [intOf]; omega
        · have hke : kk = i := by omega
          subst hke
          go_wp2_with fail
          go_end0
          exact ⟨rfl, dk, by rw [HM.out]; exact merge_last HO.out hi hjb hb HS2.out hL.out hR.out hrot.out, swk_on HS1.out HB.out hK2.out hds⟩

/-- a rotation that may be none -/
def RotOr (enc : α → List Value) (k blk off a m b : Nat) (d : Array α) (W0 : World) (w' : World) : Prop := ∃ d', Rotated d d' a m b ∧ SWK enc k W0 blk off d' w'
theorem sorted_cut {lt : α → α → Bool} {d : Array α} {a b c e : Nat} (h : SortedIn lt a b d) (h1 : a ≤ c) (h2 : e ≤ b) : SortedIn lt c e d := fun i j hi hij hj => h i j (by omega) hij (by omega)
theorem sorted_none {lt : α → α → Bool} (d : Array α) {a b : Nat} (h : b ≤ a) : SortedIn lt a b d := fun i j hi hij hj => by omega

set_option maxHeartbeats 8000000 in
set_option maxRecDepth 100000 in
theorem symMerge_w (hO : SWO lt) (N : Nat) : ∀ (a m b : Nat) (d : Array α) (W : World), b - a ≤ N → SEnv enc k lt g lb sf sb blk off d.size W → HoldsK enc k W blk off d → a < m → m < b → b ≤ d.size → SortedIn lt a m d → SortedIn lt m b d →
    Calls Tryz.prog 76 #[dataV g lb sf sb, .int .i64 a, .int .i64 m, .int .i64 b] W (SymPost enc k blk off lt a b d W) := by
  induction N with
  | zero => intro a m b d W hN; intros; omega
  | succ N ih =>
    intro a m b d W hN E hH ham hmb hb sa sb2
    by_cases h1 : m = a + 1
    · exact symFirst_w hO a m b h1 d E hH (by omega) hb (by rw [← h1]; exact sb2)
    by_cases h2 : b = m + 1
    · exact symLast_w hO a m b h2 d E hH (by omega) (by omega) sa
    have hsz := E.sz
    have hblk := E.hlt
    have eg := E.eg
    have HE1 := Lib.hid (E.alloc (dataB g lb sf sb))
    have HH1 := Lib.hid (holds_box hH hblk (dataB g lb sf sb))
    have HS1 := Lib.hid (swk_box hH (dataB g lb sf sb))
    have HB := Lib.hid hblk
    have cc : ∀ (dk : Array α) (wx : World), SWK enc k (W.alloc (dataB g lb sf sb)) blk off dk wx → wx.cell? ⟨W.heap.size, 0, none⟩ = some (.func (.func g) #[] lb) ∧ wx.cell? ⟨W.heap.size, 1, none⟩ = some (.func (.func sf) #[] sb) := fun dk wx h2 => by
      have := HB.out
      rw [swk_cell h2 _ _ (by omega) (by rw [World.size_alloc]; omega), swk_cell h2 _ _ (by omega) (by rw [World.size_alloc]; omega)]; simp
    have HCc := Lib.hid cc; clear cc
    have HO := Lib.hid hO
    have HSa := Lib.hid sa
    have HSb := Lib.hid sb2
    have HI := Lib.hid ih; clear ih
    have t1 : (((m : Int) - (a : Int)) == 1) = false := by simp; omega
    have t2 : (((b : Int) - (m : Int)) == 1) = false := by simp; omega
    obtain ⟨mid, hmid⟩ : ∃ mid : Nat, mid = (a + b) / 2 := ⟨_, rfl⟩
    have hh1 := half_int hmid
    have hm1 : a < mid := by omega
    have hm2 : mid < b := by omega
    have hm3 : 2 * mid ≤ a + b := by omega
    have hm4 : a + b ≤ 2 * mid + 1 := by omega
    obtain ⟨s0, r0, hsr, hs1, hs2, hs3⟩ : ∃ s0 r0 : Nat, s0 ≤ r0 ∧ ((mid < m ∧ s0 = mid + m - b ∧ r0 = mid) ∨ (m ≤ mid ∧ s0 = a ∧ r0 = m)) ∧ a ≤ s0 ∧ r0 ≤ m := by
      by_cases h : mid < m
      · exact ⟨mid + m - b, mid, by omega, Or.inl ⟨h, rfl, rfl⟩, by omega, by omega⟩
      · exact ⟨a, m, by omega, Or.inr ⟨by omega, rfl, rfl⟩, by omega, by omega⟩
    have hend : ∀ s, s0 ≤ s → s ≤ r0 → m ≤ mid + m - s ∧ mid + m - s ≤ b := fun s h5 h6 => by omega
    have HEnd := Lib.hid hend; clear hend
    have HO2 := Lib.hid hO
    clear sa sb2 hO hmid hm3 hm4
    clear hH E
    have key : ∀ (d1 : Array α) (start : Nat) (wr : World), s0 ≤ start → start ≤ r0 → Hid (Rotated d d1 start m (mid + m - start)) → Hid (start = s0 ∨ lt d[mid + m - 1 - (start - 1)]! d[start - 1]! = false) → Hid (start = r0 ∨ lt d[mid + m - 1 - start]! d[start]! = true) →
        SortedIn lt a start d1 ∧ SortedIn lt start mid d1 ∧ SortedIn lt mid (mid + m - start) d1 ∧ SortedIn lt (mid + m - start) b d1 ∧ ∀ i j, a ≤ i → i < mid → mid ≤ j → j < b → lt d1[j]! d1[i]! = false := fun d1 start wr h5 h6 hrot hL hR => by
      obtain ⟨e1, e2⟩ := HEnd.out start h5 h6
      refine merge_mid HO.out (by omega) (by omega) e1 e2 (by omega) HSa.out HSb.out ?_ ?_ hrot.out
      · rcases hL.out with hL | hL
        · rcases hs1 with h7 | h7
          · right; left; omega
          · left; omega
        · by_cases h8 : start = 0
          · left; omega
          · right; right; rw [show mid + m - start = mid + m - 1 - (start - 1) by omega]; exact hL
      · rcases hR.out with hR | hR
        · rcases hs1 with h7 | h7
          · right; left; omega
          · left; omega
        · right; right; rw [show mid + m - start - 1 = mid + m - 1 - start by omega]; exact hR
    have HKey := Lib.hid key; clear key
    rcases hs1 with ⟨h5, h6, h7⟩ | ⟨h5, h6, h7⟩
    · have hx1 : ((mid : Int) + (m : Int)) - (b : Int) = (s0 : Int) := by omega
      have hb1 : b ≤ mid + m ∨ m ≤ mid := by omega
      have hq : mid < m := h5
      have HX := Lib.hid (show s0 = mid + m - b ∧ r0 = mid from ⟨h6, h7⟩); clear h6 h7
      have hsb : s0 ≤ d.size := by omega
      have hrb : r0 ≤ d.size := by omega
      go_enter Tryz.func76, Tryz.ntmps76
      go_wp2_with fail
      go_loopw [18, 19] (fun v18 v19 wr => ∃ (i j : Nat), v18 = .int .i64 i ∧ v19 = .int .i64 j ∧ s0 ≤ i ∧ i ≤ j ∧ j ≤ r0 ∧ Hid (i = s0 ∨ lt d[mid + m - 1 - (i - 1)]! d[i - 1]! = false) ∧ Hid (j = r0 ∨ lt d[mid + m - 1 - j]! d[j]! = true) ∧ Hid (SWK enc k (W.alloc (dataB g lb sf sb)) blk off d wr)) (fun v18 v19 _ => (intOf v19).toNat - (intOf v18).toNat)
      case atStart => exact ⟨s0, r0, by first | rfl | (congr 1; have := HX.out; omega), by first | rfl | (congr 1; have := HX.out; omega), Nat.le_refl _, hsr, Nat.le_refl _, Or.inl rfl, Or.inl rfl, SWK.start HH1.out⟩
      case round =>
        obtain ⟨i, j, rfl, rfl, hi, hij, hjr, hL, hR, hK⟩ := hrel
        obtain ⟨c0, c1⟩ := HCc.out d wr hK.out
        by_cases hlt : i < j
        · obtain ⟨h, hh⟩ : ∃ h : Nat, h = (i + j) / 2 := ⟨_, rfl⟩
          have hhx := half_int hh
          have hh2 : i ≤ h := by omega
          have hh3 : h < j := by omega
          clear hh
          obtain ⟨x, hx⟩ : ∃ x : Nat, x = mid + m - 1 - h := ⟨_, rfl⟩
          have hxx : (((mid : Int) + (m : Int)) - 1) - (h : Int) = (x : Int) := by omega
          have hxb : x < d.size := by have := HX.out; omega
          have hhb : h < d.size := by omega
          cases hr : lt d[x]! d[h]! with
          | true =>
            have hl := Lib.hid (less_at HE1.out hK.out x h hxb hhb true hr)
            rw [hx] at hr
            have HR1 := Lib.hid hr; clear hr hx
            go_wp2_with (go_at_fn g; refine (hl.out).mono ?_; rintro e w' ⟨rfl, hk9⟩; have HK9 := Lib.hid hk9; clear hk9)
            go_roundw
            case rel => exact ⟨i, h, rfl, rfl, hi, hh2, by omega, hL, Or.inr HR1.out, HK9⟩
            case measure => simp [intOf]; omega
          | false =>
            have hl := Lib.hid (less_at HE1.out hK.out x h hxb hhb false hr)
            rw [hx] at hr
            have HR1 := Lib.hid hr; clear hr hx
            go_wp2_with (go_at_fn g; refine (hl.out).mono ?_; rintro e w' ⟨rfl, hk9⟩; have HK9 := Lib.hid hk9; clear hk9)
            go_roundw
            case rel => exact ⟨h + 1, j, by go_num, rfl, by omega, by omega, hjr, Or.inr (by rw [Nat.add_sub_cancel]; exact HR1.out), hR, HK9⟩
            case measure => simp [intOf]; omega
        · have hij2 : i = j := by omega
          subst hij2
          clear hij hlt
          have hir : i ≤ r0 := hjr
          obtain ⟨stop, hst⟩ : ∃ stop : Nat, mid + m - i = stop := ⟨_, rfl⟩
          obtain ⟨he1, he2⟩ := HEnd.out i hi hir
          rw [hst] at he1 he2
          have hsx : ((mid : Int) + (m : Int)) - (i : Int) = (stop : Int) := by omega
          have hai : a ≤ i := by omega
          have him : i ≤ mid := by have := HX.out; omega
          have him2 : i ≤ m := by omega
          by_cases pA : i < m
          · have pA2 : mid < stop := by omega
            by_cases pB : i < mid
            · have pB2 : m < stop := by omega
              by_cases pC : a < i
              · by_cases pD : stop < b
                · go_wp2_with fail
                  go_must (refine (rotate_w i m stop d (HE1.out.on hK.out rfl) (hK.out.holds HE1.out.hlt HH1.out rfl) pA pB2 (by omega)).mono ?_)
                  rintro e w2 ⟨rfl, d1, hrot, hk1⟩
                  have HRot := Lib.hid hrot; clear hrot
                  have HKd := Lib.hid (swk_on hK.out HE1.out.hlt hk1 HRot.out.size); clear hk1
                  have HF := Lib.hid (HKey.out d1 i wr hi hir (by rw [hst]; exact HRot.out) hL hR)
                  rw [hst] at HF
                  have hz1 : d1.size = d.size := HRot.out.size
                  obtain ⟨cw20, cw21⟩ := HCc.out _ w2 HKd.out
                  go_wp2_with fail
                  go_must (refine (HI.out a i mid d1 _ (by omega) (by rw [hz1]; exact HE1.out.on HKd.out hz1) (HKd.out.holds HE1.out.hlt HH1.out hz1) pC pB (by omega) HF.out.1 HF.out.2.1).mono ?_)
                  rintro e w3 ⟨rfl, d2, hs2, hk2⟩
                  have HM2 := Lib.hid hs2; clear hs2
                  have hz2 : d2.size = d.size := HM2.out.1.1.trans hz1
                  have HK2 := Lib.hid (swk_on HKd.out HE1.out.hlt hk2 HM2.out.1.1); clear hk2
                  obtain ⟨cw30, cw31⟩ := HCc.out _ w3 HK2.out
                  go_wp2_with fail
                  have HSt := Lib.hid (show SortedIn lt mid stop d2 ∧ SortedIn lt stop b d2 from ⟨sorted_keep HF.out.2.2.1 (fun j h8 h9 => HM2.out.1.2.1 j (by omega)), sorted_keep HF.out.2.2.2.1 (fun j h8 h9 => HM2.out.1.2.1 j (by omega))⟩)
                  go_must (refine (HI.out mid stop b d2 _ (by omega) (by rw [hz2]; exact HE1.out.on HK2.out hz2) (HK2.out.holds HE1.out.hlt HH1.out hz2) pA2 pD (by omega) HSt.out.1 HSt.out.2).mono ?_)
                  rintro e w4 ⟨rfl, d3, hs3, hk3⟩
                  have HM3 := Lib.hid hs3; clear hs3
                  have HK3 := Lib.hid (swk_on HK2.out HE1.out.hlt hk3 HM3.out.1.1); clear hk3
                  have hz3 : d3.size = d.size := HM3.out.1.1.trans hz2
                  go_wp2_with fail
                  go_end0
                  exact ⟨rfl, d3, merge_halves (by omega) (by omega) (by omega) (by omega) (by omega) hb HF.out.2.2.2.2 HRot.out HM2.out HM3.out, swk_on HS1.out HB.out HK3.out hz3⟩
                · go_wp2_with fail
                  go_must (refine (rotate_w i m stop d (HE1.out.on hK.out rfl) (hK.out.holds HE1.out.hlt HH1.out rfl) pA pB2 (by omega)).mono ?_)
                  rintro e w2 ⟨rfl, d1, hrot, hk1⟩
                  have HRot := Lib.hid hrot; clear hrot
                  have HKd := Lib.hid (swk_on hK.out HE1.out.hlt hk1 HRot.out.size); clear hk1
                  have HF := Lib.hid (HKey.out d1 i wr hi hir (by rw [hst]; exact HRot.out) hL hR)
                  rw [hst] at HF
                  have hz1 : d1.size = d.size := HRot.out.size
                  obtain ⟨cw20, cw21⟩ := HCc.out _ w2 HKd.out
                  go_wp2_with fail
                  go_must (refine (HI.out a i mid d1 _ (by omega) (by rw [hz1]; exact HE1.out.on HKd.out hz1) (HKd.out.holds HE1.out.hlt HH1.out hz1) pC pB (by omega) HF.out.1 HF.out.2.1).mono ?_)
                  rintro e w3 ⟨rfl, d2, hs2, hk2⟩
                  have HM2 := Lib.hid hs2; clear hs2
                  have hz2 : d2.size = d.size := HM2.out.1.1.trans hz1
                  have HK2 := Lib.hid (swk_on HKd.out HE1.out.hlt hk2 HM2.out.1.1); clear hk2
                  obtain ⟨cw30, cw31⟩ := HCc.out _ w3 HK2.out
                  go_wp2_with fail
                  have HSt := Lib.hid (show SortedIn lt mid stop d2 ∧ SortedIn lt stop b d2 from ⟨sorted_keep HF.out.2.2.1 (fun j h8 h9 => HM2.out.1.2.1 j (by omega)), sorted_keep HF.out.2.2.2.1 (fun j h8 h9 => HM2.out.1.2.1 j (by omega))⟩)
                  have HM3 := Lib.hid (show PermIn mid b d2 d2 ∧ SortedIn lt mid b d2 from ⟨permIn_refl _ _ _, by rw [show b = stop by omega]; exact HSt.out.1⟩)
                  have hz3 : d2.size = d.size := hz2
                  go_end0
                  exact ⟨rfl, d2, merge_halves (by omega) (by omega) (by omega) (by omega) (by omega) hb HF.out.2.2.2.2 HRot.out HM2.out HM3.out, swk_on HS1.out HB.out HK2.out hz3⟩
              · by_cases pD : stop < b
                · go_wp2_with fail
                  go_must (refine (rotate_w i m stop d (HE1.out.on hK.out rfl) (hK.out.holds HE1.out.hlt HH1.out rfl) pA pB2 (by omega)).mono ?_)
                  rintro e w2 ⟨rfl, d1, hrot, hk1⟩
                  have HRot := Lib.hid hrot; clear hrot
                  have HKd := Lib.hid (swk_on hK.out HE1.out.hlt hk1 HRot.out.size); clear hk1
                  have HF := Lib.hid (HKey.out d1 i wr hi hir (by rw [hst]; exact HRot.out) hL hR)
                  rw [hst] at HF
                  have hz1 : d1.size = d.size := HRot.out.size
                  obtain ⟨cw20, cw21⟩ := HCc.out _ w2 HKd.out
                  go_wp2_with fail
                  have HM2 := Lib.hid (show PermIn a mid d1 d1 ∧ SortedIn lt a mid d1 from ⟨permIn_refl _ _ _, by rw [show a = i by omega]; exact HF.out.2.1⟩)
                  have hz2 : d1.size = d.size := hz1
                  have HSt := Lib.hid (show SortedIn lt mid stop d1 ∧ SortedIn lt stop b d1 from ⟨sorted_keep HF.out.2.2.1 (fun j h8 h9 => HM2.out.1.2.1 j (by omega)), sorted_keep HF.out.2.2.2.1 (fun j h8 h9 => HM2.out.1.2.1 j (by omega))⟩)
                  go_must (refine (HI.out mid stop b d1 _ (by omega) (by rw [hz2]; exact HE1.out.on HKd.out hz2) (HKd.out.holds HE1.out.hlt HH1.out hz2) pA2 pD (by omega) HSt.out.1 HSt.out.2).mono ?_)
                  rintro e w4 ⟨rfl, d3, hs3, hk3⟩
                  have HM3 := Lib.hid hs3; clear hs3
                  have HK3 := Lib.hid (swk_on HKd.out HE1.out.hlt hk3 HM3.out.1.1); clear hk3
                  have hz3 : d3.size = d.size := HM3.out.1.1.trans hz2
                  go_wp2_with fail
                  go_end0
                  exact ⟨rfl, d3, merge_halves (by omega) (by omega) (by omega) (by omega) (by omega) hb HF.out.2.2.2.2 HRot.out HM2.out HM3.out, swk_on HS1.out HB.out HK3.out hz3⟩
                · go_wp2_with fail
                  go_must (refine (rotate_w i m stop d (HE1.out.on hK.out rfl) (hK.out.holds HE1.out.hlt HH1.out rfl) pA pB2 (by omega)).mono ?_)
                  rintro e w2 ⟨rfl, d1, hrot, hk1⟩
                  have HRot := Lib.hid hrot; clear hrot
                  have HKd := Lib.hid (swk_on hK.out HE1.out.hlt hk1 HRot.out.size); clear hk1
                  have HF := Lib.hid (HKey.out d1 i wr hi hir (by rw [hst]; exact HRot.out) hL hR)
                  rw [hst] at HF
                  have hz1 : d1.size = d.size := HRot.out.size
                  obtain ⟨cw20, cw21⟩ := HCc.out _ w2 HKd.out
                  go_wp2_with fail
                  have HM2 := Lib.hid (show PermIn a mid d1 d1 ∧ SortedIn lt a mid d1 from ⟨permIn_refl _ _ _, by rw [show a = i by omega]; exact HF.out.2.1⟩)
                  have hz2 : d1.size = d.size := hz1
                  have HSt := Lib.hid (show SortedIn lt mid stop d1 ∧ SortedIn lt stop b d1 from ⟨sorted_keep HF.out.2.2.1 (fun j h8 h9 => HM2.out.1.2.1 j (by omega)), sorted_keep HF.out.2.2.2.1 (fun j h8 h9 => HM2.out.1.2.1 j (by omega))⟩)
                  have HM3 := Lib.hid (show PermIn mid b d1 d1 ∧ SortedIn lt mid b d1 from ⟨permIn_refl _ _ _, by rw [show b = stop by omega]; exact HSt.out.1⟩)
                  have hz3 : d1.size = d.size := hz2
                  go_end0
                  exact ⟨rfl, d1, merge_halves (by omega) (by omega) (by omega) (by omega) (by omega) hb HF.out.2.2.2.2 HRot.out HM2.out HM3.out, swk_on HS1.out HB.out HKd.out hz3⟩
            · have pB2 : ¬ m < stop := by omega
              have pC : a < i := by omega
              by_cases pD : stop < b
              · go_wp2_with fail
                have HRot := Lib.hid (show Rotated d d i m stop by rw [show stop = m by omega]; exact Rotated.same_r d i m)
                have HKd := hK
                have HF := Lib.hid (HKey.out d i wr hi hir (by rw [hst]; exact HRot.out) hL hR)
                rw [hst] at HF
                have hz1 : d.size = d.size := HRot.out.size
                have HM2 := Lib.hid (show PermIn a mid d d ∧ SortedIn lt a mid d from ⟨permIn_refl _ _ _, by rw [show mid = i by omega]; exact HF.out.1⟩)
                have hz2 : d.size = d.size := hz1
                have HSt := Lib.hid (show SortedIn lt mid stop d ∧ SortedIn lt stop b d from ⟨sorted_keep HF.out.2.2.1 (fun j h8 h9 => HM2.out.1.2.1 j (by omega)), sorted_keep HF.out.2.2.2.1 (fun j h8 h9 => HM2.out.1.2.1 j (by omega))⟩)
                go_must (refine (HI.out mid stop b d _ (by omega) (by rw [hz2]; exact HE1.out.on HKd.out hz2) (HKd.out.holds HE1.out.hlt HH1.out hz2) pA2 pD (by omega) HSt.out.1 HSt.out.2).mono ?_)
                rintro e w4 ⟨rfl, d3, hs3, hk3⟩
                have HM3 := Lib.hid hs3; clear hs3
                have HK3 := Lib.hid (swk_on HKd.out HE1.out.hlt hk3 HM3.out.1.1); clear hk3
                have hz3 : d3.size = d.size := HM3.out.1.1.trans hz2
                go_wp2_with fail
                go_end0
                exact ⟨rfl, d3, merge_halves (by omega) (by omega) (by omega) (by omega) (by omega) hb HF.out.2.2.2.2 HRot.out HM2.out HM3.out, swk_on HS1.out HB.out HK3.out hz3⟩
              · go_wp2_with fail
                have HRot := Lib.hid (show Rotated d d i m stop by rw [show stop = m by omega]; exact Rotated.same_r d i m)
                have HKd := hK
                have HF := Lib.hid (HKey.out d i wr hi hir (by rw [hst]; exact HRot.out) hL hR)
                rw [hst] at HF
                have hz1 : d.size = d.size := HRot.out.size
                have HM2 := Lib.hid (show PermIn a mid d d ∧ SortedIn lt a mid d from ⟨permIn_refl _ _ _, by rw [show mid = i by omega]; exact HF.out.1⟩)
                have hz2 : d.size = d.size := hz1
                have HSt := Lib.hid (show SortedIn lt mid stop d ∧ SortedIn lt stop b d from ⟨sorted_keep HF.out.2.2.1 (fun j h8 h9 => HM2.out.1.2.1 j (by omega)), sorted_keep HF.out.2.2.2.1 (fun j h8 h9 => HM2.out.1.2.1 j (by omega))⟩)
                have HM3 := Lib.hid (show PermIn mid b d d ∧ SortedIn lt mid b d from ⟨permIn_refl _ _ _, by rw [show b = stop by omega]; exact HSt.out.1⟩)
                have hz3 : d.size = d.size := hz2
                go_end0
                exact ⟨rfl, d, merge_halves (by omega) (by omega) (by omega) (by omega) (by omega) hb HF.out.2.2.2.2 HRot.out HM2.out HM3.out, swk_on HS1.out HB.out HKd.out hz3⟩
          · have pA2 : ¬ mid < stop := by omega
            by_cases pB : i < mid
            · have pB2 : m < stop := by omega
              have pC : a < i := by omega
              go_wp2_with fail
              have HRot := Lib.hid (show Rotated d d i m stop by rw [show i = m by omega]; exact Rotated.same_l d m stop)
              have HKd := hK
              have HF := Lib.hid (HKey.out d i wr hi hir (by rw [hst]; exact HRot.out) hL hR)
              rw [hst] at HF
              have hz1 : d.size = d.size := HRot.out.size
              go_must (refine (HI.out a i mid d _ (by omega) (by rw [hz1]; exact HE1.out.on HKd.out hz1) (HKd.out.holds HE1.out.hlt HH1.out hz1) pC pB (by omega) HF.out.1 HF.out.2.1).mono ?_)
              rintro e w3 ⟨rfl, d2, hs2, hk2⟩
              have HM2 := Lib.hid hs2; clear hs2
              have hz2 : d2.size = d.size := HM2.out.1.1.trans hz1
              have HK2 := Lib.hid (swk_on HKd.out HE1.out.hlt hk2 HM2.out.1.1); clear hk2
              obtain ⟨cw30, cw31⟩ := HCc.out _ w3 HK2.out
              go_wp2_with fail
              have HSt := Lib.hid (show SortedIn lt mid stop d2 ∧ SortedIn lt stop b d2 from ⟨sorted_keep HF.out.2.2.1 (fun j h8 h9 => HM2.out.1.2.1 j (by omega)), sorted_keep HF.out.2.2.2.1 (fun j h8 h9 => HM2.out.1.2.1 j (by omega))⟩)
              have HM3 := Lib.hid (show PermIn mid b d2 d2 ∧ SortedIn lt mid b d2 from ⟨permIn_refl _ _ _, by rw [show mid = stop by omega]; exact HSt.out.2⟩)
              have hz3 : d2.size = d.size := hz2
              go_end0
              exact ⟨rfl, d2, merge_halves (by omega) (by omega) (by omega) (by omega) (by omega) hb HF.out.2.2.2.2 HRot.out HM2.out HM3.out, swk_on HS1.out HB.out HK2.out hz3⟩
            · have pB2 : ¬ m < stop := by omega
              have pC : a < i := by omega
              go_wp2_with fail
              have HRot := Lib.hid (show Rotated d d i m stop by rw [show i = m by omega]; exact Rotated.same_l d m stop)
              have HKd := hK
              have HF := Lib.hid (HKey.out d i wr hi hir (by rw [hst]; exact HRot.out) hL hR)
              rw [hst] at HF
              have hz1 : d.size = d.size := HRot.out.size
              have HM2 := Lib.hid (show PermIn a mid d d ∧ SortedIn lt a mid d from ⟨permIn_refl _ _ _, by rw [show mid = i by omega]; exact HF.out.1⟩)
              have hz2 : d.size = d.size := hz1
              have HSt := Lib.hid (show SortedIn lt mid stop d ∧ SortedIn lt stop b d from ⟨sorted_keep HF.out.2.2.1 (fun j h8 h9 => HM2.out.1.2.1 j (by omega)), sorted_keep HF.out.2.2.2.1 (fun j h8 h9 => HM2.out.1.2.1 j (by omega))⟩)
              have HM3 := Lib.hid (show PermIn mid b d d ∧ SortedIn lt mid b d from ⟨permIn_refl _ _ _, by rw [show mid = stop by omega]; exact HSt.out.2⟩)
              have hz3 : d.size = d.size := hz2
              go_end0
              exact ⟨rfl, d, merge_halves (by omega) (by omega) (by omega) (by omega) (by omega) hb HF.out.2.2.2.2 HRot.out HM2.out HM3.out, swk_on HS1.out HB.out HKd.out hz3⟩
    · have hx1 : (a : Int) = (s0 : Int) := by omega
      have hb1 : b ≤ mid + m ∨ m ≤ mid := by omega
      have hq : ¬ mid < m := by omega
      have HX := Lib.hid (show s0 = a ∧ r0 = m from ⟨h6, h7⟩); clear h6 h7 hx1
      have hsb : s0 ≤ d.size := by omega
      have hrb : r0 ≤ d.size := by omega
      go_enter Tryz.func76, Tryz.ntmps76
      go_wp2_with fail
      go_loopw [18, 19] (fun v18 v19 wr => ∃ (i j : Nat), v18 = .int .i64 i ∧ v19 = .int .i64 j ∧ s0 ≤ i ∧ i ≤ j ∧ j ≤ r0 ∧ Hid (i = s0 ∨ lt d[mid + m - 1 - (i - 1)]! d[i - 1]! = false) ∧ Hid (j = r0 ∨ lt d[mid + m - 1 - j]! d[j]! = true) ∧ Hid (SWK enc k (W.alloc (dataB g lb sf sb)) blk off d wr)) (fun v18 v19 _ => (intOf v19).toNat - (intOf v18).toNat)
      case atStart => exact ⟨s0, r0, by first | rfl | (congr 1; have := HX.out; omega), by first | rfl | (congr 1; have := HX.out; omega), Nat.le_refl _, hsr, Nat.le_refl _, Or.inl rfl, Or.inl rfl, SWK.start HH1.out⟩
      case round =>
        obtain ⟨i, j, rfl, rfl, hi, hij, hjr, hL, hR, hK⟩ := hrel
        obtain ⟨c0, c1⟩ := HCc.out d wr hK.out
        by_cases hlt : i < j
        · obtain ⟨h, hh⟩ : ∃ h : Nat, h = (i + j) / 2 := ⟨_, rfl⟩
          have hhx := half_int hh
          have hh2 : i ≤ h := by omega
          have hh3 : h < j := by omega
          clear hh
          obtain ⟨x, hx⟩ : ∃ x : Nat, x = mid + m - 1 - h := ⟨_, rfl⟩
          have hxx : (((mid : Int) + (m : Int)) - 1) - (h : Int) = (x : Int) := by omega
          have hxb : x < d.size := by have := HX.out; omega
          have hhb : h < d.size := by omega
          cases hr : lt d[x]! d[h]! with
          | true =>
            have hl := Lib.hid (less_at HE1.out hK.out x h hxb hhb true hr)
            rw [hx] at hr
            have HR1 := Lib.hid hr; clear hr hx
            go_wp2_with (go_at_fn g; refine (hl.out).mono ?_; rintro e w' ⟨rfl, hk9⟩; have HK9 := Lib.hid hk9; clear hk9)
            go_roundw
            case rel => exact ⟨i, h, rfl, rfl, hi, hh2, by omega, hL, Or.inr HR1.out, HK9⟩
            case measure => simp [intOf]; omega
          | false =>
            have hl := Lib.hid (less_at HE1.out hK.out x h hxb hhb false hr)
            rw [hx] at hr
            have HR1 := Lib.hid hr; clear hr hx
            go_wp2_with (go_at_fn g; refine (hl.out).mono ?_; rintro e w' ⟨rfl, hk9⟩; have HK9 := Lib.hid hk9; clear hk9)
            go_roundw
            case rel => exact ⟨h + 1, j, by go_num, rfl, by omega, by omega, hjr, Or.inr (by rw [Nat.add_sub_cancel]; exact HR1.out), hR, HK9⟩
            case measure => simp [intOf]; omega
        · have hij2 : i = j := by omega
          subst hij2
          clear hij hlt
          have hir : i ≤ r0 := hjr
          obtain ⟨stop, hst⟩ : ∃ stop : Nat, mid + m - i = stop := ⟨_, rfl⟩
          obtain ⟨he1, he2⟩ := HEnd.out i hi hir
          rw [hst] at he1 he2
          have hsx : ((mid : Int) + (m : Int)) - (i : Int) = (stop : Int) := by omega
          have hai : a ≤ i := by omega
          have him : i ≤ mid := by have := HX.out; omega
          have him2 : i ≤ m := by omega
          by_cases pA : i < m
          · have pA2 : mid < stop := by omega
            by_cases pB : i < mid
            · have pB2 : m < stop := by omega
              by_cases pC : a < i
              · by_cases pD : stop < b
                · go_wp2_with fail
                  go_must (refine (rotate_w i m stop d (HE1.out.on hK.out rfl) (hK.out.holds HE1.out.hlt HH1.out rfl) pA pB2 (by omega)).mono ?_)
                  rintro e w2 ⟨rfl, d1, hrot, hk1⟩
                  have HRot := Lib.hid hrot; clear hrot
                  have HKd := Lib.hid (swk_on hK.out HE1.out.hlt hk1 HRot.out.size); clear hk1
                  have HF := Lib.hid (HKey.out d1 i wr hi hir (by rw [hst]; exact HRot.out) hL hR)
                  rw [hst] at HF
                  have hz1 : d1.size = d.size := HRot.out.size
                  obtain ⟨cw20, cw21⟩ := HCc.out _ w2 HKd.out
                  go_wp2_with fail
                  go_must (refine (HI.out a i mid d1 _ (by omega) (by rw [hz1]; exact HE1.out.on HKd.out hz1) (HKd.out.holds HE1.out.hlt HH1.out hz1) pC pB (by omega) HF.out.1 HF.out.2.1).mono ?_)
                  rintro e w3 ⟨rfl, d2, hs2, hk2⟩
                  have HM2 := Lib.hid hs2; clear hs2
                  have hz2 : d2.size = d.size := HM2.out.1.1.trans hz1
                  have HK2 := Lib.hid (swk_on HKd.out HE1.out.hlt hk2 HM2.out.1.1); clear hk2
                  obtain ⟨cw30, cw31⟩ := HCc.out _ w3 HK2.out
                  go_wp2_with fail
                  have HSt := Lib.hid (show SortedIn lt mid stop d2 ∧ SortedIn lt stop b d2 from ⟨sorted_keep HF.out.2.2.1 (fun j h8 h9 => HM2.out.1.2.1 j (by omega)), sorted_keep HF.out.2.2.2.1 (fun j h8 h9 => HM2.out.1.2.1 j (by omega))⟩)
                  go_must (refine (HI.out mid stop b d2 _ (by omega) (by rw [hz2]; exact HE1.out.on HK2.out hz2) (HK2.out.holds HE1.out.hlt HH1.out hz2) pA2 pD (by omega) HSt.out.1 HSt.out.2).mono ?_)
                  rintro e w4 ⟨rfl, d3, hs3, hk3⟩
                  have HM3 := Lib.hid hs3; clear hs3
                  have HK3 := Lib.hid (swk_on HK2.out HE1.out.hlt hk3 HM3.out.1.1); clear hk3
                  have hz3 : d3.size = d.size := HM3.out.1.1.trans hz2
                  go_wp2_with fail
                  go_end0
                  exact ⟨rfl, d3, merge_halves (by omega) (by omega) (by omega) (by omega) (by omega) hb HF.out.2.2.2.2 HRot.out HM2.out HM3.out, swk_on HS1.out HB.out HK3.out hz3⟩
                · go_wp2_with fail
                  go_must (refine (rotate_w i m stop d (HE1.out.on hK.out rfl) (hK.out.holds HE1.out.hlt HH1.out rfl) pA pB2 (by omega)).mono ?_)
                  rintro e w2 ⟨rfl, d1, hrot, hk1⟩
                  have HRot := Lib.hid hrot; clear hrot
                  have HKd := Lib.hid (swk_on hK.out HE1.out.hlt hk1 HRot.out.size); clear hk1
                  have HF := Lib.hid (HKey.out d1 i wr hi hir (by rw [hst]; exact HRot.out) hL hR)
                  rw [hst] at HF
                  have hz1 : d1.size = d.size := HRot.out.size
                  obtain ⟨cw20, cw21⟩ := HCc.out _ w2 HKd.out
                  go_wp2_with fail
                  go_must (refine (HI.out a i mid d1 _ (by omega) (by rw [hz1]; exact HE1.out.on HKd.out hz1) (HKd.out.holds HE1.out.hlt HH1.out hz1) pC pB (by omega) HF.out.1 HF.out.2.1).mono ?_)
                  rintro e w3 ⟨rfl, d2, hs2, hk2⟩
                  have HM2 := Lib.hid hs2; clear hs2
                  have hz2 : d2.size = d.size := HM2.out.1.1.trans hz1
                  have HK2 := Lib.hid (swk_on HKd.out HE1.out.hlt hk2 HM2.out.1.1); clear hk2
                  obtain ⟨cw30, cw31⟩ := HCc.out _ w3 HK2.out
                  go_wp2_with fail
                  have HSt := Lib.hid (show SortedIn lt mid stop d2 ∧ SortedIn lt stop b d2 from ⟨sorted_keep HF.out.2.2.1 (fun j h8 h9 => HM2.out.1.2.1 j (by omega)), sorted_keep HF.out.2.2.2.1 (fun j h8 h9 => HM2.out.1.2.1 j (by omega))⟩)
                  have HM3 := Lib.hid (show PermIn mid b d2 d2 ∧ SortedIn lt mid b d2 from ⟨permIn_refl _ _ _, by rw [show b = stop by omega]; exact HSt.out.1⟩)
                  have hz3 : d2.size = d.size := hz2
                  go_end0
                  exact ⟨rfl, d2, merge_halves (by omega) (by omega) (by omega) (by omega) (by omega) hb HF.out.2.2.2.2 HRot.out HM2.out HM3.out, swk_on HS1.out HB.out HK2.out hz3⟩
              · by_cases pD : stop < b
                · go_wp2_with fail
                  go_must (refine (rotate_w i m stop d (HE1.out.on hK.out rfl) (hK.out.holds HE1.out.hlt HH1.out rfl) pA pB2 (by omega)).mono ?_)
                  rintro e w2 ⟨rfl, d1, hrot, hk1⟩
                  have HRot := Lib.hid hrot; clear hrot
                  have HKd := Lib.hid (swk_on hK.out HE1.out.hlt hk1 HRot.out.size); clear hk1
                  have HF := Lib.hid (HKey.out d1 i wr hi hir (by rw [hst]; exact HRot.out) hL hR)
                  rw [hst] at HF
                  have hz1 : d1.size = d.size := HRot.out.size
                  obtain ⟨cw20, cw21⟩ := HCc.out _ w2 HKd.out
                  go_wp2_with fail
                  have HM2 := Lib.hid (show PermIn a mid d1 d1 ∧ SortedIn lt a mid d1 from ⟨permIn_refl _ _ _, by rw [show a = i by omega]; exact HF.out.2.1⟩)
                  have hz2 : d1.size = d.size := hz1
                  have HSt := Lib.hid (show SortedIn lt mid stop d1 ∧ SortedIn lt stop b d1 from ⟨sorted_keep HF.out.2.2.1 (fun j h8 h9 => HM2.out.1.2.1 j (by omega)), sorted_keep HF.out.2.2.2.1 (fun j h8 h9 => HM2.out.1.2.1 j (by omega))⟩)
                  go_must (refine (HI.out mid stop b d1 _ (by omega) (by rw [hz2]; exact HE1.out.on HKd.out hz2) (HKd.out.holds HE1.out.hlt HH1.out hz2) pA2 pD (by omega) HSt.out.1 HSt.out.2).mono ?_)
                  rintro e w4 ⟨rfl, d3, hs3, hk3⟩
                  have HM3 := Lib.hid hs3; clear hs3
                  have HK3 := Lib.hid (swk_on HKd.out HE1.out.hlt hk3 HM3.out.1.1); clear hk3
                  have hz3 : d3.size = d.size := HM3.out.1.1.trans hz2
                  go_wp2_with fail
                  go_end0
                  exact ⟨rfl, d3, merge_halves (by omega) (by omega) (by omega) (by omega) (by omega) hb HF.out.2.2.2.2 HRot.out HM2.out HM3.out, swk_on HS1.out HB.out HK3.out hz3⟩
                · go_wp2_with fail
                  go_must (refine (rotate_w i m stop d (HE1.out.on hK.out rfl) (hK.out.holds HE1.out.hlt HH1.out rfl) pA pB2 (by omega)).mono ?_)
                  rintro e w2 ⟨rfl, d1, hrot, hk1⟩
                  have HRot := Lib.hid hrot; clear hrot
                  have HKd := Lib.hid (swk_on hK.out HE1.out.hlt hk1 HRot.out.size); clear hk1
                  have HF := Lib.hid (HKey.out d1 i wr hi hir (by rw [hst]; exact HRot.out) hL hR)
                  rw [hst] at HF
                  have hz1 : d1.size = d.size := HRot.out.size
                  obtain ⟨cw20, cw21⟩ := HCc.out _ w2 HKd.out
                  go_wp2_with fail
                  have HM2 := Lib.hid (show PermIn a mid d1 d1 ∧ SortedIn lt a mid d1 from ⟨permIn_refl _ _ _, by rw [show a = i by omega]; exact HF.out.2.1⟩)
                  have hz2 : d1.size = d.size := hz1
                  have HSt := Lib.hid (show SortedIn lt mid stop d1 ∧ SortedIn lt stop b d1 from ⟨sorted_keep HF.out.2.2.1 (fun j h8 h9 => HM2.out.1.2.1 j (by omega)), sorted_keep HF.out.2.2.2.1 (fun j h8 h9 => HM2.out.1.2.1 j (by omega))⟩)
                  have HM3 := Lib.hid (show PermIn mid b d1 d1 ∧ SortedIn lt mid b d1 from ⟨permIn_refl _ _ _, by rw [show b = stop by omega]; exact HSt.out.1⟩)
                  have hz3 : d1.size = d.size := hz2
                  go_end0
                  exact ⟨rfl, d1, merge_halves (by omega) (by omega) (by omega) (by omega) (by omega) hb HF.out.2.2.2.2 HRot.out HM2.out HM3.out, swk_on HS1.out HB.out HKd.out hz3⟩
            · have pB2 : ¬ m < stop := by omega
              have pC : a < i := by omega
              by_cases pD : stop < b
              · go_wp2_with fail
                have HRot := Lib.hid (show Rotated d d i m stop by rw [show stop = m by omega]; exact Rotated.same_r d i m)
                have HKd := hK
                have HF := Lib.hid (HKey.out d i wr hi hir (by rw [hst]; exact HRot.out) hL hR)
                rw [hst] at HF
                have hz1 : d.size = d.size := HRot.out.size
                have HM2 := Lib.hid (show PermIn a mid d d ∧ SortedIn lt a mid d from ⟨permIn_refl _ _ _, by rw [show mid = i by omega]; exact HF.out.1⟩)
                have hz2 : d.size = d.size := hz1
                have HSt := Lib.hid (show SortedIn lt mid stop d ∧ SortedIn lt stop b d from ⟨sorted_keep HF.out.2.2.1 (fun j h8 h9 => HM2.out.1.2.1 j (by omega)), sorted_keep HF.out.2.2.2.1 (fun j h8 h9 => HM2.out.1.2.1 j (by omega))⟩)
                go_must (refine (HI.out mid stop b d _ (by omega) (by rw [hz2]; exact HE1.out.on HKd.out hz2) (HKd.out.holds HE1.out.hlt HH1.out hz2) pA2 pD (by omega) HSt.out.1 HSt.out.2).mono ?_)
                rintro e w4 ⟨rfl, d3, hs3, hk3⟩
                have HM3 := Lib.hid hs3; clear hs3
                have HK3 := Lib.hid (swk_on HKd.out HE1.out.hlt hk3 HM3.out.1.1); clear hk3
                have hz3 : d3.size = d.size := HM3.out.1.1.trans hz2
                go_wp2_with fail
                go_end0
                exact ⟨rfl, d3, merge_halves (by omega) (by omega) (by omega) (by omega) (by omega) hb HF.out.2.2.2.2 HRot.out HM2.out HM3.out, swk_on HS1.out HB.out HK3.out hz3⟩
              · go_wp2_with fail
                have HRot := Lib.hid (show Rotated d d i m stop by rw [show stop = m by omega]; exact Rotated.same_r d i m)
                have HKd := hK
                have HF := Lib.hid (HKey.out d i wr hi hir (by rw [hst]; exact HRot.out) hL hR)
                rw [hst] at HF
                have hz1 : d.size = d.size := HRot.out.size
                have HM2 := Lib.hid (show PermIn a mid d d ∧ SortedIn lt a mid d from ⟨permIn_refl _ _ _, by rw [show mid = i by omega]; exact HF.out.1⟩)
                have hz2 : d.size = d.size := hz1
                have HSt := Lib.hid (show SortedIn lt mid stop d ∧ SortedIn lt stop b d from ⟨sorted_keep HF.out.2.2.1 (fun j h8 h9 => HM2.out.1.2.1 j (by omega)), sorted_keep HF.out.2.2.2.1 (fun j h8 h9 => HM2.out.1.2.1 j (by omega))⟩)
                have HM3 := Lib.hid (show PermIn mid b d d ∧ SortedIn lt mid b d from ⟨permIn_refl _ _ _, by rw [show b = stop by omega]; exact HSt.out.1⟩)
                have hz3 : d.size = d.size := hz2
                go_end0
                exact ⟨rfl, d, merge_halves (by omega) (by omega) (by omega) (by omega) (by omega) hb HF.out.2.2.2.2 HRot.out HM2.out HM3.out, swk_on HS1.out HB.out HKd.out hz3⟩
          · have pA2 : ¬ mid < stop := by omega
            by_cases pB : i < mid
            · have pB2 : m < stop := by omega
              have pC : a < i := by omega
              go_wp2_with fail
              have HRot := Lib.hid (show Rotated d d i m stop by rw [show i = m by omega]; exact Rotated.same_l d m stop)
              have HKd := hK
              have HF := Lib.hid (HKey.out d i wr hi hir (by rw [hst]; exact HRot.out) hL hR)
              rw [hst] at HF
              have hz1 : d.size = d.size := HRot.out.size
              go_must (refine (HI.out a i mid d _ (by omega) (by rw [hz1]; exact HE1.out.on HKd.out hz1) (HKd.out.holds HE1.out.hlt HH1.out hz1) pC pB (by omega) HF.out.1 HF.out.2.1).mono ?_)
              rintro e w3 ⟨rfl, d2, hs2, hk2⟩
              have HM2 := Lib.hid hs2; clear hs2
              have hz2 : d2.size = d.size := HM2.out.1.1.trans hz1
              have HK2 := Lib.hid (swk_on HKd.out HE1.out.hlt hk2 HM2.out.1.1); clear hk2
              obtain ⟨cw30, cw31⟩ := HCc.out _ w3 HK2.out
              go_wp2_with fail
              have HSt := Lib.hid (show SortedIn lt mid stop d2 ∧ SortedIn lt stop b d2 from ⟨sorted_keep HF.out.2.2.1 (fun j h8 h9 => HM2.out.1.2.1 j (by omega)), sorted_keep HF.out.2.2.2.1 (fun j h8 h9 => HM2.out.1.2.1 j (by omega))⟩)
              have HM3 := Lib.hid (show PermIn mid b d2 d2 ∧ SortedIn lt mid b d2 from ⟨permIn_refl _ _ _, by rw [show mid = stop by omega]; exact HSt.out.2⟩)
              have hz3 : d2.size = d.size := hz2
              go_end0
              exact ⟨rfl, d2, merge_halves (by omega) (by omega) (by omega) (by omega) (by omega) hb HF.out.2.2.2.2 HRot.out HM2.out HM3.out, swk_on HS1.out HB.out HK2.out hz3⟩
            · have pB2 : ¬ m < stop := by omega
              have pC : a < i := by omega
              go_wp2_with fail
              have HRot := Lib.hid (show Rotated d d i m stop by rw [show i = m by omega]; exact Rotated.same_l d m stop)
              have HKd := hK
              have HF := Lib.hid (HKey.out d i wr hi hir (by rw [hst]; exact HRot.out) hL hR)
              rw [hst] at HF
              have hz1 : d.size = d.size := HRot.out.size
              have HM2 := Lib.hid (show PermIn a mid d d ∧ SortedIn lt a mid d from ⟨permIn_refl _ _ _, by rw [show mid = i by omega]; exact HF.out.1⟩)
              have hz2 : d.size = d.size := hz1
              have HSt := Lib.hid (show SortedIn lt mid stop d ∧ SortedIn lt stop b d from ⟨sorted_keep HF.out.2.2.1 (fun j h8 h9 => HM2.out.1.2.1 j (by omega)), sorted_keep HF.out.2.2.2.1 (fun j h8 h9 => HM2.out.1.2.1 j (by omega))⟩)
              have HM3 := Lib.hid (show PermIn mid b d d ∧ SortedIn lt mid b d from ⟨permIn_refl _ _ _, by rw [show mid = stop by omega]; exact HSt.out.2⟩)
              have hz3 : d.size = d.size := hz2
              go_end0
              exact ⟨rfl, d, merge_halves (by omega) (by omega) (by omega) (by omega) (by omega) hb HF.out.2.2.2.2 HRot.out HM2.out HM3.out, swk_on HS1.out HB.out HKd.out hz3⟩
end
end Go.Proofs.YtnanogcppglapaaGreatDoor
