/-
  sort.stable_func, sort.SliceStable at rows of structs, at whatever length.
-/
import Derived.Test.YtnanogcppglapaaGreatDoorStab2
import Derived.Sort.LotA
import Derived.Shelf.GgSortMore.Stable
import Derived.Shelf.SlSortFuncK.WholeK
namespace Go.Proofs.YtnanogcppglapaaGreatDoor
open Go.RowKit Go.Deep Go.Sort

section
variable {α : Type} [Inhabited α]
variable {enc : α → List Value} {k : Nat} {lt : α → α → Bool} {g : Nat} {lb : Array Value} {sf : Nat} {sb : Array Value} {blk off : Nat} {W : World}

/-- runs of s elements are sorted, those that begin at lo ≤ .. < hi -/
def Runs (lt : α → α → Bool) (d : Array α) (s n lo hi : Nat) : Prop := ∀ q, lo ≤ q * s → q * s < hi → SortedIn lt (q * s) (min (q * s + s) n) d

theorem Runs.start (lt : α → α → Bool) (d : Array α) (s n lo : Nat) : Runs lt d s n lo 0 := fun q _ h => absurd h (by omega)
theorem Runs.ext {d d' : Array α} {s n e : Nat} (q : Nat) (hs : 0 < s) (h : Runs lt d s n 0 (q * s)) (hp : PermIn (q * s) e d d') (hn : SortedIn lt (q * s) (min (q * s + s) n) d') (hi : Nat) (hhi : hi ≤ q * s + s) : Runs lt d' s n 0 hi := fun r _ hr => by
  rcases Nat.lt_trichotomy r q with h1 | h1 | h1
  · have h2 : (r + 1) * s ≤ q * s := Nat.mul_le_mul_right _ h1
    rw [Nat.succ_mul] at h2
    exact sorted_keep (h r (Nat.zero_le _) (by omega)) (fun i h3 h4 => hp.2.1 i (Or.inl (by omega)))
  · subst h1; exact hn
  · have h2 : (q + 1) * s ≤ r * s := Nat.mul_le_mul_right _ h1
    rw [Nat.succ_mul] at h2
    omega
theorem Runs.rest {d d' : Array α} {s n a e : Nat} (h : Runs lt d s n a n) (hp : PermIn a e d d') (hae : a ≤ e) : Runs lt d' s n e n := fun r h1 h2 =>
  sorted_keep (h r (by omega) h2) (fun i h3 _ => hp.2.1 i (Or.inr (by omega)))
theorem twice (q s : Nat) : 2 * q * s = q * (2 * s) := by rw [Nat.mul_comm 2 q, Nat.mul_assoc]
theorem Runs.left {d : Array α} {s n q : Nat} (h : Runs lt d s n (q * (2 * s)) n) (hlt : q * (2 * s) < n) : SortedIn lt (q * (2 * s)) (min (q * (2 * s) + s) n) d := by
  have := h (2 * q) (by rw [twice]; omega) (by rw [twice]; exact hlt)
  rw [twice] at this; exact this
theorem Runs.right {d : Array α} {s n q : Nat} (h : Runs lt d s n (q * (2 * s)) n) (hlt : q * (2 * s) + s < n) : SortedIn lt (q * (2 * s) + s) (min (q * (2 * s) + s + s) n) d := by
  have e : (2 * q + 1) * s = q * (2 * s) + s := by rw [Nat.succ_mul, twice]
  have := h (2 * q + 1) (by rw [e]; omega) (by rw [e]; exact hlt)
  rw [e] at this; exact this

def StPost (enc : α → List Value) (k blk off : Nat) (lt : α → α → Bool) (d : Array α) (W : World) (e : Ending) (w' : World) : Prop := e = .returned (.tuple #[]) ∧ ∃ d', (PermIn 0 d.size d d' ∧ SortedIn lt 0 d.size d') ∧ SWK enc k W blk off d' w'

theorem inner_yes {lt : α → α → Bool} {a p : Nat} {d : Array α} (hp : a < p + 1) (h : lt d[p + 1]! d[p]! = true) : insInner lt a (p + 1) d = insInner lt a p (swp d (p + 1) p) := by
  rw [insInner, h, if_pos (by simpa using hp)]
theorem inner_no {lt : α → α → Bool} {a p : Nat} {d : Array α} (h : lt d[p + 1]! d[p]! = false) : insInner lt a (p + 1) d = d := by
  rw [insInner, h, if_neg (by simp)]
theorem inner_end {lt : α → α → Bool} {a : Nat} {d : Array α} : insInner lt a a d = d := by
  cases a with
  | zero => rfl
  | succ p => rw [insInner, if_neg (by simp)]
theorem outer_yes {lt : α → α → Bool} {a b i : Nat} {d : Array α} (h : i < b) : insOuter lt a b i d = insOuter lt a b (i + 1) (insInner lt a i d) := by
  rw [insOuter, if_pos h]
theorem outer_end {lt : α → α → Bool} {a b i : Nat} {d : Array α} (h : ¬ i < b) : insOuter lt a b i d = d := by
  rw [insOuter, if_neg h]
set_option maxHeartbeats 4000000 in
set_option maxRecDepth 100000 in
theorem insertion_w (hO : SWO lt) (a b : Nat) (d : Array α) {W : World} (E : SEnv enc k lt g lb sf sb blk off d.size W) (hH : HoldsK enc k W blk off d) (hab : a ≤ b) (hb : b ≤ d.size) :
    Calls Tryz.prog 75 #[dataV g lb sf sb, .int .i64 a, .int .i64 b] W (SymPost enc k blk off lt a b d W) := by
  have hsz := E.sz
  have hblk := E.hlt
  have eg := E.eg
  have HE1 := Lib.hid (E.alloc (dataB g lb sf sb))
  have HH1 := Lib.hid (holds_box hH hblk (dataB g lb sf sb))
  have HS1 := Lib.hid (swk_box hH (dataB g lb sf sb))
  have HB := Lib.hid hblk
  have cc : ∀ (dk : Array α) (wx : World), SWK enc k (W.alloc (dataB g lb sf sb)) blk off dk wx → wx.cell? ⟨W.heap.size, 0, none⟩ = some (.func (.func g) #[] lb) ∧ wx.cell? ⟨W.heap.size, 1, none⟩ = some (.func (.func sf) #[] sb) := fun dk wx h2 => by
    have := HB.out
    rw [swk_cell h2 _ _ (by omega) (by rw [World.size_alloc]; omega), swk_cell h2 _ _ (by omega) (by rw [World.size_alloc]; omega)]; simp
  have HCc := Lib.hid cc; clear cc
  have HIh := Lib.hid (insertionSort_holds hO d a b hab hb)
  clear hH E hO
  go_enter Tryz.func75, Tryz.ntmps75
  go_wp2_with fail
  go_loopw [6] (fun v6 wr => ∃ (i : Nat) (dk : Array α), v6 = .int .i64 i ∧ a + 1 ≤ i ∧ i ≤ b + 1 ∧ Hid (dk.size = d.size) ∧ Hid (insOuter lt a b i dk = insertionSort lt d a b) ∧ Hid (SWK enc k (W.alloc (dataB g lb sf sb)) blk off dk wr)) (fun v6 _ => b + 1 - (intOf v6).toNat)
  case atStart => exact ⟨a + 1, d, by go_num, Nat.le_refl _, by omega, Lib.hid rfl, Lib.hid rfl, Lib.hid (SWK.start HH1.out)⟩
  case round =>
    obtain ⟨i, dk, rfl, hi1, hi2, hds, hEq, hK⟩ := hrel
    by_cases hlt : i < b
    · have hEq1 := Lib.hid ((outer_yes hlt).symm.trans hEq.out)
      go_wp2_with fail
      go_loopw [7] (fun v7 wr => ∃ (j : Nat) (d2 : Array α), v7 = .int .i64 j ∧ j ≤ i ∧ a ≤ j ∧ Hid (d2.size = d.size) ∧ Hid (insInner lt a j d2 = insInner lt a i dk) ∧ Hid (SWK enc k (W.alloc (dataB g lb sf sb)) blk off d2 wr)) (fun v7 _ => (intOf v7).toNat)
      case atStart => exact ⟨i, dk, rfl, Nat.le_refl _, by omega, hds, Lib.hid rfl, hK⟩
      case round =>
        clear hK
        obtain ⟨j, d2, rfl, hji, haj, hds2, hEq2, hK2⟩ := hrel
        obtain ⟨c0, c1⟩ := HCc.out d2 _ hK2.out
        by_cases hja : a < j
        · obtain ⟨p, hp⟩ : ∃ p, p + 1 = j := ⟨j - 1, by omega⟩
          have hjp : (j : Int) - 1 = (p : Int) := by omega
          have HP := Lib.hid hp; clear hp
          have hp1 : a ≤ p := by have := HP.out; omega
          have hp2 : p ≤ i := by have := HP.out; omega
          have HE2 := Lib.hid (show SEnv enc k lt g lb sf sb blk off d2.size (W.alloc (dataB g lb sf sb)) by rw [hds2.out]; exact HE1.out)
          have hjd : j < d2.size := by rw [hds2.out]; omega
          have hpd : p < d2.size := by have := HP.out; omega
          cases hr : lt d2[j]! d2[p]! with
          | true =>
            have hl := Lib.hid (less_at HE2.out hK2.out j p hjd hpd true hr)
            have HR1 := Lib.hid (show insInner lt a p (swp d2 j p) = insInner lt a i dk by rw [← hEq2.out, ← HP.out]; exact (inner_yes (by have := HP.out; omega) (by rw [HP.out]; exact hr)).symm)
            clear hr
            go_wp2_with (go_at_fn g; refine (hl.out).mono ?_; rintro e w' ⟨rfl, hk9⟩; have hs := HE2.out.swap _ d2 (SWK.holds hk9 HE2.out.hlt HH1.out hds2.out) rfl j p hjd hpd; have HK9 := Lib.hid (SWK.swap hk9 HE2.out.hk HE2.out.hlt j p hjd hpd); have ⟨c2, c3⟩ := HCc.out d2 _ hk9; clear hk9)
            go_roundw
            case rel => exact ⟨p, _, by go_num, hp2, hp1, Lib.hid (by rw [size_swp]; exact hds2.out), HR1, Lib.hid (by have h9 := HK9.out; rw [getElem!_pos d2 p hpd, getElem!_pos d2 j hjd] at h9; exact h9)⟩
            case measure => have := HP.out; simp [intOf]; omega
          | false =>
            have hl := Lib.hid (less_at HE2.out hK2.out j p hjd hpd false hr)
            have HR1 := Lib.hid (show insInner lt a i dk = d2 by rw [← hEq2.out, ← HP.out]; exact inner_no (by rw [HP.out]; exact hr))
            clear hr
            go_wp2_with (go_at_fn g; refine (hl.out).mono ?_; rintro e w' ⟨rfl, hk9⟩; have HK9 := Lib.hid hk9; clear hk9)
            go_roundw
            case rel => exact ⟨i + 1, d2, by go_num, by omega, by omega, hds2, Lib.hid (by rw [← HR1.out]; exact hEq1.out), HK9⟩
            case measure => simp [intOf]; omega
        · obtain rfl : j = a := by omega
          have HR1 := Lib.hid (show insInner lt j i dk = d2 by rw [← hEq2.out]; exact inner_end)
          go_wp2_with fail
          go_roundw
          case rel => exact ⟨i + 1, d2, by go_num, by omega, by omega, hds2, Lib.hid (by rw [← HR1.out]; exact hEq1.out), hK2⟩
          case measure => simp [intOf]; omega
    · have hEq1 := Lib.hid ((outer_end hlt).symm.trans hEq.out)
      go_wp2_with fail
      go_end0
      exact ⟨rfl, dk, by rw [hEq1.out]; exact HIh.out, swk_on HS1.out HB.out hK.out hds.out⟩

set_option maxHeartbeats 8000000 in
set_option maxRecDepth 100000 in
theorem stable_w (hO : SWO lt) (d : Array α) (E : SEnv enc k lt g lb sf sb blk off d.size W) (hH : HoldsK enc k W blk off d) (hsmall : d.size ≤ 1099511627776) :
    Calls Tryz.prog 41 #[dataV g lb sf sb, .int .i64 d.size] W (StPost enc k blk off lt d W) := by
  have hsz := E.sz
  have hblk := E.hlt
  have HE1 := Lib.hid (E.alloc (dataB g lb sf sb))
  have HH1 := Lib.hid (holds_box hH hblk (dataB g lb sf sb))
  have HS1 := Lib.hid (swk_box hH (dataB g lb sf sb))
  have HB := Lib.hid hblk
  have HO := Lib.hid hO
  have cc : ∀ (dk : Array α) (wx : World), SWK enc k (W.alloc (dataB g lb sf sb)) blk off dk wx → wx.cell? ⟨W.heap.size, 0, none⟩ = some (.func (.func g) #[] lb) ∧ wx.cell? ⟨W.heap.size, 1, none⟩ = some (.func (.func sf) #[] sb) := fun dk wx h2 => by
    have := HB.out
    rw [swk_cell h2 _ _ (by omega) (by rw [World.size_alloc]; omega), swk_cell h2 _ _ (by omega) (by rw [World.size_alloc]; omega)]; simp
  have HCc := Lib.hid cc; clear cc
  obtain ⟨n, hn⟩ : ∃ n : Nat, d.size = n := ⟨_, rfl⟩
  rw [hn] at hsz hsmall ⊢
  clear hH E hO
  go_enter Tryz.func41, Tryz.ntmps41
  go_wp2_with fail
  go_loopw [5, 6] (fun v5 v6 wr => ∃ (q a : Nat) (dk : Array α), v5 = .int .i64 a ∧ v6 = .int .i64 ((a : Int) + 20) ∧ Hid (a = q * 20) ∧ a ≤ n ∧ Hid (PermIn 0 n d dk) ∧ Hid (Runs lt dk 20 n 0 (q * 20)) ∧ Hid (SWK enc k (W.alloc (dataB g lb sf sb)) blk off dk wr)) (fun v5 v6 _ => n + 20 - (intOf v5).toNat)
  case atStart => exact ⟨0, 0, d, rfl, rfl, by show _ = _; omega, Nat.zero_le _, permIn_refl _ _ _, by show Runs _ _ _ _ _ _; rw [Nat.zero_mul]; exact Runs.start _ _ _ _ _, SWK.start HH1.out⟩
  case round =>
    obtain ⟨q, a, dk, rfl, rfl, hq, han, hP, hR, hK⟩ := hrel
    obtain ⟨c0, c1⟩ := HCc.out dk wr hK.out
    have hds : dk.size = d.size := hP.out.1
    have hdn : dk.size = n := hds.trans hn
    by_cases hlt : a + 20 ≤ n
    · have hc := insertion_w HO.out a (a + 20) dk (by rw [hds]; exact HE1.out.on hK.out hds) (hK.out.holds HE1.out.hlt HH1.out hds) (by omega) (by omega)
      rw [show ((a + 20 : Nat) : Int) = (a : Int) + 20 by omega] at hc
      have HC := Lib.hid hc; clear hc
      go_wp2_with (go_at_call 75; go_must (refine HC.out.mono ?_); rintro e w2 ⟨rfl, d1, hd1, hk1⟩; have HD := Lib.hid hd1; have HK1 := Lib.hid hk1; clear hd1 hk1)
      go_roundw
      case rel =>
        have hq2 := hq.out
        refine ⟨q + 1, a + 20, d1, by go_num, by congr 1 <;> omega, by show _ = _; omega, by omega, permIn_trans _ _ _ _ _ hP.out (permIn_mono _ _ _ _ _ _ (Nat.zero_le _) (by omega) (by omega) HD.out.1), ?_, swk_on hK.out HE1.out.hlt HK1.out HD.out.1.1⟩
        refine Runs.ext (e := a + 20) q (by omega) hR.out (by rw [← hq2]; exact HD.out.1) ?_ _ (by omega)
        rw [← hq2, Nat.min_eq_left (by omega)]; exact HD.out.2
      case measure => simp [intOf]; omega
    · have hc := insertion_w HO.out a n dk (by rw [hds]; exact HE1.out.on hK.out hds) (hK.out.holds HE1.out.hlt HH1.out hds) han (by omega)
      have HC := Lib.hid hc; clear hc
      go_wp2_with (go_at_call 75; go_must (refine HC.out.mono ?_); rintro e w2 ⟨rfl, d1, hd1, hk1⟩; have HD := Lib.hid hd1; have HK1 := Lib.hid (swk_on hK.out HE1.out.hlt hk1 hd1.1.1); clear hd1 hk1)
      have hR1 : Runs lt d1 20 n 0 n := by
        have hq2 := hq.out
        refine Runs.ext (e := n) q (by omega) hR.out (by rw [← hq2]; exact HD.out.1) ?_ _ (by omega)
        rw [← hq2, Nat.min_eq_right (by omega)]; exact HD.out.2
      have hP1 : PermIn 0 n d d1 := permIn_trans _ _ _ _ _ hP.out (permIn_mono _ _ _ _ _ _ (Nat.zero_le _) (Nat.le_refl _) (by omega) HD.out.1)
      have HR1 := Lib.hid hR1
      have HP1 := Lib.hid hP1
      clear hR1 hP1 c0 c1
      go_loopw [4, 5, 6] (fun v4 v5 v6 wr => ∃ (s a1 b1 : Nat) (dk : Array α), v4 = .int .i64 s ∧ v5 = .int .i64 a1 ∧ v6 = .int .i64 b1 ∧ 20 ≤ s ∧ s ≤ 2 * n + 20 ∧ Hid (PermIn 0 n d dk) ∧ Hid (Runs lt dk s n 0 n) ∧ Hid (SWK enc k (W.alloc (dataB g lb sf sb)) blk off dk wr)) (fun v4 v5 v6 _ => 2 * n + 40 - (intOf v4).toNat)
      case atStart => exact ⟨20, a, a + 20, d1, rfl, rfl, by congr 1 <;> omega, Nat.le_refl _, by omega, HP1, HR1, HK1.out⟩
      case round =>
        obtain ⟨s, a1, b1, d2, rfl, rfl, rfl, hs20, hs2, hP2, hR2, hK2⟩ := hrel
        by_cases hsn : s < n
        · go_wp2_with fail
          go_loopw [5, 6] (fun v5 v6 wr => ∃ (q a2 : Nat) (dk : Array α), v5 = .int .i64 a2 ∧ v6 = .int .i64 ((a2 : Int) + 2 * (s : Int)) ∧ Hid (a2 = q * (2 * s)) ∧ a2 ≤ n ∧ Hid (PermIn 0 n d dk) ∧ Hid (Runs lt dk (2 * s) n 0 (q * (2 * s))) ∧ Hid (Runs lt dk s n (q * (2 * s)) n) ∧ Hid (SWK enc k (W.alloc (dataB g lb sf sb)) blk off dk wr)) (fun v5 v6 _ => n + 20 - (intOf v5).toNat)
          case atStart => exact ⟨0, 0, d2, rfl, by congr 1 <;> omega, by show _ = _; omega, Nat.zero_le _, hP2, by show Runs _ _ _ _ _ _; rw [Nat.zero_mul]; exact Runs.start _ _ _ _ _, by show Runs _ _ _ _ _ _; rw [Nat.zero_mul]; exact hR2.out, hK2.out⟩
          case round =>
            obtain ⟨q2, a2, d3, rfl, rfl, hq2, han2, hP3, hR3, hR4, hK3⟩ := hrel
            obtain ⟨c0, c1⟩ := HCc.out d3 _ hK3.out
            have hds3 : d3.size = d.size := hP3.out.1
            have hdn3 : d3.size = n := hds3.trans hn
            by_cases hlt2 : a2 + 2 * s ≤ n
            · have sl : SortedIn lt a2 (a2 + s) d3 := by
                have := Runs.left hR4.out (by rw [← hq2.out]; omega)
                rw [← hq2.out, Nat.min_eq_left (by omega)] at this; exact this
              have sr : SortedIn lt (a2 + s) (a2 + 2 * s) d3 := by
                have := Runs.right hR4.out (by rw [← hq2.out]; omega)
                rw [← hq2.out, Nat.min_eq_left (by omega), show a2 + s + s = a2 + 2 * s by omega] at this; exact this
              have hc := symMerge_w HO.out _ a2 (a2 + s) (a2 + 2 * s) d3 _ (Nat.le_refl _) (by rw [hds3]; exact HE1.out.on hK3.out hds3) (hK3.out.holds HE1.out.hlt HH1.out hds3) (by omega) (by omega) (by omega) sl sr
              rw [show ((a2 + s : Nat) : Int) = (a2 : Int) + (s : Int) by omega, show ((a2 + 2 * s : Nat) : Int) = (a2 : Int) + 2 * (s : Int) by omega] at hc
              have HC3 := Lib.hid hc; clear hc sl sr
              go_wp2_with (go_at_call 76; go_must (refine HC3.out.mono ?_); rintro e w3 ⟨rfl, d4, hd4, hk4⟩; have HD4 := Lib.hid hd4; have HK4 := Lib.hid hk4; clear hd4 hk4)
              go_roundw
              case rel =>
                have hq3 := hq2.out
                have e1 : (q2 + 1) * (2 * s) = a2 + 2 * s := by rw [Nat.succ_mul, ← hq3]
                refine ⟨q2 + 1, a2 + 2 * s, d4, by congr 1 <;> omega, by congr 1 <;> omega, e1.symm, by omega, permIn_trans _ _ _ _ _ hP3.out (permIn_mono _ _ _ _ _ _ (Nat.zero_le _) (by omega) (by omega) HD4.out.1), ?_, ?_, swk_on hK3.out HE1.out.hlt HK4.out HD4.out.1.1⟩
                · refine Runs.ext (e := a2 + 2 * s) q2 (by omega) hR3.out (by rw [← hq3]; exact HD4.out.1) ?_ _ (by rw [e1, hq3]; exact Nat.le_refl _)
                  rw [← hq3, Nat.min_eq_left (by omega)]; exact HD4.out.2
                · show Runs _ _ _ _ _ _
                  rw [e1]
                  exact Runs.rest (a := a2) (by have := hR4.out; rw [← hq3] at this; exact this) HD4.out.1 (by omega)
              case measure => simp [intOf]; omega
            · by_cases hm : a2 + s < n
              · have sl : SortedIn lt a2 (a2 + s) d3 := by
                  have := Runs.left hR4.out (by rw [← hq2.out]; omega)
                  rw [← hq2.out, Nat.min_eq_left (by omega)] at this; exact this
                have sr : SortedIn lt (a2 + s) n d3 := by
                  have := Runs.right hR4.out (by rw [← hq2.out]; omega)
                  rw [← hq2.out, Nat.min_eq_right (by omega)] at this; exact this
                have hc := symMerge_w HO.out _ a2 (a2 + s) n d3 _ (Nat.le_refl _) (by rw [hds3]; exact HE1.out.on hK3.out hds3) (hK3.out.holds HE1.out.hlt HH1.out hds3) (by omega) (by omega) (by omega) sl sr
                rw [show ((a2 + s : Nat) : Int) = (a2 : Int) + (s : Int) by omega] at hc
                have HC3 := Lib.hid hc; clear hc sl sr
                go_wp2_with (go_at_call 76; go_must (refine HC3.out.mono ?_); rintro e w3 ⟨rfl, d4, hd4, hk4⟩; have HD4 := Lib.hid hd4; have HK4 := Lib.hid hk4; clear hd4 hk4)
                go_roundw
                case rel =>
                  have hq3 := hq2.out
                  refine ⟨2 * s, a2, a2 + 2 * s, d4, by congr 1 <;> omega, rfl, by congr 1 <;> omega, by omega, by omega, permIn_trans _ _ _ _ _ hP3.out (permIn_mono _ _ _ _ _ _ (Nat.zero_le _) (Nat.le_refl _) (by omega) HD4.out.1), ?_, swk_on hK3.out HE1.out.hlt HK4.out HD4.out.1.1⟩
                  refine Runs.ext (e := n) q2 (by omega) hR3.out (by rw [← hq3]; exact HD4.out.1) ?_ _ (by omega)
                  rw [← hq3, Nat.min_eq_right (by omega)]; exact HD4.out.2
                case measure => simp [intOf]; omega
              · go_wp2_with fail
                go_roundw
                case rel =>
                  have hq3 := hq2.out
                  refine ⟨2 * s, a2, a2 + 2 * s, d3, by congr 1 <;> omega, rfl, by congr 1 <;> omega, by omega, by omega, hP3, ?_, hK3.out⟩
                  refine Runs.ext (e := n) q2 (by omega) hR3.out (permIn_refl _ _ _) ?_ _ (by omega)
                  rw [← hq3, Nat.min_eq_right (by omega)]
                  by_cases h0 : a2 < n
                  · have := Runs.left hR4.out (by rw [← hq3]; exact h0)
                    rw [← hq3, Nat.min_eq_right (by omega)] at this; exact this
                  · exact sorted_none _ (by omega)
                case measure => simp [intOf]; omega
        · go_wp2_with fail
          go_end0
          refine ⟨rfl, d2, ⟨by rw [hn]; exact hP2.out, ?_⟩, swk_on HS1.out HB.out hK2.out hP2.out.1⟩
          rw [hn]
          by_cases h0 : 0 < n
          · have := hR2.out 0 (by omega) (by omega)
            rw [Nat.zero_mul, Nat.min_eq_right (by omega)] at this; exact this
          · exact sorted_none _ (by omega)
end
end Go.Proofs.YtnanogcppglapaaGreatDoor
