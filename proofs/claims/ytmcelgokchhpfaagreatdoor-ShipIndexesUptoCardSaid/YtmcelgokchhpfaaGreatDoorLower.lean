/-
  lower: capital letters made small.
-/
import Derived.Test.YtmcelgokchhpfaaGreatDoorBytes
import Derived.Outline
import Derived.BigQuiet
import Derived.Deep.QuietTactic
import Derived.RegionTactic
import Derived.Deep.DeepMust
namespace Go.Proofs.YtmcelgokchhpfaaGreatDoor
open Go.RowKit Go.Deep

/-- a capital letter made small -/
def lowerB (c : UInt8) : UInt8 := if 65 ≤ c.toNat ∧ c.toNat ≤ 90 then c + 32 else c
def lowerL (l : List UInt8) : List UInt8 := l.map lowerB

/-- the first k bytes made small -/
def low (l : List UInt8) (k : Nat) : List UInt8 := lowerL (l.take k) ++ l.drop k

theorem low_zero (l : List UInt8) : low l 0 = l := by simp [low, lowerL]
theorem low_all (l : List UInt8) (k : Nat) (h : l.length = k) : low l k = lowerL l := by subst h; simp [low]
theorem low_len (l : List UInt8) (k : Nat) : (low l k).length = l.length := by simp [low, lowerL]; omega
theorem low_at {l : List UInt8} {k : Nat} {b : UInt8} (h : l[k]? = some b) : (low l k).getD k 0 = b := by
  have hk := (List.getElem?_eq_some_iff.1 h).1
  have hl : (lowerL (l.take k)).length = k := by simp [lowerL]; omega
  rw [low, List.getD_eq_getElem?_getD, List.getElem?_append_right (by omega), hl, List.getElem?_drop]
  simp [h]
theorem low_step {l : List UInt8} {k : Nat} {b : UInt8} (h : l[k]? = some b) : low l (k + 1) = (low l k).set k (lowerB b) := by
  have hk := (List.getElem?_eq_some_iff.1 h).1
  have hb := (List.getElem?_eq_some_iff.1 h).2
  have hl : (lowerL (l.take k)).length = k := by simp [lowerL]; omega
  rw [low, low, List.set_append, if_neg (by omega), hl, Nat.sub_self, List.drop_eq_getElem_cons hk, List.set_cons_zero, List.take_succ_eq_append_getElem hk, hb]
  simp [lowerL]
theorem lowerB_up {b : UInt8} (h : 65 ≤ (b.toNat : Int) ∧ (b.toNat : Int) ≤ 90) : ((lowerB b).toNat : Int) = (b.toNat : Int) + 32 := by
  have h' : 65 ≤ b.toNat ∧ b.toNat ≤ 90 := by omega
  unfold lowerB
  rw [if_pos h', UInt8.toNat_add]
  have : (32 : UInt8).toNat = 32 := rfl
  rw [this, Nat.mod_eq_of_lt (by omega)]
  omega
theorem lowerB_id {b : UInt8} (h : ¬ (65 ≤ (b.toNat : Int) ∧ (b.toNat : Int) ≤ 90)) : lowerB b = b := by
  unfold lowerB
  rw [if_neg (by omega)]

set_option maxHeartbeats 1000000 in
theorem shipLower_any (s : ByteArray) (w : World) (hs : s.size ≤ 1073741824) :
    Calls Tryz.prog 27 #[.string s] w fun e w' => e = .returned (.string ⟨(lowerL s.data.toList).toArray⟩) ∧ Below w.heap.size w w' := by
  obtain ⟨cap, W, hconv, hcap, hcap2, hcell, hfz, hbel, hsz⟩ := conv_bytes (P := Tryz.prog) w 9 73 5 s Tryz.underlying9 Tryz.underlying73 Tryz.underlying5 hs
  have HC := Lib.hid hcell; clear hcell
  have HF := Lib.hid hfz; clear hfz
  have HB := Lib.hid hbel; clear hbel
  have HS := Lib.hid hsz; clear hsz
  go_enter Tryz.func27, Tryz.ntmps27
  go_wp2_with fail
  clear hconv
  go_loopw [10] (fun i wr => ∃ k : Nat, k ≤ s.size ∧ i = .int .i64 k ∧ Below w.heap.size w wr ∧ (∀ j, j < s.size → wr.cell? ⟨w.heap.size, j, none⟩ = some (.int .u8 (((low s.data.toList k).getD j 0).toNat : Int))) ∧
      (∀ j, j < s.size → wr.frozen? ⟨w.heap.size, j, none⟩ = false)) (fun i _ => s.size - (intOf i).toNat)
  case atStart => exact ⟨0, Nat.zero_le _, rfl, HB.out, fun j hj => by rw [HC.out j hj, low_zero], HF.out⟩
  case round =>
    obtain ⟨k, hk, rfl, hB, hc, hf⟩ := hrel
    by_cases hlt : k < s.size
    · have c0 := hc k hlt
      have f0 := hf k hlt
      have hHC := Lib.hid hc; clear hc
      have hHF := Lib.hid hf; clear hf
      have hHB := Lib.hid hB; clear hB
      obtain ⟨b, hb⟩ : ∃ b, s.data.toList[k]? = some b := ⟨_, List.getElem?_eq_getElem (by rw [size_toList]; exact hlt)⟩
      rw [low_at hb] at c0
      have hbb : (b.toNat : Int) < 256 := by have := b.toNat_lt; omega
      have hst := low_step hb
      have HSt := Lib.hid hst; clear hst
      have HBt := Lib.hid hb; clear hb
      by_cases h1 : 65 ≤ (b.toNat : Int) ∧ (b.toNat : Int) ≤ 90
      · obtain ⟨h1a, h1b⟩ := h1
        go_wp2_with fail
        go_roundw
        case rel =>
          refine ⟨k + 1, by omega, by go_num, hHB.out.setCell (Nat.le_refl _) _, fun j hj => ?_, fun j hj => ?_⟩
          · rw [HSt.out]
            by_cases hjk : j = k
            · subst hjk
              rw [World.cell?_setCell_same _ _ _ (hHC.out j hj), List.getD_eq_getElem?_getD, List.getElem?_set_self (by rw [low_len, size_toList]; exact hj)]
              simp only [Option.getD_some]
              rw [lowerB_up ⟨h1a, h1b⟩]
            · rw [World.cell?_setCell_other _ _ _ _ (by intro e; injection e with _ e _; exact hjk e.symm), hHC.out j hj, List.getD_eq_getElem?_getD, List.getD_eq_getElem?_getD, List.getElem?_set_ne (fun e => hjk e.symm)]
          · rw [World.frozen?_setCell]
            exact hHF.out j hj
        case measure => simp [intOf]; omega
      · have hB2 : lowerB b = b := lowerB_id h1
        have HB2 := Lib.hid hB2; clear hB2
        have hSt2 : ∀ j, (low s.data.toList (k + 1)).getD j 0 = (low s.data.toList k).getD j 0 := by
          intro j
          rw [HSt.out, HB2.out]
          by_cases hjk : k = j
          · subst hjk
            rw [List.getD_eq_getElem?_getD, List.getElem?_set_self (by rw [low_len, size_toList]; exact hlt), low_at HBt.out]
            rfl
          · rw [List.getD_eq_getElem?_getD, List.getElem?_set_ne hjk, List.getD_eq_getElem?_getD]
        have HSt2 := Lib.hid hSt2; clear hSt2
        by_cases h2 : 65 ≤ (b.toNat : Int)
        · have h3 : ¬ (b.toNat : Int) ≤ 90 := fun h => h1 ⟨h2, h⟩
          clear h1
          go_wp2_with fail
          go_roundw
          case rel => exact ⟨k + 1, by omega, by go_num, hHB.out, fun j hj => by rw [HSt2.out]; exact hHC.out j hj, hHF.out⟩
          case measure => simp [intOf]; omega
        · clear h1
          go_wp2_with fail
          go_roundw
          case rel => exact ⟨k + 1, by omega, by go_num, hHB.out, fun j hj => by rw [HSt2.out]; exact hHC.out j hj, hHF.out⟩
          case measure => simp [intOf]; omega
    · have hke : k = s.size := by omega
      have hback := conv_string (P := Tryz.prog) wr 73 9 5 w.heap.size s.size cap (lowerL s.data.toList) Tryz.underlying73 Tryz.underlying5 Tryz.underlying9 (by simp only [lowerL, List.length_map]; rw [size_toList])
        (fun j hj => by rw [hc j hj, hke, low_all _ _ (by rw [size_toList])])
      have hHB := Lib.hid hB; clear hB hc hf
      clear hke
      go_wp2_with fail
      go_ret
      exact ⟨rfl, hHB.out⟩

set_option maxHeartbeats 1000000 in
theorem refLower_any (s : ByteArray) (w : World) (hs : s.size ≤ 1073741824) :
    Calls Tryz.prog 40 #[.string s] w fun e w' => e = .returned (.string ⟨(lowerL s.data.toList).toArray⟩) ∧ Below w.heap.size w w' := by
  obtain ⟨cap, W, hconv, hcap, hcap2, hcell, hfz, hbel, hsz⟩ := conv_bytes (P := Tryz.prog) w 9 73 5 s Tryz.underlying9 Tryz.underlying73 Tryz.underlying5 hs
  have HC := Lib.hid hcell; clear hcell
  have HF := Lib.hid hfz; clear hfz
  have HB := Lib.hid hbel; clear hbel
  have HS := Lib.hid hsz; clear hsz
  go_enter Tryz.func40, Tryz.ntmps40
  go_wp2_with fail
  clear hconv
  go_loopw [10] (fun i wr => ∃ k : Nat, k ≤ s.size ∧ i = .int .i64 k ∧ Below w.heap.size w wr ∧ (∀ j, j < s.size → wr.cell? ⟨w.heap.size, j, none⟩ = some (.int .u8 (((low s.data.toList k).getD j 0).toNat : Int))) ∧
      (∀ j, j < s.size → wr.frozen? ⟨w.heap.size, j, none⟩ = false)) (fun i _ => s.size - (intOf i).toNat)
  case atStart => exact ⟨0, Nat.zero_le _, rfl, HB.out, fun j hj => by rw [HC.out j hj, low_zero], HF.out⟩
  case round =>
    obtain ⟨k, hk, rfl, hB, hc, hf⟩ := hrel
    by_cases hlt : k < s.size
    · have c0 := hc k hlt
      have f0 := hf k hlt
      have hHC := Lib.hid hc; clear hc
      have hHF := Lib.hid hf; clear hf
      have hHB := Lib.hid hB; clear hB
      obtain ⟨b, hb⟩ : ∃ b, s.data.toList[k]? = some b := ⟨_, List.getElem?_eq_getElem (by rw [size_toList]; exact hlt)⟩
      rw [low_at hb] at c0
      have hbb : (b.toNat : Int) < 256 := by have := b.toNat_lt; omega
      have hst := low_step hb
      have HSt := Lib.hid hst; clear hst
      have HBt := Lib.hid hb; clear hb
      by_cases h1 : 65 ≤ (b.toNat : Int) ∧ (b.toNat : Int) ≤ 90
      · obtain ⟨h1a, h1b⟩ := h1
        go_wp2_with fail
        go_roundw
        case rel =>
          refine ⟨k + 1, by omega, by go_num, hHB.out.setCell (Nat.le_refl _) _, fun j hj => ?_, fun j hj => ?_⟩
          · rw [HSt.out]
            by_cases hjk : j = k
            · subst hjk
              rw [World.cell?_setCell_same _ _ _ (hHC.out j hj), List.getD_eq_getElem?_getD, List.getElem?_set_self (by rw [low_len, size_toList]; exact hj)]
              simp only [Option.getD_some]
              rw [lowerB_up ⟨h1a, h1b⟩]
            · rw [World.cell?_setCell_other _ _ _ _ (by intro e; injection e with _ e _; exact hjk e.symm), hHC.out j hj, List.getD_eq_getElem?_getD, List.getD_eq_getElem?_getD, List.getElem?_set_ne (fun e => hjk e.symm)]
          · rw [World.frozen?_setCell]
            exact hHF.out j hj
        case measure => simp [intOf]; omega
      · have hB2 : lowerB b = b := lowerB_id h1
        have HB2 := Lib.hid hB2; clear hB2
        have hSt2 : ∀ j, (low s.data.toList (k + 1)).getD j 0 = (low s.data.toList k).getD j 0 := by
          intro j
          rw [HSt.out, HB2.out]
          by_cases hjk : k = j
          · subst hjk
            rw [List.getD_eq_getElem?_getD, List.getElem?_set_self (by rw [low_len, size_toList]; exact hlt), low_at HBt.out]
            rfl
          · rw [List.getD_eq_getElem?_getD, List.getElem?_set_ne hjk, List.getD_eq_getElem?_getD]
        have HSt2 := Lib.hid hSt2; clear hSt2
        by_cases h2 : 65 ≤ (b.toNat : Int)
        · have h3 : ¬ (b.toNat : Int) ≤ 90 := fun h => h1 ⟨h2, h⟩
          clear h1
          go_wp2_with fail
          go_roundw
          case rel => exact ⟨k + 1, by omega, by go_num, hHB.out, fun j hj => by rw [HSt2.out]; exact hHC.out j hj, hHF.out⟩
          case measure => simp [intOf]; omega
        · clear h1
          go_wp2_with fail
          go_roundw
          case rel => exact ⟨k + 1, by omega, by go_num, hHB.out, fun j hj => by rw [HSt2.out]; exact hHC.out j hj, hHF.out⟩
          case measure => simp [intOf]; omega
    · have hke : k = s.size := by omega
      have hback := conv_string (P := Tryz.prog) wr 73 9 5 w.heap.size s.size cap (lowerL s.data.toList) Tryz.underlying73 Tryz.underlying5 Tryz.underlying9 (by simp only [lowerL, List.length_map]; rw [size_toList])
        (fun j hj => by rw [hc j hj, hke, low_all _ _ (by rw [size_toList])])
      have hHB := Lib.hid hB; clear hB hc hf
      clear hke
      go_wp2_with fail
      go_ret
      exact ⟨rfl, hHB.out⟩

end Go.Proofs.YtmcelgokchhpfaaGreatDoor
