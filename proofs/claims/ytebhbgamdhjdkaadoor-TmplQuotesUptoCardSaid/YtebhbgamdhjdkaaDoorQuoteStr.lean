/-
  Values as constants of script: mastref1.quoteString.
-/
import Derived.Test.YtebhbgamdhjdkaaDoorQuoteText
import Derived.Laws.Strings2
namespace Go.Proofs.YtebhbgamdhjdkaaDoor
open Go.RowKit Go.Deep

theorem hex_cut (h : Nat) (hp : h < 16) : (⟨#[48, 49, 50, 51, 52, 53, 54, 55, 56, 57, 97, 98, 99, 100, 101, 102]⟩ : ByteArray).extract h (h + 1) = ⟨#[hexQ h]⟩ := by
  have key : ∀ i : Fin 16, (⟨#[48, 49, 50, 51, 52, 53, 54, 55, 56, 57, 97, 98, 99, 100, 101, 102]⟩ : ByteArray).extract i.1 (i.1 + 1) = ⟨#[hexQ i.1]⟩ := by decide +kernel
  exact key ⟨h, hp⟩
theorem one_cut (s : ByteArray) (k : Nat) (h : k < s.size) : (s.extract k (k + 1)).data.toList = [s[k]] := by
  rw [Lib.extract_data]
  have hk : k < s.data.toList.length := by rw [size_toList]; exact h
  rw [List.drop_eq_getElem_cons hk, show k + 1 - k = 1 from by omega, List.take_succ_cons, List.take_zero]
  rfl
/-- a string result -/
def StrR (w0 : World) (bs : List UInt8) (e : Ending) (w' : World) : Prop := ∃ s, e = .returned (.string s) ∧ s.data.toList = bs ∧ Below w0.heap.size w0 w'

set_option maxRecDepth 100000 in
set_option maxHeartbeats 4000000 in
theorem quoteString_q (s : ByteArray) (w : World) (hs : s.size ≤ 134217728) : Calls Tryd.prog 45 #[.string s] w (StrR w (quoteL s.data.toList)) := by
  go_enter Tryd.func45, Tryd.ntmps45
  go_wp2_with fail
  go_loopw [3, 4] (fun t3 t wr => ∃ (k : Nat) (z : ByteArray), k ≤ s.size ∧ t = .int .i64 k ∧ t3 = .string z ∧ Hid (z.data.toList = 34 :: escL (s.data.toList.take k)) ∧ Hid (Below w.heap.size w wr) ∧ z.size ≤ 1 + 6 * k) (fun _ t _ => s.size - (intOf t).toNat)
  case atStart => exact ⟨0, ⟨#[34]⟩, Nat.zero_le _, rfl, rfl, rfl, Below.refl _ _, Nat.le_refl _⟩
  case round =>
    obtain ⟨k, z, hk, rfl, rfl, HZ, HB, hzk⟩ := hrel
    by_cases hlt : k < s.size
    · have HE := Lib.hid (escL_take (byteQ hlt))
      have hcb : (s[k].toNat : Int) < 256 := by have := s[k].toNat_lt; omega
      have f1 : (k : Int) + 1 ≤ (s.size : Int) := by omega
      obtain ⟨y, hy⟩ : ∃ y, s.extract k (k + 1) = y := ⟨_, rfl⟩
      have HY := Lib.hid (show y.data.toList = [s[k]] by rw [← hy]; exact one_cut s k hlt)
      have hys : y.size = 1 := by rw [← size_toList, HY.out]; rfl
      by_cases hq : s[k] = 34 ∨ s[k] = 92
      · have HEs := Lib.hid (show escQ s[k] = [92, s[k]] by unfold escQ; rw [if_pos hq])
        have hx : (s[k].toNat : Int) = 34 ∨ (s[k].toNat : Int) = 92 := by
          rcases hq with h | h <;> rw [h] <;> simp
        clear hq
        rcases hx with hx | hx
        · have t1 : ((s[k].toNat : Int) == 34) = true := by simp [hx]
          have HX := Lib.hid hx; clear hx
          go_wp2_with fail
          go_roundw
          case rel =>
            refine ⟨k + 1, _, by omega, by go_num, rfl, ?_, HB.out, ?_⟩
            · show _ = _
              rw [HE.out, HEs.out]
              simp only [ByteArray.data_append, Array.toList_append, HZ.out, HY.out]
              simp
            · simp only [ByteArray.size_append, hys]
              first
                | omega
                | (have e1 : (⟨#[92]⟩ : ByteArray).size = 1 := rfl
                   omega)
          case measure => simp [intOf]; omega
        · have t1 : ((s[k].toNat : Int) == 34) = false := by simp [hx]
          have t2 : ((s[k].toNat : Int) == 92) = true := by simp [hx]
          have HX := Lib.hid hx; clear hx
          go_wp2_with fail
          go_roundw
          case rel =>
            refine ⟨k + 1, _, by omega, by go_num, rfl, ?_, HB.out, ?_⟩
            · show _ = _
              rw [HE.out, HEs.out]
              simp only [ByteArray.data_append, Array.toList_append, HZ.out, HY.out]
              simp
            · simp only [ByteArray.size_append, hys]
              first
                | omega
                | (have e1 : (⟨#[92]⟩ : ByteArray).size = 1 := rfl
                   omega)
          case measure => simp [intOf]; omega
      · have hne : ¬ (s[k].toNat : Int) = 34 ∧ ¬ (s[k].toNat : Int) = 92 := by
          refine ⟨fun h => hq (Or.inl ?_), fun h => hq (Or.inr ?_)⟩
          · apply UInt8.toNat.inj; simpa using (by exact_mod_cast h : s[k].toNat = 34)
          · apply UInt8.toNat.inj; simpa using (by exact_mod_cast h : s[k].toNat = 92)
        have t1 : ((s[k].toNat : Int) == 34) = false := by simp [hne.1]
        have t2 : ((s[k].toNat : Int) == 92) = false := by simp [hne.2]
        clear hne
        obtain ⟨v, hv⟩ : ∃ v, Lib.indexByte [60, 62, 38, 39] s[k] = v := ⟨_, rfl⟩
        have HV := Lib.hid hv
        have hnq := numQ_int s[k]
        rw [hv] at hnq
        clear hv
        by_cases h32 : (s[k].toNat : Int) < 32
        · have HEs := Lib.hid (show escQ s[k] = [92, 117, 48, 48, hexQ (s[k].toNat / 16), hexQ (s[k].toNat % 16)] by unfold escQ; rw [if_neg hq, if_pos (by rw [hnq]; simp [h32])])
          clear hq hnq
          obtain ⟨h, hh⟩ : ∃ h : Nat, s[k].toNat / 16 = h := ⟨_, rfl⟩
          obtain ⟨l, hl⟩ : ∃ l : Nat, s[k].toNat % 16 = l := ⟨_, rfl⟩
          have hh16 : h < 16 := by have := s[k].toNat_lt; omega
          have hl16 : l < 16 := by omega
          have d1 : (s[k].toNat : Int) / 16 = (h : Int) := by omega
          have d2 : (s[k].toNat : Int) % 16 = (l : Int) := by omega
          have d3 : (h : Int) < 16 := by omega
          have d4 : (l : Int) < 16 := by omega
          have x1 := hex_cut h hh16
          have x2 := hex_cut l hl16
          rw [hh, hl] at HEs
          have HH := Lib.hid hh
          have HL := Lib.hid hl
          clear hh hl
          go_wp2_with fail
          go_quiet (fail)
          go_wp2_with fail
          go_roundw
          case rel =>
            refine ⟨k + 1, _, by omega, by go_num, rfl, ?_, Below.drewN' HB.out _, ?_⟩
            · show _ = _
              rw [HE.out, HEs.out]
              simp only [ByteArray.data_append, Array.toList_append, HZ.out]
              simp
            · simp only [ByteArray.size_append]
              have e1 : (⟨#[92, 117, 48, 48]⟩ : ByteArray).size = 4 := rfl
              have e2 : (⟨#[hexQ h]⟩ : ByteArray).size = 1 := rfl
              have e3 : (⟨#[hexQ l]⟩ : ByteArray).size = 1 := rfl
              omega
          case measure => simp [intOf]; omega
        · by_cases hv0 : 0 ≤ v
          · have HEs := Lib.hid (show escQ s[k] = [92, 117, 48, 48, hexQ (s[k].toNat / 16), hexQ (s[k].toNat % 16)] by unfold escQ; rw [if_neg hq, if_pos (by rw [hnq]; simp [hv0])])
            clear hq hnq
            obtain ⟨h, hh⟩ : ∃ h : Nat, s[k].toNat / 16 = h := ⟨_, rfl⟩
            obtain ⟨l, hl⟩ : ∃ l : Nat, s[k].toNat % 16 = l := ⟨_, rfl⟩
            have hh16 : h < 16 := by have := s[k].toNat_lt; omega
            have hl16 : l < 16 := by omega
            have d1 : (s[k].toNat : Int) / 16 = (h : Int) := by omega
            have d2 : (s[k].toNat : Int) % 16 = (l : Int) := by omega
            have d3 : (h : Int) < 16 := by omega
            have d4 : (l : Int) < 16 := by omega
            have x1 := hex_cut h hh16
            have x2 := hex_cut l hl16
            rw [hh, hl] at HEs
            have HH := Lib.hid hh
            have HL := Lib.hid hl
            clear hh hl
            go_wp2_with (go_at_call 24; go_must (refine (indexNum _ v _ HV.out).mono ?_); rintro e wx ⟨rfl, rfl⟩)
            go_quiet (fail)
            go_wp2_with fail
            go_roundw
            case rel =>
              refine ⟨k + 1, _, by omega, by go_num, rfl, ?_, Below.drewN' HB.out _, ?_⟩
              · show _ = _
                rw [HE.out, HEs.out]
                simp only [ByteArray.data_append, Array.toList_append, HZ.out]
                simp
              · simp only [ByteArray.size_append]
                have e1 : (⟨#[92, 117, 48, 48]⟩ : ByteArray).size = 4 := rfl
                have e2 : (⟨#[hexQ h]⟩ : ByteArray).size = 1 := rfl
                have e3 : (⟨#[hexQ l]⟩ : ByteArray).size = 1 := rfl
                omega
            case measure => simp [intOf]; omega
          · have HEs := Lib.hid (show escQ s[k] = [s[k]] by unfold escQ; rw [if_neg hq, if_neg (by rw [hnq]; simp [h32]; omega)])
            clear hq hnq
            go_wp2_with (go_at_call 24; go_must (refine (indexNum _ v _ HV.out).mono ?_); rintro e wx ⟨rfl, rfl⟩)
            go_roundw
            case rel =>
              refine ⟨k + 1, _, by omega, by go_num, rfl, ?_, HB.out, ?_⟩
              · show _ = _
                rw [HE.out, HEs.out]
                simp only [ByteArray.data_append, Array.toList_append, HZ.out, HY.out]
                simp
              · simp only [ByteArray.size_append, hys]
                first
                  | omega
                  | (have e1 : (⟨#[92]⟩ : ByteArray).size = 1 := rfl
                     omega)
            case measure => simp [intOf]; omega
    · have hke : k = s.size := by omega
      have HE := Lib.hid (show escL (s.data.toList.take k) = escL s.data.toList by rw [hke, List.take_of_length_le (by rw [size_toList]; exact Nat.le_refl _)])
      clear hke
      go_wp2_with fail
      go_ret
      exact ⟨_, rfl, by rw [ByteArray.data_append, Array.toList_append, HZ.out, HE.out]; rfl, HB.out⟩

end Go.Proofs.YtebhbgamdhjdkaaDoor
