/-
  mastref1.Escaped.
-/
import Derived.Test.YtnanogcppglapaaGreatDoorEscPlain
import Derived.BigQuiet
import Derived.Deep.QuietTactic
import Derived.RegionTactic
import Derived.Laws.Strings2
import Derived.WalkSpells
import Derived.Deep.DeepMust
import Derived.Outline
namespace Go.Proofs.YtnanogcppglapaaGreatDoor
open Go.RowKit Go.Deep

theorem byteAtR {s : ByteArray} {i : Nat} {c : UInt8} (h : s.data.toList[i]? = some c) (hi : i < s.size) : s[i] = c := by
  obtain ⟨h1, h2⟩ := List.getElem?_eq_some_iff.1 h
  rw [← h2]; rfl
theorem esc_ne {c : UInt8} (h1 : ((c.toNat : Int) == 38) = false) (h2 : ((c.toNat : Int) == 60) = false) (h3 : ((c.toNat : Int) == 62) = false) (h4 : ((c.toNat : Int) == 34) = false) : escB c = [c] := by
  have a1 : c ≠ 38 := by rintro rfl; exact absurd h1 (by decide)
  have a2 : c ≠ 60 := by rintro rfl; exact absurd h2 (by decide)
  have a3 : c ≠ 62 := by rintro rfl; exact absurd h3 (by decide)
  have a4 : c ≠ 34 := by rintro rfl; exact absurd h4 (by decide)
  simp [escB, escF, a1, a2, a3, a4]
theorem u8_of {c : UInt8} {n : Nat} (hn : n < 256) (h : ((c.toNat : Int) == (n : Int)) = true) : c = UInt8.ofNat n := by
  have h2 : (c.toNat : Int) = n := by simpa using h
  apply UInt8.toNat_inj.1
  rw [UInt8.toNat_ofNat_of_lt' (by simpa using hn)]
  omega
theorem ext_one {s : ByteArray} {k : Nat} {c : UInt8} (h : s.data.toList[k]? = some c) : (s.extract k (k + 1)).data.toList = [c] := by
  rw [Lib.extract_data]
  obtain ⟨hk, rfl⟩ := List.getElem?_eq_some_iff.1 h
  rw [Nat.add_sub_cancel_left, List.drop_eq_getElem_cons hk]
  rfl

set_option maxRecDepth 100000 in
set_option maxHeartbeats 2000000 in
theorem escaped_q (s : ByteArray) (w : World) (hs : s.size ≤ 2097152) :
    Calls Tryz.prog 27 #[.string s] w fun e w' => e = .returned (.string ⟨(escL s.data.toList).toArray⟩) ∧ w = w' := by
  go_enter Tryz.func27, Tryz.ntmps27
  go_wp2_with fail
  go_loopw [3, 4] (fun t3 t4 wr => ∃ (k : Nat) (u : ByteArray), k ≤ s.size ∧ t4 = .int .i64 k ∧ t3 = .string u ∧ Hid (u.data.toList = escL (s.data.toList.take k)) ∧ EqW wr w) (fun _ t _ => s.size - (intOf t).toNat)
  case atStart => exact ⟨0, _, Nat.zero_le _, rfl, rfl, rfl, EqW.refl _⟩
  case round =>
    obtain ⟨k, u, hk, rfl, rfl, HU, hww⟩ := hrel
    unfold EqW at hww
    subst hww
    have hul : u.size ≤ 16777216 := by
      have h1 := congrArg List.length HU.out
      have h2 := escL_len s.data.toList
      have h3 := gainL_le s.data.toList
      have h4 := escL_take_le s.data.toList k
      rw [size_toList] at h1 h2 h3
      omega
    by_cases hlt : k < s.size
    · obtain ⟨ch, hch0⟩ : ∃ c, s.data.toList[k]? = some c := ⟨_, List.getElem?_eq_getElem (by rw [size_toList]; exact hlt)⟩
      have hch := Lib.hid hch0; clear hch0
      have hsb : s[k] = ch := byteAtR hch.out hlt
      subst hsb
      have HE := Lib.hid (escL_take hch.out)
      have hlt1 : (k : Int) + 1 ≤ (s.size : Int) := by omega
      cases h1 : ((s[k].toNat : Int) == 38)
      · cases h2 : ((s[k].toNat : Int) == 60)
        · cases h3 : ((s[k].toNat : Int) == 62)
          · cases h4 : ((s[k].toNat : Int) == 34)
            · have HB := Lib.hid (esc_ne h1 h2 h3 h4)
              have hx : (s.extract k (k + 1)).size ≤ 1 := by rw [ByteArray.size_extract]; omega
              have hkk : (k : Int) ≤ (k : Int) + 1 := by omega
              go_wp2_with fail
              go_roundw
              case rel =>
                refine ⟨k + 1, _, by omega, by go_num, rfl, ?_, EqW.refl _⟩
                show _ = _
                rw [HE.out, HB.out, ← HU.out, ByteArray.data_append, Array.toList_append, ext_one hch.out]
              case measure => simp [intOf]; omega
            · have HB := Lib.hid (show escB s[k] = [38, 113, 117, 111, 116, 59] by rw [u8_of (n := 34) (by omega) h4]; rfl)
              go_wp2_with fail
              go_roundw
              case rel =>
                refine ⟨k + 1, _, by omega, by go_num, rfl, ?_, EqW.refl _⟩
                show _ = _
                rw [HE.out, HB.out, ← HU.out, ByteArray.data_append, Array.toList_append]
              case measure => simp [intOf]; omega
          · have HB := Lib.hid (show escB s[k] = [38, 103, 116, 59] by rw [u8_of (n := 62) (by omega) h3]; rfl)
            go_wp2_with fail
            go_roundw
            case rel =>
              refine ⟨k + 1, _, by omega, by go_num, rfl, ?_, EqW.refl _⟩
              show _ = _
              rw [HE.out, HB.out, ← HU.out, ByteArray.data_append, Array.toList_append]
            case measure => simp [intOf]; omega
        · have HB := Lib.hid (show escB s[k] = [38, 108, 116, 59] by rw [u8_of (n := 60) (by omega) h2]; rfl)
          go_wp2_with fail
          go_roundw
          case rel =>
            refine ⟨k + 1, _, by omega, by go_num, rfl, ?_, EqW.refl _⟩
            show _ = _
            rw [HE.out, HB.out, ← HU.out, ByteArray.data_append, Array.toList_append]
          case measure => simp [intOf]; omega
      · have HB := Lib.hid (show escB s[k] = [38, 97, 109, 112, 59] by rw [u8_of (n := 38) (by omega) h1]; rfl)
        go_wp2_with fail
        go_roundw
        case rel =>
          refine ⟨k + 1, _, by omega, by go_num, rfl, ?_, EqW.refl _⟩
          show _ = _
          rw [HE.out, HB.out, ← HU.out, ByteArray.data_append, Array.toList_append]
        case measure => simp [intOf]; omega
    · have HR := Lib.hid (show (⟨(escL s.data.toList).toArray⟩ : ByteArray) = u by
        apply Go.WideShapes.bytes_inj
        rw [HU.out, show k = s.data.toList.length by rw [size_toList]; omega, List.take_length])
      go_wp2_with fail
      go_ret
      exact ⟨by rw [HR.out]; rfl, rfl⟩

end Go.Proofs.YtnanogcppglapaaGreatDoor
