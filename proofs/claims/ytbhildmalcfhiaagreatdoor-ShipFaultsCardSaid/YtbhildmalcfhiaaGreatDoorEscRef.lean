/-
  mastref1.Escaped.
-/
import Derived.Test.YtbhildmalcfhiaaGreatDoorEscPlain
import Derived.BigQuiet
import Derived.Deep.QuietTactic
import Derived.RegionTactic
import Derived.Laws.Strings2
import Derived.WalkSpells
import Derived.Deep.DeepMust
import Derived.Outline
namespace Go.Proofs.YtbhildmalcfhiaaGreatDoor
open Go.RowKit Go.Deep

theorem byteAtR {s : ByteArray} {i : Nat} {c : UInt8} (h : s.data.toList[i]? = some c) (hi : i < s.size) : s[i] = c := by
  obtain ⟨h1, h2⟩ := List.getElem?_eq_some_iff.1 h
  rw [← h2]; rfl
theorem esc_ne {c : UInt8} (h1 : ((c.toNat : Int) == 38) = false) (h2 : ((c.toNat : Int) == 60) = false) (h3 : ((c.toNat : Int) == 62) = false) (h4 : ((c.toNat : Int) == 34) = false) : escB c = [c] := by
  have a1 : c ≠ 38 := by rintro rfl; exact absurd h1 (by decide)
  have a2 : c ≠ 60 := by rintro rfl; exact absurd h2 (by decide)
  have a3 : c ≠ 62 := by rintro rfl; exact absurd h3 (by decide)
  have a4 : c ≠ 34 := by rintro rfl; exact absurd h4 (by decide)
  simp [escB, escF, a1, a2, a3, a4]
theorem u8_of {c : UInt8} {n : Nat} (hn : n < 256) (h : ((c.toNat : Int) == (n : Int)) = true) : c = UInt8.ofNat n := by
  have h2 : (c.toNat : Int) = n := by simpa using h
  apply UInt8.toNat_inj.1
  rw [UInt8.toNat_ofNat_of_lt' (by simpa using hn)]
  omega
theorem ext_one {s : ByteArray} {k : Nat} {c : UInt8} (h : s.data.toList[k]? = some c) : (s.extract k (k + 1)).data.toList = [c] := by
  rw [Lib.extract_data]
  obtain ⟨hk, rfl⟩ := List.getElem?_eq_some_iff.1 h
  rw [Nat.add_sub_cancel_left, List.drop_eq_getElem_cons hk]
  rfl

end Go.Proofs.YtbhildmalcfhiaaGreatDoor
