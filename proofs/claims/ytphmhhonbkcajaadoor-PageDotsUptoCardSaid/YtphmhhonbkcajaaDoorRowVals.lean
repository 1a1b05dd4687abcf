/-
  Values that lie in a block of their own, read as values.
-/
import Derived.Test.YtphmhhonbkcajaaDoorBTable
namespace Go.Proofs.YtphmhhonbkcajaaDoor
open Go.RowKit Go.Deep

theorem valsIn_nil (w : World) (P : Nat → Prop) : ValsIn w P (.slice none 0 0) [] :=
  .mk none 0 [] 0 0 (fun _ => undef) (fun _ => undef) (Nat.le_refl _) (by unfold maxLen; omega) (fun h => absurd rfl h) (fun i n hi => by simp at hi) (fun i n hi => by simp at hi) (fun i n hi => by simp at hi)
theorem strsIn_nil (w : World) (P : Nat → Prop) : StrsIn w P (.slice none 0 0) [] :=
  ⟨none, 0, 0, 0, rfl, Nat.le_refl _, by unfold maxLen; omega, fun h => absurd rfl h, fun i s hi => by simp at hi⟩

theorem valsIn_of_block {w : World} {P : Nat → Prop} {g : Nat} {t : TypeId} {ps : List PartV} (h : CB w g t (flatV ps).toArray) (hP : P g) (hlen : ps.length ≤ maxLen)
    (hit : ∀ p ∈ ps, ValsIn w P p.iv p.n.items) (hky : ∀ p ∈ ps, StrsIn w P p.kv p.n.keys) (hok : ∀ p ∈ ps, ValOk p.n) : ValsIn w P (.slice (some ⟨g, 0, none⟩) ps.length ps.length) (ps.map (·.n)) := by
  have hlen2 : (ps.map (·.n)).length = ps.length := by simp
  rw [show (Value.slice (some ⟨g, 0, none⟩) ps.length ps.length) = .slice (some ⟨g, 0, none⟩) (ps.map (·.n)).length ps.length by rw [hlen2]]
  refine .mk (some ⟨g, 0, none⟩) ps.length (ps.map (·.n)) g 0 (fun i => (ps[i]?.map (·.iv)).getD undef) (fun i => (ps[i]?.map (·.kv)).getD undef) (by rw [hlen2]; exact Nat.le_refl _) hlen (fun _ => ⟨rfl, hP⟩) (fun i n hi => ?_) (fun i n hi => ?_) (fun i n hi => ?_)
  · rw [List.getElem?_map, Option.map_eq_some_iff] at hi
    obtain ⟨p, hp, rfl⟩ := hi
    have hm := List.mem_of_getElem? hp
    have key : ∀ j, j < 6 → w.cell? ⟨g, 0 + i * 6 + j, none⟩ = (cellsV p.n p.iv p.kv)[j]? := by
      intro j hj
      rw [h.c, List.getElem?_toArray, show 0 + i * 6 + j = i * 6 + j by omega, flatV_get hp j hj]
    exact ⟨⟨by simpa [cellsV] using key 0 (by omega), by simpa [cellsV] using key 1 (by omega), by simpa [cellsV] using key 2 (by omega), by simpa [cellsV] using key 3 (by omega), by simpa [cellsV, hp] using key 4 (by omega), by simpa [cellsV, hp] using key 5 (by omega)⟩, hok p hm⟩
  · rw [List.getElem?_map, Option.map_eq_some_iff] at hi
    obtain ⟨p, hp, rfl⟩ := hi
    simpa [hp] using hit p (List.mem_of_getElem? hp)
  · rw [List.getElem?_map, Option.map_eq_some_iff] at hi
    obtain ⟨p, hp, rfl⟩ := hi
    simpa [hp] using hky p (List.mem_of_getElem? hp)

theorem strsIn_of_block {w : World} {P : Nat → Prop} {g : Nat} {t : TypeId} {ks : List (List UInt8)} (h : CB w g t (keysC ks)) (hP : P g) (hlen : ks.length ≤ maxLen) (hs : ∀ k ∈ ks, k.length ≤ maxLen) :
    StrsIn w P (.slice (some ⟨g, 0, none⟩) ks.length ks.length) (ks.map fun k => ⟨k.toArray⟩) := by
  refine ⟨some ⟨g, 0, none⟩, ks.length, g, 0, by rw [List.length_map], by rw [List.length_map]; exact Nat.le_refl _, hlen, fun _ => ⟨rfl, hP⟩, fun i s hi => ?_⟩
  rw [List.getElem?_map, Option.map_eq_some_iff] at hi
  obtain ⟨k, hk, rfl⟩ := hi
  refine ⟨?_, ?_⟩
  · rw [h.c, Nat.zero_add]
    simp [keysC, hk]
  · have := hs k (List.mem_of_getElem? hk)
    simpa [ByteArray.size] using this

theorem i64_3 : I64 3 := ⟨by decide, by decide⟩
theorem i64_7 : I64 7 := ⟨by decide, by decide⟩
theorem i64_6 : I64 6 := ⟨by decide, by decide⟩
theorem i64_5 : I64 5 := ⟨by decide, by decide⟩
theorem i64_2 : I64 2 := ⟨by decide, by decide⟩
theorem i64_0 : I64 0 := ⟨by decide, by decide⟩
theorem valOk_str {s : ByteArray} (h : s.size ≤ maxLen) : ValOk (vStr s) := ⟨i64_3, i64_0, h⟩
theorem valOk_safe {s : ByteArray} (h : s.size ≤ maxLen) : ValOk (vSafe s) := ⟨i64_7, i64_0, h⟩
theorem valOk_num {n : Int} (h : I64 n) : ValOk (vNum n) := ⟨i64_2, h, Nat.zero_le _⟩

end Go.Proofs.YtphmhhonbkcajaaDoor
