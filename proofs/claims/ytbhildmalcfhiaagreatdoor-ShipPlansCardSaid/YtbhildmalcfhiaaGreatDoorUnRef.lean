/-
  Names of signs read back, by the reference: mastref1.Unescaped.
-/
import Derived.Test.YtbhildmalcfhiaaGreatDoorUnPlain
import Derived.Test.YtbhildmalcfhiaaGreatDoorBox
import Derived.Laws.Strings2
import Derived.Deep.DeepMust
import Derived.BigQuiet
import Derived.Deep.QuietTactic
namespace Go.Proofs.YtbhildmalcfhiaaGreatDoor
open Go.RowKit Go.Deep

def tblU : Array Value := #[.string ⟨#[38, 97, 109, 112, 59]⟩, .string ⟨#[38]⟩, .string ⟨#[38, 108, 116, 59]⟩, .string ⟨#[60]⟩, .string ⟨#[38, 103, 116, 59]⟩, .string ⟨#[62]⟩, .string ⟨#[38, 113, 117, 111, 116, 59]⟩, .string ⟨#[34]⟩, .string ⟨#[38, 35, 51, 57, 59]⟩, .string ⟨#[39]⟩]
theorem tblU_at {k : Nat} {p : ByteArray × ByteArray} (h : pairsU[k]? = some p) : tblU[k * 2]? = some (.string p.1) ∧ tblU[k * 2 + 1]? = some (.string p.2) := by
  have hk : k < 5 := (List.getElem?_eq_some_iff.1 h).1
  rcases (by omega : k = 0 ∨ k = 1 ∨ k = 2 ∨ k = 3 ∨ k = 4) with rfl | rfl | rfl | rfl | rfl <;> (simp only [pairsU, List.getElem?_cons_zero, List.getElem?_cons_succ, Option.some.injEq] at h; subst h; exact ⟨rfl, rfl⟩)
theorem drop_list {s : ByteArray} {i : Nat} : (s.extract i s.size).data.toList = s.data.toList.drop i := by
  rw [ByteArray.data_extract, Array.toList_extract]
  simp only [List.extract]
  rw [List.take_of_length_le]
  rw [List.length_drop, size_toList]; omega
theorem one_list {s : ByteArray} {i : Nat} : (s.extract i (i + 1)).data.toList = (s.data.toList.drop i).take 1 := by
  rw [ByteArray.data_extract, Array.toList_extract]
  simp [List.extract]
set_option maxRecDepth 100000 in
set_option maxHeartbeats 4000000 in
theorem unescaped_q (s : ByteArray) (w : World) (hs : s.size ≤ 2097152) : Calls Tryz.prog 130 #[.string s] w fun e w' => e = .returned (.string ⟨(unU s.data.toList).toArray⟩) ∧ Below w.heap.size w w' := by
  go_enter Tryz.func130, Tryz.ntmps130
  go_wp2_with fail
  go_loopw [3, 4] (fun t3 t4 wr => ∃ (i : Nat) (u : ByteArray), i ≤ s.size ∧ u.size ≤ i ∧ t4 = .int .i64 i ∧ t3 = .string u ∧ Hid (unU s.data.toList = u.data.toList ++ unU (s.data.toList.drop i)) ∧ Hid (Below w.heap.size w wr)) (fun _ t _ => s.size - (intOf t).toNat)
  case atStart => exact ⟨0, ⟨#[]⟩, Nat.zero_le _, Nat.zero_le _, rfl, rfl, Lib.hid (by simp), Below.refl _ _⟩
  case round =>
    obtain ⟨i, u, hi, hu, rfl, rfl, HU, HB⟩ := hrel
    by_cases hlt : i < s.size
    · have hI1 : (i : Int) ≤ (i : Int) + 1 := by omega
      have hI2 : (i : Int) + 1 ≤ (s.size : Int) := by omega
      have hI3 : (i : Int) ≤ (s.size : Int) := by omega
      obtain ⟨y1, hy1⟩ : ∃ y, s.extract i (i + 1) = y := ⟨_, rfl⟩
      obtain ⟨y, hy⟩ : ∃ y, s.extract i s.size = y := ⟨_, rfl⟩
      obtain ⟨L, hL⟩ : ∃ L, s.data.toList.drop i = L := ⟨_, rfl⟩
      have hyl : y.data.toList = L := by rw [← hy, drop_list, hL]
      have hy1l : y1.data.toList = L.take 1 := by rw [← hy1, one_list, hL]
      have hLne : L ≠ [] := by
        rw [← hL]
        intro h
        have := List.length_drop (i := i) (l := s.data.toList)
        rw [h, size_toList] at this
        simp at this; omega
      have HL := Lib.hid hL
      have HYl := Lib.hid hyl
      have HY1l := Lib.hid hy1l
      have HLne := Lib.hid hLne
      have hLl : L.length = s.size - i := by rw [← hL, List.length_drop, size_toList]
      have HLl := Lib.hid hLl
      clear hyl hy1l hL hLne hLl
      have HTb := Lib.hid (show CB (wr.alloc (.cells tblU 190)) wr.heap.size 190 tblU from CB.new _ _ _)
      have HB1 := Lib.hid (HB.out.alloc HB.out.size (.cells tblU 190))
      go_wp2_with fail
      go_loopw [5, 6, 25] (fun t5 t6 t25 wx => ∃ (k : Nat) (nx : ByteArray) (sz : Nat), k ≤ 5 ∧ t25 = .int .i64 k ∧ t5 = .string nx ∧ t6 = .int .i64 sz ∧ sz ≤ 6 ∧ Hid (tryU L k = (nx.data.toList, sz)) ∧ Hid (CB wx wr.heap.size 190 tblU) ∧ Hid (Below w.heap.size w wx)) (fun _ _ t _ => 5 - (intOf t).toNat)
      case atStart => exact ⟨0, y1, 1, by omega, rfl, rfl, rfl, by omega, Lib.hid (by rw [tryU, HY1l.out]), HTb, HB1⟩
      case round =>
        clear HTb HB1
        obtain ⟨k, nx, sz, hk, rfl, rfl, rfl, hsz, HTr, HTb, HBx⟩ := hrel
        by_cases hk5 : k < 5
        · obtain ⟨p, hp⟩ : ∃ p, pairsU[k]? = some p := ⟨_, List.getElem?_eq_getElem (by show k < 5; exact hk5)⟩
          obtain ⟨a, c⟩ := p
          obtain ⟨h1, h2⟩ := tblU_at hp
          have r0 := (HTb.out.c (k * 2)).trans h1
          have r1 := (HTb.out.c (k * 2 + 1)).trans h2
          have hbt := HTb.out.lt
          have HPp := Lib.hid hp
          have has : a.size ≤ 6 := by
            have hm := List.mem_of_getElem? hp
            simp only [pairsU, List.mem_cons, List.not_mem_nil, or_false, Prod.mk.injEq] at hm
            rcases hm with ⟨rfl, _⟩ | ⟨rfl, _⟩ | ⟨rfl, _⟩ | ⟨rfl, _⟩ | ⟨rfl, _⟩ <;> decide
          clear h1 h2 hp
          obtain ⟨m, hm⟩ : ∃ m, Lib.hasPrefix y.data.toList a.data.toList = m := ⟨_, rfl⟩
          have HM := Lib.hid hm
          have HP := Lib.hid (fun W => by have h9 := Tryz.strings_HasPrefix y a W; rw [hm] at h9; exact h9 : ∀ W, Calls Tryz.prog 28 #[.string y, .string a] W fun e w' => e = .returned (.bool m) ∧ w' = W)
          clear hm
          have HB2 := Lib.hid (HBx.out.alloc HBx.out.size (.cells #[.string a, .string c] 190))
          have HTb2 := Lib.hid (HTb.out.alloc (.cells #[.string a, .string c] 190))
          cases m with
          | true =>
            have HT2 := Lib.hid (show tryU L (k + 1) = (c.data.toList, a.size) by
              rw [tryU, HPp.out]
              show (if Lib.hasPrefix L a.data.toList = true then _ else _) = _
              rw [← HYl.out, if_pos HM.out])
            go_wp2_with fail
            go_quiet ((go_at_call 28; exact Calls.quiet_of_same (HP.out _)))
            go_wp2_with fail
            go_quiet (fail)
            go_wp2_with fail
            go_roundw
            case rel => exact ⟨k + 1, c, a.size, by omega, by go_num, rfl, rfl, by omega, HT2, HTb2.out.drewN _, Below.drewN' HB2.out _⟩
            case measure => simp [intOf]; omega
          | false =>
            have HT2 := Lib.hid (show tryU L (k + 1) = (nx.data.toList, sz) by
              rw [tryU, HPp.out]
              show (if Lib.hasPrefix L a.data.toList = true then _ else _) = _
              rw [← HYl.out, if_neg (by rw [HM.out]; simp), HYl.out]; exact HTr.out)
            go_wp2_with fail
            go_quiet ((go_at_call 28; exact Calls.quiet_of_same (HP.out _)))
            go_wp2_with fail
            go_roundw
            case rel => exact ⟨k + 1, nx, sz, by omega, by go_num, rfl, rfl, hsz, HT2, HTb2.out.drewN _, Below.drewN' HB2.out _⟩
            case measure => simp [intOf]; omega
        · obtain rfl : k = 5 := by omega
          have HSt := Lib.hid (show stepU L = (nx.data.toList, sz) from HTr.out)
          have hs1 : 1 ≤ sz := by have := (tryU_size L 5).1; rw [HTr.out] at this; exact this
          have hs2 : sz ≤ s.size - i := by have := tryU_le L HLne.out 5; rw [HTr.out, HLl.out] at this; exact this
          have hnx : nx.size ≤ 1 := by have := tryU_out L 5; rw [HTr.out] at this; rwa [size_toList] at this
          have hfit : ¬ 9223372036854775807 < u.size + nx.size := by omega
          clear HTr
          go_wp2_with fail
          go_roundw
          case rel =>
            refine ⟨i + sz, u ++ nx, by omega, by rw [ByteArray.size_append]; omega, by go_num, rfl, Lib.hid ?_, HBx⟩
            have e1 : s.data.toList.drop (i + sz) = L.drop sz := by rw [← HL.out, List.drop_drop]
            rw [HU.out, HL.out, unU_step HLne.out, HSt.out, e1]
            simp
          case measure => simp [intOf]; omega
    · have HE := Lib.hid (show unU s.data.toList = u.data.toList by
        rw [HU.out, List.drop_of_length_le (by rw [size_toList]; omega), unU_nil, List.append_nil])
      go_wp2_with fail
      go_ret
      refine ⟨?_, HB.out⟩
      show Ending.returned (.string u) = _
      rw [HE.out]

end Go.Proofs.YtbhildmalcfhiaaGreatDoor
