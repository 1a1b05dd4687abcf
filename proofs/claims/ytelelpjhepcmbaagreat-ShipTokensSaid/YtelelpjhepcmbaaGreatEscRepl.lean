/-
  (*strings.byteStringReplacer).Replace at the replacer of HTML's signs.
-/
import Derived.Test.YtelelpjhepcmbaaGreatEscPlain
import Derived.Test.YtelelpjhepcmbaaGreatBox
import Derived.Test.YtelelpjhepcmbaaGreatRowOps
import Derived.Laws.Strings2
import Derived.Laws.OwnMore
import Derived.BigQuiet
import Derived.Deep.QuietTactic
import Derived.RegionTactic
import Derived.Deep.OwnRows
import Derived.Outline
import Derived.Deep.DeepMust
namespace Go.Proofs.YtelelpjhepcmbaaGreat
open Go.RowKit Go.Deep

theorem byteAtE {s : ByteArray} {i : Nat} {c : UInt8} (h : s.data.toList[i]? = some c) (hi : i < s.size) : s[i] = c := by
  obtain ⟨h1, h2⟩ := List.getElem?_eq_some_iff.1 h
  rw [← h2]; rfl
theorem info_byteE : (Tryz.prog.info? 5).map (fun i => (i.zero, i.size, i.bytes)) = some (some (.int .u8 0), 1, 1) := by kernel_rfl
theorem info_sizeE : (Tryz.prog.info? 5).map (·.size) = some 1 := by kernel_rfl
/-- the row that is written: what stands already, then zeros -/
def rowE (l : List UInt8) (n : Nat) : List Value := byteCells l ++ List.replicate (n - l.length) (.int .u8 0)
def lenN (s : ByteArray) (k : Nat) : Nat := s.size + gainL (s.data.toList.take k)
def lenK (s : ByteArray) (k : Nat) : Nat := s.size + gainK s.data.toList k
theorem lenN_all (s : ByteArray) : lenN s s.size = (escL s.data.toList).length := by rw [lenN, ← size_toList, List.take_length, escL_len, size_toList]
theorem rowE_len {l : List UInt8} {n : Nat} (h : l.length ≤ n) : (rowE l n).length = n := by simp [rowE, byteCells]; omega
theorem rowE_made (w : World) (n : Nat) : CB (w.alloc (.cells (madeCells #[.int .u8 0] n) 5)) w.heap.size 5 (rowE (escL []) n).toArray := by
  have e : (rowE (escL []) n).toArray = madeCells #[.int .u8 0] n := by
    apply Array.ext'
    rw [toList_madeCells_one]
    simp [rowE, escL, byteCells]
  rw [e]
  exact CB.new _ _ _
theorem rowE_at {l : List UInt8} {n j : Nat} (h : l.length = n) (hj : j < n) : (rowE l n).toArray[j]? = some (.int .u8 ((l.getD j 0).toNat : Int)) := by
  subst h
  rw [List.getElem?_toArray, rowE, List.getElem?_append_left (by simpa [byteCells] using hj), byteCells, List.getElem?_map, List.getElem?_eq_getElem hj]
  simp [List.getD, hj]
theorem rowE_set {l : List UInt8} {n : Nat} (h : l.length < n) (c : UInt8) : (rowE l n).toArray.setIfInBounds l.length (.int .u8 (c.toNat : Int)) = (rowE (l ++ [c]) n).toArray := by
  apply Array.ext'
  obtain ⟨m, hm⟩ : ∃ m, n - l.length = m + 1 := ⟨n - l.length - 1, by omega⟩
  have hm2 : n - (l ++ [c]).length = m := by simp; omega
  rw [Array.toList_setIfInBounds, rowE, rowE, hm, hm2, List.replicate_succ]
  rw [List.set_append_right _ _ (by simp [byteCells])]
  simp [byteCells]
theorem rowE_splice {l r : List UInt8} {n : Nat} (h : l.length + r.length ≤ n) : splice (rowE l n) l.length (byteCells r) = rowE (l ++ r) n := by
  have h1 : (byteCells l).length = l.length := by simp [byteCells]
  have h2 : (byteCells r).length = r.length := by simp [byteCells]
  rw [splice, rowE, rowE, h2]
  rw [List.take_append_of_le_length (by omega), List.take_of_length_le (by omega)]
  rw [List.drop_append, List.drop_eq_nil_of_le (by omega), List.nil_append, List.drop_replicate, h1, List.length_append]
  rw [show n - l.length - (l.length + r.length - l.length) = n - (l.length + r.length) by omega]
  simp [byteCells]
theorem lenK_all (s : ByteArray) : lenK s 4 = (escL s.data.toList).length := by rw [lenK, gainK_all, escL_len, size_toList]

set_option maxRecDepth 100000 in
set_option maxHeartbeats 4000000 in
theorem bsr_q (b : Nat) (s : ByteArray) (w : World) (h : ReplAt w b) (hs : s.size ≤ 2097152) :
    Calls Tryz.prog 112 #[.pointer (some ⟨b, 0, none⟩), .string s] w fun e w' => e = .returned (.string ⟨(escL s.data.toList).toArray⟩) ∧ Below w.heap.size w w' := by
  have HR := Lib.hid h
  obtain ⟨gt, ct, ht, hct, hct2, htr⟩ := h.tr
  have hsh := h.sh
  clear h
  by_cases h32 : (32 : Int) ≤ (s.size : Int)
  · have h33 : decide ((32 : Int) ≤ (s.size : Int)) = true := by simpa using h32
    go_enter Tryz.func112, Tryz.ntmps112
    go_wp2_with fail
    go_loopw [5, 6, 32] (fun t5 t6 t wr => ∃ k : Nat, k ≤ 4 ∧ t = .int .i64 k ∧ t5 = .int .i64 (lenK s k : Nat) ∧ t6 = .bool (anyK s.data.toList k) ∧ Hid (Below w.heap.size w wr)) (fun _ _ t _ => 4 - (intOf t).toNat)
    case atStart => exact ⟨0, Nat.zero_le _, rfl, rfl, rfl, Below.refl _ _⟩
    case round =>
      obtain ⟨k, hk, rfl, rfl, rfl, HB⟩ := hrel
      by_cases hlt : k < 4
      · have hkk : k = 0 ∨ k = 1 ∨ k = 2 ∨ k = 3 := by omega
        rcases hkk with rfl | rfl | rfl | rfl
        · have p0 := Keeps.of_below HB.out _ _ (htr 0 34 rfl)
          obtain ⟨g, cap, hy, hlc, hcap, _⟩ := (HR.out.below HB.out).yes 34 [38, 113, 117, 111, 116, 59] rfl
          have hy : wr.cell? ⟨b, 34, none⟩ = some (.slice (some ⟨g, 0, none⟩) 6 cap) := hy
          obtain ⟨n, hn⟩ : ∃ n, Lib.countByte s.data.toList 34 = n := ⟨_, rfl⟩
          have hnl : n ≤ s.size := by rw [← hn, ← size_toList]; exact List.count_le_length
          have HG := Lib.hid (show lenK s (0 + 1) = lenK s 0 + n * 5 by
            rw [← hn]
            have g1 : escG 34 = 5 := by decide
            simp [lenK, gainK, trB, Lib.countByte, g1]
            try omega)
          have HA := Lib.hid (show anyK s.data.toList (0 + 1) = (anyK s.data.toList 0 || decide (n ≠ 0)) by
            rw [← hn]
            simp [anyK, trB, Lib.countByte])
          have hcall := Tryz.strings_Count_one s 34 wr
          rw [hn] at hcall
          have hgl : lenK s 0 ≤ 16777216 := by
            have h1 := gainL_le s.data.toList
            have h2 := gainK_all s.data.toList
            rw [size_toList] at h1
            have h3 : gainK s.data.toList 0 ≤ gainK s.data.toList 4 := by simp [gainK, trB]
            unfold lenK
            omega
          obtain ⟨N, hN⟩ : ∃ N, lenK s 0 = N := ⟨_, rfl⟩
          have HN := Lib.hid hN
          rw [hN] at hgl
          rw [hN]
          clear hn hN
          by_cases h0 : n = 0
          · subst h0
            go_wp2_with (go_at_call 114; go_must (refine hcall.mono ?_); rintro e w2 ⟨rfl, rfl⟩)
            go_roundw
            case rel => exact ⟨0 + 1, by omega, by go_num, by rw [HG.out, HN.out]; simp, by rw [HA.out]; simp, HB.out⟩
            case measure => simp [intOf]
          · have f1 : IntKind.i64.wrap ((n : Int) * 5) = (n : Int) * 5 := by rw [IntKind.wrap_i64]; omega
            have f2 : IntKind.i64.wrap ((N : Int) + (n : Int) * 5) = ((N + n * 5 : Nat) : Int) := by rw [IntKind.wrap_i64]; omega
            have h0b : ((n : Int) != 0) = true := by simpa using h0
            go_wp2_with (go_at_call 114; go_must (refine hcall.mono ?_); rintro e w2 ⟨rfl, rfl⟩)
            have e0 : ∀ h : 0 < (⟨#[34]⟩ : ByteArray).size, ((⟨#[34]⟩ : ByteArray)[0]'h) = 34 := fun _ => rfl
            have e1 : ∀ h : 0 < (⟨#[34]⟩ : ByteArray).size, (((⟨#[34]⟩ : ByteArray)[0]'h).toNat : Int) = 34 := fun _ => rfl
            go_quiet (fail)
            go_wp2_with fail
            go_roundw
            case rel => exact ⟨0 + 1, by omega, by go_num, by rw [HG.out, HN.out]; simp, by rw [HA.out]; simp [h0], Below.drewN' HB.out _⟩
            case measure => simp [intOf]
        · have p0 := Keeps.of_below HB.out _ _ (htr 1 62 rfl)
          obtain ⟨g, cap, hy, hlc, hcap, _⟩ := (HR.out.below HB.out).yes 62 [38, 103, 116, 59] rfl
          have hy : wr.cell? ⟨b, 62, none⟩ = some (.slice (some ⟨g, 0, none⟩) 4 cap) := hy
          obtain ⟨n, hn⟩ : ∃ n, Lib.countByte s.data.toList 62 = n := ⟨_, rfl⟩
          have hnl : n ≤ s.size := by rw [← hn, ← size_toList]; exact List.count_le_length
          have HG := Lib.hid (show lenK s (1 + 1) = lenK s 1 + n * 3 by
            rw [← hn]
            have g1 : escG 62 = 3 := by decide
            simp [lenK, gainK, trB, Lib.countByte, g1]
            try omega)
          have HA := Lib.hid (show anyK s.data.toList (1 + 1) = (anyK s.data.toList 1 || decide (n ≠ 0)) by
            rw [← hn]
            simp [anyK, trB, Lib.countByte])
          have hcall := Tryz.strings_Count_one s 62 wr
          rw [hn] at hcall
          have hgl : lenK s 1 ≤ 16777216 := by
            have h1 := gainL_le s.data.toList
            have h2 := gainK_all s.data.toList
            rw [size_toList] at h1
            have h3 : gainK s.data.toList 1 ≤ gainK s.data.toList 4 := by simp [gainK, trB]
            unfold lenK
            omega
          obtain ⟨N, hN⟩ : ∃ N, lenK s 1 = N := ⟨_, rfl⟩
          have HN := Lib.hid hN
          rw [hN] at hgl
          rw [hN]
          clear hn hN
          by_cases h0 : n = 0
          · subst h0
            go_wp2_with (go_at_call 114; go_must (refine hcall.mono ?_); rintro e w2 ⟨rfl, rfl⟩)
            go_roundw
            case rel => exact ⟨1 + 1, by omega, by go_num, by rw [HG.out, HN.out]; simp, by rw [HA.out]; simp, HB.out⟩
            case measure => simp [intOf]
          · have f1 : IntKind.i64.wrap ((n : Int) * 3) = (n : Int) * 3 := by rw [IntKind.wrap_i64]; omega
            have f2 : IntKind.i64.wrap ((N : Int) + (n : Int) * 3) = ((N + n * 3 : Nat) : Int) := by rw [IntKind.wrap_i64]; omega
            have h0b : ((n : Int) != 0) = true := by simpa using h0
            go_wp2_with (go_at_call 114; go_must (refine hcall.mono ?_); rintro e w2 ⟨rfl, rfl⟩)
            have e0 : ∀ h : 0 < (⟨#[62]⟩ : ByteArray).size, ((⟨#[62]⟩ : ByteArray)[0]'h) = 62 := fun _ => rfl
            have e1 : ∀ h : 0 < (⟨#[62]⟩ : ByteArray).size, (((⟨#[62]⟩ : ByteArray)[0]'h).toNat : Int) = 62 := fun _ => rfl
            go_quiet (fail)
            go_wp2_with fail
            go_roundw
            case rel => exact ⟨1 + 1, by omega, by go_num, by rw [HG.out, HN.out]; simp, by rw [HA.out]; simp [h0], Below.drewN' HB.out _⟩
            case measure => simp [intOf]
        · have p0 := Keeps.of_below HB.out _ _ (htr 2 60 rfl)
          obtain ⟨g, cap, hy, hlc, hcap, _⟩ := (HR.out.below HB.out).yes 60 [38, 108, 116, 59] rfl
          have hy : wr.cell? ⟨b, 60, none⟩ = some (.slice (some ⟨g, 0, none⟩) 4 cap) := hy
          obtain ⟨n, hn⟩ : ∃ n, Lib.countByte s.data.toList 60 = n := ⟨_, rfl⟩
          have hnl : n ≤ s.size := by rw [← hn, ← size_toList]; exact List.count_le_length
          have HG := Lib.hid (show lenK s (2 + 1) = lenK s 2 + n * 3 by
            rw [← hn]
            have g1 : escG 60 = 3 := by decide
            simp [lenK, gainK, trB, Lib.countByte, g1]
            try omega)
          have HA := Lib.hid (show anyK s.data.toList (2 + 1) = (anyK s.data.toList 2 || decide (n ≠ 0)) by
            rw [← hn]
            simp [anyK, trB, Lib.countByte, Bool.or_assoc])
          have hcall := Tryz.strings_Count_one s 60 wr
          rw [hn] at hcall
          have hgl : lenK s 2 ≤ 16777216 := by
            have h1 := gainL_le s.data.toList
            have h2 := gainK_all s.data.toList
            rw [size_toList] at h1
            have h3 : gainK s.data.toList 2 ≤ gainK s.data.toList 4 := by simp [gainK, trB]
            unfold lenK
            omega
          obtain ⟨N, hN⟩ : ∃ N, lenK s 2 = N := ⟨_, rfl⟩
          have HN := Lib.hid hN
          rw [hN] at hgl
          rw [hN]
          clear hn hN
          by_cases h0 : n = 0
          · subst h0
            go_wp2_with (go_at_call 114; go_must (refine hcall.mono ?_); rintro e w2 ⟨rfl, rfl⟩)
            go_roundw
            case rel => exact ⟨2 + 1, by omega, by go_num, by rw [HG.out, HN.out]; simp, by rw [HA.out]; simp, HB.out⟩
            case measure => simp [intOf]
          · have f1 : IntKind.i64.wrap ((n : Int) * 3) = (n : Int) * 3 := by rw [IntKind.wrap_i64]; omega
            have f2 : IntKind.i64.wrap ((N : Int) + (n : Int) * 3) = ((N + n * 3 : Nat) : Int) := by rw [IntKind.wrap_i64]; omega
            have h0b : ((n : Int) != 0) = true := by simpa using h0
            go_wp2_with (go_at_call 114; go_must (refine hcall.mono ?_); rintro e w2 ⟨rfl, rfl⟩)
            have e0 : ∀ h : 0 < (⟨#[60]⟩ : ByteArray).size, ((⟨#[60]⟩ : ByteArray)[0]'h) = 60 := fun _ => rfl
            have e1 : ∀ h : 0 < (⟨#[60]⟩ : ByteArray).size, (((⟨#[60]⟩ : ByteArray)[0]'h).toNat : Int) = 60 := fun _ => rfl
            go_quiet (fail)
            go_wp2_with fail
            go_roundw
            case rel => exact ⟨2 + 1, by omega, by go_num, by rw [HG.out, HN.out]; simp, by rw [HA.out]; simp [h0], Below.drewN' HB.out _⟩
            case measure => simp [intOf]
        · have p0 := Keeps.of_below HB.out _ _ (htr 3 38 rfl)
          obtain ⟨g, cap, hy, hlc, hcap, _⟩ := (HR.out.below HB.out).yes 38 [38, 97, 109, 112, 59] rfl
          have hy : wr.cell? ⟨b, 38, none⟩ = some (.slice (some ⟨g, 0, none⟩) 5 cap) := hy
          obtain ⟨n, hn⟩ : ∃ n, Lib.countByte s.data.toList 38 = n := ⟨_, rfl⟩
          have hnl : n ≤ s.size := by rw [← hn, ← size_toList]; exact List.count_le_length
          have HG := Lib.hid (show lenK s (3 + 1) = lenK s 3 + n * 4 by
            rw [← hn]
            have g1 : escG 38 = 4 := by decide
            simp [lenK, gainK, trB, Lib.countByte, g1]
            try omega)
          have HA := Lib.hid (show anyK s.data.toList (3 + 1) = (anyK s.data.toList 3 || decide (n ≠ 0)) by
            rw [← hn]
            simp [anyK, trB, Lib.countByte, Bool.or_assoc])
          have hcall := Tryz.strings_Count_one s 38 wr
          rw [hn] at hcall
          have hgl : lenK s 3 ≤ 16777216 := by
            have h1 := gainL_le s.data.toList
            have h2 := gainK_all s.data.toList
            rw [size_toList] at h1
            have h3 : gainK s.data.toList 3 ≤ gainK s.data.toList 4 := by simp [gainK, trB]
            unfold lenK
            omega
          obtain ⟨N, hN⟩ : ∃ N, lenK s 3 = N := ⟨_, rfl⟩
          have HN := Lib.hid hN
          rw [hN] at hgl
          rw [hN]
          clear hn hN
          by_cases h0 : n = 0
          · subst h0
            go_wp2_with (go_at_call 114; go_must (refine hcall.mono ?_); rintro e w2 ⟨rfl, rfl⟩)
            go_roundw
            case rel => exact ⟨3 + 1, by omega, by go_num, by rw [HG.out, HN.out]; simp, by rw [HA.out]; simp, HB.out⟩
            case measure => simp [intOf]
          · have f1 : IntKind.i64.wrap ((n : Int) * 4) = (n : Int) * 4 := by rw [IntKind.wrap_i64]; omega
            have f2 : IntKind.i64.wrap ((N : Int) + (n : Int) * 4) = ((N + n * 4 : Nat) : Int) := by rw [IntKind.wrap_i64]; omega
            have h0b : ((n : Int) != 0) = true := by simpa using h0
            go_wp2_with (go_at_call 114; go_must (refine hcall.mono ?_); rintro e w2 ⟨rfl, rfl⟩)
            have e0 : ∀ h : 0 < (⟨#[38]⟩ : ByteArray).size, ((⟨#[38]⟩ : ByteArray)[0]'h) = 38 := fun _ => rfl
            have e1 : ∀ h : 0 < (⟨#[38]⟩ : ByteArray).size, (((⟨#[38]⟩ : ByteArray)[0]'h).toNat : Int) = 38 := fun _ => rfl
            go_quiet (fail)
            go_wp2_with fail
            go_roundw
            case rel => exact ⟨3 + 1, by omega, by go_num, by rw [HG.out, HN.out]; simp, by rw [HA.out]; simp [h0], Below.drewN' HB.out _⟩
            case measure => simp [intOf]
      · have hk4 : k = 4 := by omega
        subst hk4
        have HB1 := HB
        rw [show ((4 : Nat) : Int) = (4 : Int) from rfl, lenK_all, anyK_all]
        obtain ⟨N, hN⟩ : ∃ N, (escL s.data.toList).length = N := ⟨_, rfl⟩
        have hN1 := escL_len s.data.toList
        have hN2 := gainL_le s.data.toList
        rw [size_toList] at hN1 hN2
        have HN := Lib.hid hN
        rw [hN]
        have hNb : N ≤ 16777216 := by omega
        clear hN hN1 hN2
        cases hany : anyL s.data.toList
        · have HS := Lib.hid (show (⟨(escL s.data.toList).toArray⟩ : ByteArray) = s by rw [escL_same hany])
          clear hany
          go_wp2_with fail
          go_ret
          exact ⟨by rw [HS.out]; rfl, HB1.out⟩
        · clear hany
          have hmk := fun W : World => run_make_row' (P := Tryz.prog) 56 5 (.int .u8 0) 1 Tryz.underlying56 info_byteE rfl .i64 .i64 N (by omega) (by omega) W
          go_wp2_with fail
          obtain ⟨g, hg⟩ : ∃ g, wr.heap.size = g := ⟨_, rfl⟩
          obtain ⟨W1, hW1⟩ : ∃ W1, wr.alloc (.cells (madeCells #[.int .u8 0] N) 5) = W1 := ⟨_, rfl⟩
          have HC1 := Lib.hid (show CB W1 g 5 (rowE (escL (s.data.toList.take 0)) N).toArray by rw [← hW1, ← hg]; exact rowE_made wr N)
          have HB2 := Lib.hid (show Below w.heap.size w W1 by rw [← hW1]; exact HB1.out.alloc HB1.out.size _)
          have hgw : w.heap.size ≤ g := by rw [← hg]; exact HB1.out.size
          rw [hW1, hg]
          clear hW1 hmk
          go_loopw [13, 14] (fun t13 t14 wr => ∃ i : Nat, i ≤ s.size ∧ t14 = .int .i64 i ∧ t13 = .int .i64 ((escL (s.data.toList.take i)).length : Nat) ∧ Hid (Below w.heap.size w wr) ∧ Hid (CB wr g 5 (rowE (escL (s.data.toList.take i)) N).toArray)) (fun _ t _ => s.size - (intOf t).toNat)
          case atStart => exact ⟨0, Nat.zero_le _, rfl, rfl, HB2.out, HC1.out⟩
          case round =>
            clear HB2 HC1
            obtain ⟨i, hi, rfl, rfl, HB3, HC3⟩ := hrel
            by_cases hlt9 : i < s.size
            · obtain ⟨ch, hch0⟩ : ∃ c, s.data.toList[i]? = some c := ⟨_, List.getElem?_eq_getElem (by rw [size_toList]; exact hlt9)⟩
              have hch := Lib.hid hch0; clear hch0
              have hsb : s[i] = ch := byteAtE hch.out hlt9
              subst hsb
              have hc256 : s[i].toNat < 256 := s[i].toNat_lt
              have hc256i : (s[i].toNat : Int) < 256 := by omega
              have HE := Lib.hid (escL_take hch.out)
              have hle := escL_take_le s.data.toList (i + 1)
              rw [HE.out, List.length_append, HN.out] at hle
              obtain ⟨L, hL⟩ : ∃ L, escL (s.data.toList.take i) = L := ⟨_, rfl⟩
              rw [hL] at HE HC3 hle
              rw [hL]
              clear hL
              cases hf : escF s[i] with
              | none =>
                have hno := (HR.out.below HB3.out).no _ hf
                have hneq : ∀ W : World, Sem.run Tryz.prog (binOp BinOp.neq 56 (Value.slice none 0 0) (Value.slice none 0 0)) W = Result.ok (Value.bool false) W := fun _ => rfl
                have HE1 := Lib.hid (escB_none hf)
                rw [HE1.out] at hle
                simp only [List.length_cons, List.length_nil] at hle
                clear hf
                obtain ⟨v0, hv0⟩ : ∃ v, (rowE L N).toArray[L.length]? = some v := ⟨_, Array.getElem?_eq_getElem (by rw [List.size_toArray, rowE_len (by omega)]; omega)⟩
                have x0 := HC3.out.c L.length
                rw [hv0] at x0
                have x1 := HC3.out.f L.length
                have x2 := HC3.out.sh
                rw [List.size_toArray, rowE_len (by omega)] at x2
                clear hv0
                have hjN : (L.length : Int) < (N : Int) := by omega
                go_wp2_with fail
                go_roundw
                case rel =>
                  refine ⟨i + 1, by omega, by go_num, by rw [HE.out, HE1.out]; simp, HB3.out.setCell (p := ⟨g, L.length, none⟩) hgw _, ?_⟩
                  show CB _ _ _ _
                  rw [HE.out, HE1.out, ← rowE_set (by omega)]
                  exact HC3.out.put _ _
                case measure => simp [intOf]; omega
              | some l =>
                obtain ⟨g2, cap, hy, hlc, hcap, hcl⟩ := (HR.out.below HB3.out).yes _ l hf
                have hneq : ∀ W : World, Sem.run Tryz.prog (binOp BinOp.neq 56 (Value.slice (some ⟨g2, 0, none⟩) l.length cap) (Value.slice none 0 0)) W = Result.ok (Value.bool true) W := fun _ => rfl
                have hl1 : 1 ≤ l.length := by have := escB_pos s[i]; rw [escB_some hf] at this; exact this
                have HE1 := Lib.hid (escB_some hf)
                rw [HE1.out] at hle
                have HCl := Lib.hid hcl; clear hcl hf
                have hjN : (L.length : Int) ≤ (N : Int) := by omega
                have f3 : ¬ N = L.length := by omega
                have f5 : 0 ≤ (L.length : Int) := by omega
                have f4 : IntKind.i64.wrap ((L.length : Int) + (l.length : Int)) = ((L.length + l.length : Nat) : Int) := by rw [IntKind.wrap_i64]; omega
                have hone : ∀ v ∈ byteCells l, v.oneCell' = true := by
                  intro v hv
                  simp only [byteCells, List.mem_map] at hv
                  obtain ⟨x, _, rfl⟩ := hv
                  rfl
                have hbl : (byteCells l).length = l.length := by simp [byteCells]
                go_wp2_with fail
                go_region_law (refine step_copy_row rfl (.tmp 105) (.tmp 111) 56 56 rfl 5 Tryz.underlying56 info_sizeE (some ⟨g, L.length, none⟩) (some ⟨g2, 0, none⟩) (N - L.length) (N - L.length) l.length cap (by simp [Act.eval]) (by simp [Act.eval]) g L.length (rowE L N) 5 HC3.out (byteCells l) (by rw [hbl]; show l.length = min _ _; omega) ?hpos (by rw [rowE_len (by omega), hbl]; omega) hone ?_
                               case hpos =>
                                 intro _
                                 refine ⟨rfl, _, rfl, fun j v hv => ?_⟩
                                 simp only [byteCells, List.getElem?_map, Option.map_eq_some_iff] at hv
                                 obtain ⟨x, hx, rfl⟩ := hv
                                 have e : (⟨g2, 0, none⟩ : Addr).add j = ⟨g2, j, none⟩ := by unfold Addr.add; split <;> simp_all
                                 rw [e]; exact HCl.out j x hx
                               intro w2 hc2 hgr2)
                all_goals
                  have HC5 := Lib.hid (show CB w2 g 5 (rowE (L ++ l) N).toArray by
                    have h := hc2.out
                    rw [rowE_splice (by omega)] at h
                    exact h)
                  have HG5 := Lib.hid hgr2
                  clear hc2 hgr2
                  go_wp2_with fail
                  go_roundw
                  case rel =>
                    refine ⟨i + 1, by omega, by go_num, by rw [HE.out, HE1.out]; simp, ?_, ?_⟩
                    · exact HB3.out.drew.grown HG5.out HB3.out.size (fun k hk => by cases hk; exact hgw)
                    · show CB _ _ _ _
                      rw [HE.out, HE1.out]
                      exact HC5.out
                  case measure => simp [intOf]; omega
            · have hie : s.data.toList.take i = s.data.toList := by rw [show i = s.data.toList.length by rw [size_toList]; omega, List.take_length]
              rw [hie] at HC3
              have hconv := conv_string (P := Tryz.prog) wr 56 9 5 g N N (escL s.data.toList) Tryz.underlying56 Tryz.underlying5 Tryz.underlying9 HN.out.symm (fun j hj => by
                rw [HC3.out.c j]
                exact rowE_at HN.out hj)
              clear hie
              go_wp2_with fail
              go_ret
              exact ⟨rfl, HB3.out⟩
  · have h33 : decide ((32 : Int) ≤ (s.size : Int)) = false := by simpa using h32
    go_enter Tryz.func112, Tryz.ntmps112
    go_wp2_with fail
    go_loopw [5, 6, 10] (fun t5 t6 t wr => ∃ k : Nat, k ≤ s.size ∧ t = .int .i64 k ∧ t5 = .int .i64 (lenN s k : Nat) ∧ t6 = .bool (anyL (s.data.toList.take k)) ∧ Hid (Below w.heap.size w wr)) (fun _ _ t _ => s.size - (intOf t).toNat)
    case atStart => exact ⟨0, Nat.zero_le _, rfl, rfl, rfl, Below.refl _ _⟩
    case round =>
      obtain ⟨k, hk, rfl, rfl, rfl, HB⟩ := hrel
      by_cases hlt : k < s.size
      · obtain ⟨ch, hch0⟩ : ∃ c, s.data.toList[k]? = some c := ⟨_, List.getElem?_eq_getElem (by rw [size_toList]; exact hlt)⟩
        have hch := Lib.hid hch0; clear hch0
        have hsb : s[k] = ch := byteAtE hch.out hlt
        subst hsb
        have hc256 : s[k].toNat < 256 := s[k].toNat_lt
        cases hf : escF s[k] with
        | none =>
          have hno := (HR.out.below HB.out).no _ hf
          have hneq : ∀ W : World, Sem.run Tryz.prog (binOp BinOp.neq 56 (Value.slice none 0 0) (Value.slice none 0 0)) W = Result.ok (Value.bool false) W := fun _ => rfl
          have HA := Lib.hid (show anyL (s.data.toList.take (k + 1)) = anyL (s.data.toList.take k) by rw [anyL_take hch.out, hf]; simp)
          have HG := Lib.hid (show lenN s (k + 1) = lenN s k by rw [lenN, lenN, gainL_take hch.out]; unfold escG; rw [escB_none hf]; rfl)
          clear hf
          go_wp2_with fail
          go_roundw
          case rel => exact ⟨k + 1, by omega, by go_num, by rw [HG.out], by rw [HA.out], HB.out⟩
          case measure => simp [intOf]; omega
        | some l =>
          obtain ⟨g, cap, hy, hlc, hcap, _⟩ := (HR.out.below HB.out).yes _ l hf
          have hneq : ∀ W : World, Sem.run Tryz.prog (binOp BinOp.neq 56 (Value.slice (some ⟨g, 0, none⟩) l.length cap) (Value.slice none 0 0)) W = Result.ok (Value.bool true) W := fun _ => rfl
          have hl1 : 1 ≤ l.length := by have := escB_pos s[k]; rw [escB_some hf] at this; exact this
          have hl6 : l.length ≤ 6 := by have := escB_le s[k]; rw [escB_some hf] at this; exact this
          have HA := Lib.hid (show anyL (s.data.toList.take (k + 1)) = true by rw [anyL_take hch.out, hf]; simp)
          have HG := Lib.hid (show lenN s (k + 1) = lenN s k + (l.length - 1) by rw [lenN, lenN, gainL_take hch.out]; unfold escG; rw [escB_some hf]; omega)
          have hgl := gainL_le s.data.toList
          have hgt := gain_take_le s.data.toList k
          rw [size_toList] at hgl
          have hln : lenN s k ≤ 16777216 := by unfold lenN; omega
          obtain ⟨N, hN⟩ : ∃ N, lenN s k = N := ⟨_, rfl⟩
          have HN := Lib.hid hN
          rw [hN] at hln
          rw [hN]
          have f1 : IntKind.i64.wrap ((l.length : Int) - 1) = (l.length : Int) - 1 := by rw [IntKind.wrap_i64]; omega
          have f2 : IntKind.i64.wrap ((N : Int) + ((l.length : Int) - 1)) = ((N + (l.length - 1) : Nat) : Int) := by rw [IntKind.wrap_i64]; omega
          clear hf hN hgl hgt
          go_wp2_with fail
          go_roundw
          case rel => exact ⟨k + 1, by omega, by go_num, by rw [HG.out, HN.out]; simp, by rw [HA.out], HB.out⟩
          case measure => simp [intOf]; omega
      · have hke : k = s.size := by omega
        subst hke
        have HB1 := HB
        rw [lenN_all, show s.data.toList.take s.size = s.data.toList by rw [← size_toList, List.take_length]]
        obtain ⟨N, hN⟩ : ∃ N, (escL s.data.toList).length = N := ⟨_, rfl⟩
        have hN1 := escL_len s.data.toList
        have hN2 := gainL_le s.data.toList
        rw [size_toList] at hN1 hN2
        have HN := Lib.hid hN
        rw [hN]
        have hNb : N ≤ 16777216 := by omega
        clear hN hN1 hN2
        cases hany : anyL s.data.toList
        · have HS := Lib.hid (show (⟨(escL s.data.toList).toArray⟩ : ByteArray) = s by rw [escL_same hany])
          clear hany
          go_wp2_with fail
          go_ret
          exact ⟨by rw [HS.out]; rfl, HB1.out⟩
        · clear hany
          have hmk := fun W : World => run_make_row' (P := Tryz.prog) 56 5 (.int .u8 0) 1 Tryz.underlying56 info_byteE rfl .i64 .i64 N (by omega) (by omega) W
          go_wp2_with fail
          obtain ⟨g, hg⟩ : ∃ g, wr.heap.size = g := ⟨_, rfl⟩
          obtain ⟨W1, hW1⟩ : ∃ W1, wr.alloc (.cells (madeCells #[.int .u8 0] N) 5) = W1 := ⟨_, rfl⟩
          have HC1 := Lib.hid (show CB W1 g 5 (rowE (escL (s.data.toList.take 0)) N).toArray by rw [← hW1, ← hg]; exact rowE_made wr N)
          have HB2 := Lib.hid (show Below w.heap.size w W1 by rw [← hW1]; exact HB1.out.alloc HB1.out.size _)
          have hgw : w.heap.size ≤ g := by rw [← hg]; exact HB1.out.size
          rw [hW1, hg]
          clear hW1 hmk
          go_loopw [13, 14] (fun t13 t14 wr => ∃ i : Nat, i ≤ s.size ∧ t14 = .int .i64 i ∧ t13 = .int .i64 ((escL (s.data.toList.take i)).length : Nat) ∧ Hid (Below w.heap.size w wr) ∧ Hid (CB wr g 5 (rowE (escL (s.data.toList.take i)) N).toArray)) (fun _ t _ => s.size - (intOf t).toNat)
          case atStart => exact ⟨0, Nat.zero_le _, rfl, rfl, HB2.out, HC1.out⟩
          case round =>
            clear HB2 HC1
            obtain ⟨i, hi, rfl, rfl, HB3, HC3⟩ := hrel
            by_cases hlt9 : i < s.size
            · obtain ⟨ch, hch0⟩ : ∃ c, s.data.toList[i]? = some c := ⟨_, List.getElem?_eq_getElem (by rw [size_toList]; exact hlt9)⟩
              have hch := Lib.hid hch0; clear hch0
              have hsb : s[i] = ch := byteAtE hch.out hlt9
              subst hsb
              have hc256 : s[i].toNat < 256 := s[i].toNat_lt
              have hc256i : (s[i].toNat : Int) < 256 := by omega
              have HE := Lib.hid (escL_take hch.out)
              have hle := escL_take_le s.data.toList (i + 1)
              rw [HE.out, List.length_append, HN.out] at hle
              obtain ⟨L, hL⟩ : ∃ L, escL (s.data.toList.take i) = L := ⟨_, rfl⟩
              rw [hL] at HE HC3 hle
              rw [hL]
              clear hL
              cases hf : escF s[i] with
              | none =>
                have hno := (HR.out.below HB3.out).no _ hf
                have hneq : ∀ W : World, Sem.run Tryz.prog (binOp BinOp.neq 56 (Value.slice none 0 0) (Value.slice none 0 0)) W = Result.ok (Value.bool false) W := fun _ => rfl
                have HE1 := Lib.hid (escB_none hf)
                rw [HE1.out] at hle
                simp only [List.length_cons, List.length_nil] at hle
                clear hf
                obtain ⟨v0, hv0⟩ : ∃ v, (rowE L N).toArray[L.length]? = some v := ⟨_, Array.getElem?_eq_getElem (by rw [List.size_toArray, rowE_len (by omega)]; omega)⟩
                have x0 := HC3.out.c L.length
                rw [hv0] at x0
                have x1 := HC3.out.f L.length
                have x2 := HC3.out.sh
                rw [List.size_toArray, rowE_len (by omega)] at x2
                clear hv0
                have hjN : (L.length : Int) < (N : Int) := by omega
                go_wp2_with fail
                go_roundw
                case rel =>
                  refine ⟨i + 1, by omega, by go_num, by rw [HE.out, HE1.out]; simp, HB3.out.setCell (p := ⟨g, L.length, none⟩) hgw _, ?_⟩
                  show CB _ _ _ _
                  rw [HE.out, HE1.out, ← rowE_set (by omega)]
                  exact HC3.out.put _ _
                case measure => simp [intOf]; omega
              | some l =>
                obtain ⟨g2, cap, hy, hlc, hcap, hcl⟩ := (HR.out.below HB3.out).yes _ l hf
                have hneq : ∀ W : World, Sem.run Tryz.prog (binOp BinOp.neq 56 (Value.slice (some ⟨g2, 0, none⟩) l.length cap) (Value.slice none 0 0)) W = Result.ok (Value.bool true) W := fun _ => rfl
                have hl1 : 1 ≤ l.length := by have := escB_pos s[i]; rw [escB_some hf] at this; exact this
                have HE1 := Lib.hid (escB_some hf)
                rw [HE1.out] at hle
                have HCl := Lib.hid hcl; clear hcl hf
                have hjN : (L.length : Int) ≤ (N : Int) := by omega
                have f3 : ¬ N = L.length := by omega
                have f5 : 0 ≤ (L.length : Int) := by omega
                have f4 : IntKind.i64.wrap ((L.length : Int) + (l.length : Int)) = ((L.length + l.length : Nat) : Int) := by rw [IntKind.wrap_i64]; omega
                have hone : ∀ v ∈ byteCells l, v.oneCell' = true := by
                  intro v hv
                  simp only [byteCells, List.mem_map] at hv
                  obtain ⟨x, _, rfl⟩ := hv
                  rfl
                have hbl : (byteCells l).length = l.length := by simp [byteCells]
                go_wp2_with fail
                go_region_law (refine step_copy_row rfl (.tmp 105) (.tmp 111) 56 56 rfl 5 Tryz.underlying56 info_sizeE (some ⟨g, L.length, none⟩) (some ⟨g2, 0, none⟩) (N - L.length) (N - L.length) l.length cap (by simp [Act.eval]) (by simp [Act.eval]) g L.length (rowE L N) 5 HC3.out (byteCells l) (by rw [hbl]; show l.length = min _ _; omega) ?hpos (by rw [rowE_len (by omega), hbl]; omega) hone ?_
                               case hpos =>
                                 intro _
                                 refine ⟨rfl, _, rfl, fun j v hv => ?_⟩
                                 simp only [byteCells, List.getElem?_map, Option.map_eq_some_iff] at hv
                                 obtain ⟨x, hx, rfl⟩ := hv
                                 have e : (⟨g2, 0, none⟩ : Addr).add j = ⟨g2, j, none⟩ := by unfold Addr.add; split <;> simp_all
                                 rw [e]; exact HCl.out j x hx
                               intro w2 hc2 hgr2)
                all_goals
                  have HC5 := Lib.hid (show CB w2 g 5 (rowE (L ++ l) N).toArray by
                    have h := hc2.out
                    rw [rowE_splice (by omega)] at h
                    exact h)
                  have HG5 := Lib.hid hgr2
                  clear hc2 hgr2
                  go_wp2_with fail
                  go_roundw
                  case rel =>
                    refine ⟨i + 1, by omega, by go_num, by rw [HE.out, HE1.out]; simp, ?_, ?_⟩
                    · exact HB3.out.drew.grown HG5.out HB3.out.size (fun k hk => by cases hk; exact hgw)
                    · show CB _ _ _ _
                      rw [HE.out, HE1.out]
                      exact HC5.out
                  case measure => simp [intOf]; omega
            · have hie : s.data.toList.take i = s.data.toList := by rw [show i = s.data.toList.length by rw [size_toList]; omega, List.take_length]
              rw [hie] at HC3
              have hconv := conv_string (P := Tryz.prog) wr 56 9 5 g N N (escL s.data.toList) Tryz.underlying56 Tryz.underlying5 Tryz.underlying9 HN.out.symm (fun j hj => by
                rw [HC3.out.c j]
                exact rowE_at HN.out hj)
              clear hie
              go_wp2_with fail
              go_ret
              exact ⟨rfl, HB3.out⟩

end Go.Proofs.YtelelpjhepcmbaaGreat
