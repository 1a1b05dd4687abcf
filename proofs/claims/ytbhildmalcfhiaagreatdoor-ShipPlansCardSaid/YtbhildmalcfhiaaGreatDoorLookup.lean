/-
  Lookup in the trie of five names: (*strings.genericReplacer).lookup.
-/
import Derived.Test.YtbhildmalcfhiaaGreatDoorTrie
import Derived.BigGuardPart
import Derived.WalkSpells
namespace Go.Proofs.YtbhildmalcfhiaaGreatDoor
open Go.RowKit Go.Deep

def sizeVU : Value → Nat | .string z => z.size | _ => 0
theorem nonempty_u {z : ByteArray} (h : 0 < z.size) : (z.toList == []) = false ∧ (z.toList != []) = true ∧ z.toList.isEmpty = false ∧ ¬ z.toList = [] := by
  rw [Go.ByteArray.toList_eq]
  have h2 : 0 < z.data.toList.length := by rw [size_toList]; exact h
  cases hl : z.data.toList with
  | nil => rw [hl] at h2; simp at h2
  | cons a r => simp
theorem empty_u {z : ByteArray} (h : ¬ 0 < z.size) : z = ⟨#[]⟩ := by
  apply Go.WideShapes.bytes_inj
  show z.data.toList = []
  have h2 : z.data.toList.length = 0 := by rw [size_toList]; omega
  exact List.length_eq_zero_iff.1 h2
theorem first_u {z : ByteArray} (h : 0 < z.size) : ∃ c, z[0]'h = c ∧ z.data.toList = c :: (z.extract 1 z.size).data.toList := by
  refine ⟨_, rfl, ?_⟩
  have h2 : 0 < z.data.toList.length := by rw [size_toList]; exact h
  cases hl : z.data.toList with
  | nil => rw [hl] at h2; simp at h2
  | cons a r =>
    have e1 : (z.extract 1 z.size).data.toList = r := by rw [drop_list, hl]; rfl
    have e2 : z[0]'h = a := by
      have : z.data.toList[0]'h2 = a := by simp [hl]
      rw [← this, Array.getElem_toList]; rfl
    rw [e1, e2]
theorem nameR_pos (j : Nat) : 0 < nameR j := by
  rcases (by omega : j = 0 ∨ j = 1 ∨ j = 2 ∨ j = 3 ∨ 4 ≤ j) with rfl | rfl | rfl | rfl | h
  · decide
  · decide
  · decide
  · decide
  · obtain ⟨k, rfl⟩ : ∃ k, j = k + 4 := ⟨j - 4, by omega⟩
    show (0 : Int) < 2
    decide
theorem nameP_size (j : Nat) : 1 ≤ (nameP j).size ∧ (nameP j).size ≤ 4 := by
  rcases (by omega : j = 0 ∨ j = 1 ∨ j = 2 ∨ j = 3 ∨ 4 ≤ j) with rfl | rfl | rfl | rfl | h
  · decide
  · decide
  · decide
  · decide
  · obtain ⟨k, rfl⟩ : ∃ k, j = k + 4 := ⟨j - 4, by omega⟩
    show 1 ≤ (⟨#[51, 57, 59]⟩ : ByteArray).size ∧ (⟨#[51, 57, 59]⟩ : ByteArray).size ≤ 4
    decide
def LookRes (y : ByteArray) (w : World) (e : Ending) (w' : World) : Prop :=
  e = .returned (.tuple #[.string ⟨(lookU y.data.toList).1.toArray⟩, .int .i64 (lookU y.data.toList).2.1, .bool (lookU y.data.toList).2.2]) ∧ ∃ n, w' = w.drewN n
theorem look_none {y : ByteArray} {w w' : World} (h : lookU y.data.toList = ([], 0, false)) (n : Nat) (hw : w' = w.drewN n) : LookRes y w (.returned (.tuple #[.string ⟨#[]⟩, .int .i64 0, .bool false])) w' := ⟨by rw [h]; rfl, n, hw⟩
theorem look_some {y v : ByteArray} {n : Nat} {w w' : World} (h : lookU y.data.toList = (v.data.toList, n, true)) (m : Nat) (hw : w' = w.drewN m) : LookRes y w (.returned (.tuple #[.string v, .int .i64 n, .bool true])) w' := ⟨by rw [h], m, hw⟩

set_option maxRecDepth 100000 in
set_option maxHeartbeats 8000000 in
theorem lookup_q (b tb na ta : Nat) (nd lf : Nat → Nat) (y : ByteArray) (w : World) (h : TrieAt w b tb na ta nd lf) (hy : 0 < y.size → y.data.toList.head? = some 38) (hs : y.size ≤ 1073741824) :
    Calls Tryz.prog 283 #[.pointer (some ⟨b, 0, none⟩), .string y, .bool false] w (LookRes y w) := by
  have HT := Lib.hid h
  have HY := Lib.hid hy
  clear h hy
  have hnn := fun (wx : World) (a : Option Addr) (n c n' c' : Nat) => run_neq_slice_nil_any (P := Tryz.prog) wx 285 _ a n c n' c' Tryz.underlying285
  go_enter Tryz.func283, Tryz.ntmps283
  go_wp2_with fail
  go_loopw [1, 6, 7, 8, 9, 10, 11] (fun t1 t6 t7 t8 t9 t10 t11 wr => ∃ q : Nat, wr = w.drewN q ∧ t6 = .string ⟨#[]⟩ ∧ t7 = .int .i64 0 ∧ t8 = .bool false ∧ t9 = .int .i64 0 ∧ (
      (t1 = .string y ∧ t10 = .pointer (some ⟨b, 0, none⟩) ∧ t11 = .int .i64 0)
    ∨ (∃ r : ByteArray, Hid (y.data.toList = 38 :: r.data.toList) ∧ r.size ≤ y.size ∧ t1 = .string r ∧ t10 = .pointer (some ⟨na, 0, none⟩) ∧ t11 = .int .i64 1)
    ∨ (∃ (j : Nat) (c : UInt8) (r : ByteArray), j < 5 ∧ Hid (kidU c = some j) ∧ Hid (y.data.toList = 38 :: c :: r.data.toList) ∧ r.size ≤ y.size ∧ t1 = .string r ∧ t10 = .pointer (some ⟨nd j, 0, none⟩) ∧ t11 = .int .i64 2)
    ∨ (∃ (j n : Nat) (r : ByteArray), j < 5 ∧ Hid (lookU y.data.toList = ((nameV j).data.toList, n, true)) ∧ n ≤ 10 ∧ t1 = .string r ∧ t10 = .pointer (some ⟨lf j, 0, none⟩) ∧ t11 = .int .i64 n)
    ∨ (∃ r : ByteArray, Hid (lookU y.data.toList = ([], 0, false)) ∧ t1 = .string r ∧ t10 = .pointer none))) (fun t1 _ _ _ _ _ _ _ => sizeVU t1)
  case atStart => exact ⟨0, rfl, rfl, rfl, rfl, rfl, Or.inl ⟨rfl, rfl, rfl⟩⟩
  case round =>
    obtain ⟨q, rfl, rfl, rfl, rfl, rfl, hst⟩ := hrel
    have r1 := HT.out.r1
    have r2 := HT.out.r2
    have r4 := HT.out.r4
    have r5 := HT.out.r5
    rcases hst with ⟨rfl, rfl, rfl⟩ | ⟨r, HR, hrs, rfl, rfl, rfl⟩ | ⟨j, c, r, hj, HK, HR, hrs, rfl, rfl, rfl⟩ | ⟨j, n, r, hj, HL, hn, rfl, rfl, rfl⟩ | ⟨r, HL, rfl, rfl⟩
    · by_cases h0 : 0 < y.size
      · obtain ⟨f1, f2, f3, f4⟩ := nonempty_u h0
        obtain ⟨c, hc, hl⟩ := first_u h0
        have hc38 : c = 38 := by
          have h9 := HY.out h0
          rw [hl] at h9
          exact Option.some.inj h9
        have hmap := HT.out.map c
        rw [show mapU c = 1 by rw [hc38]; decide] at hmap
        have htab := HT.out.tab 1 (by omega)
        rw [if_pos rfl] at htab
        have hc256 : c.toNat < 256 := c.toNat_lt
        have hc256i : (c.toNat : Int) < 256 := by omega
        have hI1 : (1 : Int) ≤ (y.size : Int) := by omega
        obtain ⟨z, hz⟩ : ∃ z, y.extract 1 y.size = z := ⟨_, rfl⟩
        have HR := Lib.hid (show y.data.toList = 38 :: z.data.toList by rw [← hz, hl, hc38])
        have hzs : z.size = y.size - 1 := by rw [← hz, ByteArray.size_extract]; omega
        have HZs := Lib.hid hzs
        clear hl hzs hc38
        go_wp2_with fail
        go_quiet (fail)
        go_wp2_with fail
        go_roundw
        case rel => exact ⟨q + nq, rfl, rfl, rfl, rfl, rfl, Or.inr (Or.inl ⟨z, HR, by have := HZs.out; omega, rfl, by first | rfl | simp, by first | rfl | go_num⟩)⟩
        case measure => simp only [sizeVU]; have := HZs.out; omega
      · obtain rfl := empty_u h0
        have hl0 : lookU (⟨#[]⟩ : ByteArray).data.toList = ([], 0, false) := rfl
        have HL := Lib.hid hl0
        clear hl0
        go_wp2_with fail
        go_ret3
        exact look_none HL.out _ rfl
    · have a1 := HT.out.a1
      have a2 := HT.out.a2
      have a4 := HT.out.a4
      by_cases h0 : 0 < r.size
      · obtain ⟨f1, f2, f3, f4⟩ := nonempty_u h0
        obtain ⟨c, hc, hl⟩ := first_u h0
        have hmap := HT.out.map c
        have hc256 : c.toNat < 256 := c.toNat_lt
        have hc256i : (c.toNat : Int) < 256 := by omega
        have hI1 : (1 : Int) ≤ (r.size : Int) := by omega
        obtain ⟨z, hz⟩ : ∃ z, r.extract 1 r.size = z := ⟨_, rfl⟩
        have HR2 := Lib.hid (show y.data.toList = 38 :: c :: z.data.toList by rw [HR.out, ← hz, hl])
        have hzs : z.size = r.size - 1 := by rw [← hz, ByteArray.size_extract]; omega
        have HZs := Lib.hid hzs
        obtain ⟨m, hm⟩ : ∃ m, mapU c = m := ⟨_, rfl⟩
        have hm14 : m ≤ 14 := by rw [← hm]; exact mapU_le c
        have hkid := HT.out.kid c
        rw [hm] at hmap hkid
        have HM := Lib.hid hm
        clear hl hzs hm
        cases hk : kidU c with
        | none =>
          have HL := Lib.hid (show lookU y.data.toList = ([], 0, false) by rw [HR2.out]; simp only [lookU, hk])
          by_cases hmm : m = 14
          · have tm : ((m : Int) == 14) = true := by simp; omega
            have tm2 : IntKind.i64.wrap (m : Int) = (m : Int) := IntWalk.i64_in _ (by omega)
            clear hkid hk hmm
            go_wp2_with fail
            go_quiet (fail)
            go_wp2_with fail
            go_ret3
            exact look_none HL.out _ rfl
          · have tm : ((m : Int) == 14) = false := by simp; omega
            have tm2 : IntKind.i64.wrap (m : Int) = (m : Int) := IntWalk.i64_in _ (by omega)
            have hkid2 := hkid (by omega)
            rw [hk] at hkid2
            simp only [Option.map_none] at hkid2
            have hmi : (m : Int) < 14 := by omega
            have hmn : m < 14 := by omega
            clear hkid hk hmm
            go_wp2_with fail
            go_quiet (fail)
            go_wp2_with fail
            go_roundw
            case rel => exact ⟨q + nq, rfl, rfl, rfl, rfl, rfl, Or.inr (Or.inr (Or.inr (Or.inr ⟨z, HL, rfl, rfl⟩)))⟩
            case measure => simp only [sizeVU]; have := HZs.out; omega
        | some j =>
          obtain ⟨hj, _, hmlt⟩ := kidU_map hk
          rw [HM.out] at hmlt
          have hkid2 := hkid hmlt
          rw [hk] at hkid2
          simp only [Option.map_some] at hkid2
          have tm : ((m : Int) == 14) = false := by simp; omega
          have tm2 : IntKind.i64.wrap (m : Int) = (m : Int) := IntWalk.i64_in _ (by omega)
          have hmi : (m : Int) < 14 := by omega
          have HK := Lib.hid hk
          clear hkid hk
          go_wp2_with fail
          go_quiet (fail)
          go_wp2_with fail
          go_roundw
          case rel => exact ⟨q + nq, rfl, rfl, rfl, rfl, rfl, Or.inr (Or.inr (Or.inl ⟨j, c, z, hj, HK, HR2, by have := HZs.out; omega, rfl, by first | rfl | simp, by first | rfl | go_num⟩))⟩
          case measure => simp only [sizeVU]; have := HZs.out; omega
      · obtain rfl := empty_u h0
        have HL := Lib.hid (show lookU y.data.toList = ([], 0, false) by rw [HR.out]; rfl)
        go_wp2_with fail
        go_ret3
        exact look_none HL.out _ rfl
    · have n1 := HT.out.n1 j hj
      have n2 := HT.out.n2 j hj
      have n3 := HT.out.n3 j hj
      have n4 := HT.out.n4 j hj
      by_cases h0 : 0 < r.size
      · obtain ⟨f1, f2, f3, f4⟩ := nonempty_u h0
        obtain ⟨p, hp⟩ : ∃ p, nameP j = p := ⟨_, rfl⟩
        obtain ⟨hp1, hp4⟩ := nameP_size j
        rw [hp] at n2 hp1 hp4
        obtain ⟨g1, g2, g3, g4⟩ := nonempty_u (z := p) (by omega)
        obtain ⟨m, hm⟩ : ∃ m, Lib.hasPrefix r.data.toList p.data.toList = m := ⟨_, rfl⟩
        have HP := Lib.hid (fun W => by have h9 := Tryz.strings_HasPrefix r p W; rw [hm] at h9; exact h9 : ∀ W, Calls Tryz.prog 28 #[.string r, .string p] W fun e w' => e = .returned (.bool m) ∧ w' = W)
        cases m with
        | true =>
          have hpl : p.size ≤ r.size := by have := prefix_len hm; rwa [size_toList, size_toList] at this
          have HL := Lib.hid (show lookU y.data.toList = ((nameV j).data.toList, 2 + p.size, true) by rw [HR.out]; simp only [lookU, HK.out, hp]; rw [if_pos hm])
          have hI1 : (p.size : Int) ≤ (r.size : Int) := by omega
          obtain ⟨z, hz⟩ : ∃ z, r.extract p.size r.size = z := ⟨_, rfl⟩
          have hzs : z.size = r.size - p.size := by rw [← hz, ByteArray.size_extract]; omega
          have HZs := Lib.hid hzs
          clear hm hzs hp
          go_wp2_with (go_at_call 28; go_must (refine (HP.out _).mono ?_); rintro e w3 ⟨rfl, hw3⟩; obtain rfl := hw3.symm)
          go_roundw
          case rel => exact ⟨q, rfl, rfl, rfl, rfl, rfl, Or.inr (Or.inr (Or.inr (Or.inl ⟨j, 2 + p.size, z, hj, HL, by omega, rfl, rfl, by first | rfl | go_num⟩)))⟩
          case measure => simp only [sizeVU]; have := HZs.out; omega
        | false =>
          have HL := Lib.hid (show lookU y.data.toList = ([], 0, false) by rw [HR.out]; simp only [lookU, HK.out, hp]; rw [if_neg (by rw [hm]; simp)])
          clear hm hp
          go_wp2_with (go_at_call 28; go_must (refine (HP.out _).mono ?_); rintro e w3 ⟨rfl, hw3⟩; obtain rfl := hw3.symm)
          go_ret3
          exact look_none HL.out _ rfl
      · obtain rfl := empty_u h0
        have HL := Lib.hid (show lookU y.data.toList = ([], 0, false) by
          rw [HR.out]; simp only [lookU, HK.out]
          rw [if_neg]
          have hp1 := (nameP_size j).1
          intro hx
          have := prefix_len hx
          rw [size_toList, show (⟨#[]⟩ : ByteArray).data.toList.length = 0 from rfl] at this
          omega)
        go_wp2_with fail
        go_ret3
        exact look_none HL.out _ rfl
    · have l0 := HT.out.l0 j hj
      have l1 := HT.out.l1 j hj
      have l2 := HT.out.l2 j hj
      have l4 := HT.out.l4 j hj
      obtain ⟨v, hv⟩ : ∃ v, nameV j = v := ⟨_, rfl⟩
      obtain ⟨ra, hra⟩ : ∃ v, nameR j = v := ⟨_, rfl⟩
      rw [hv] at l0 HL
      have hrp := nameR_pos j
      rw [hra] at l1 hrp
      have tr : decide (0 < ra) = true := decide_eq_true hrp
      clear hv hra
      by_cases h0 : 0 < r.size
      · obtain ⟨f1, f2, f3, f4⟩ := nonempty_u h0
        go_wp2_with fail
        go_ret3
        exact look_some HL.out _ rfl
      · obtain rfl := empty_u h0
        go_wp2_with fail
        go_ret3
        exact look_some HL.out _ rfl
    · go_wp2_with fail
      go_ret3
      exact look_none HL.out _ rfl

end Go.Proofs.YtbhildmalcfhiaaGreatDoor
