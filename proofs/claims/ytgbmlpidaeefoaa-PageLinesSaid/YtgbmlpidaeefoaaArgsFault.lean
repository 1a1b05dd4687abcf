/-
  The faults of arguments: page.argsFault, mastref1.argsError.
-/
import Derived.Test.YtgbmlpidaeefoaaReadArg
namespace Go.Proofs.Ytgbmlpidaeefoaa
open Go.RowKit Go.Deep

noncomputable def argsE2 (l : List ArgL) : Int := if 12 < l.length then 4 else argsE l
theorem argsE2_big {l : List ArgL} (h : 12 < l.length) : argsE2 l = 4 := if_pos h
theorem argsE2_small {l : List ArgL} (h : ¬ 12 < l.length) : argsE2 l = argsE l := if_neg h
theorem mk_list (l : List UInt8) : (⟨l.toArray⟩ : ByteArray).data.toList = l := rfl

/-- the name of an argument, as the walk's tests see it -/
theorem name_nil {l : List UInt8} {z : ByteArray} (h : (⟨l.toArray⟩ : ByteArray) = z) (h0 : l = []) : z.toList = [] := by rw [Go.ByteArray.toList_eq, ← h, h0]
theorem name_some {l : List UInt8} {z : ByteArray} (h : (⟨l.toArray⟩ : ByteArray) = z) (h0 : ¬ l = []) : z.toList.isEmpty = false := by
  have h2 : ¬ z.toList = [] := by rw [Go.ByteArray.toList_eq, ← h]; exact h0
  cases hs : z.toList with | nil => exact absurd hs h2 | cons a r => rfl
theorem name_eq {l m : List UInt8} {z y : ByteArray} (h : (⟨l.toArray⟩ : ByteArray) = z) (h2 : (⟨m.toArray⟩ : ByteArray) = y) : (z.toList == y.toList) = (l == m) := by
  rw [Go.ByteArray.toList_eq, Go.ByteArray.toList_eq, ← h, ← h2]

set_option maxHeartbeats 4000000 in
theorem argsFault_any (l : List ArgL) (v : Value) (w : World) (h : ArgsAt w v l)  : Calls Try.prog 24 #[v] w fun e w' => e = .returned (.int .i64 (argsE l)) ∧ Below w.heap.size w w' := by
  obtain ⟨A, c, b, o, rfl, hlc, hc, hA, hcell⟩ := h
  unfold maxLen at hc
  have HCell := Lib.hid hcell; clear hcell
  go_enter Try.func24, Try.ntmps24
  go_wp2_with fail
  go_loopw [11] (fun t wr => ∃ k : Nat, k ≤ l.length ∧ t = .int .i64 k ∧ Hid (Below w.heap.size w wr) ∧ Hid (∀ (i j : Nat) (x y : ArgL), j < i → i < k → l[i]? = some x → l[j]? = some y → x.1 ≠ [] → x.1 ≠ y.1)) (fun t _ => l.length - (intOf t).toNat)
  case atStart => exact ⟨0, Nat.zero_le _, rfl, Below.refl _ _, fun i j x y h1 h2 => absurd h2 (by omega)⟩
  case round =>
    obtain ⟨k, hk, rfl, HB, HAll⟩ := hrel
    by_cases hlt : k < l.length
    · have hA' := hA (by rintro rfl; simp at hlt)
      subst hA'
      obtain ⟨x, hx⟩ : ∃ x, l[k]? = some x := ⟨_, List.getElem?_eq_getElem hlt⟩
      have hcx := HCell.out k x hx
      obtain ⟨x1, hx1⟩ : ∃ z, (⟨x.1.toArray⟩ : ByteArray) = z := ⟨_, rfl⟩
      obtain ⟨x2, hx2⟩ : ∃ z, (⟨x.2.toArray⟩ : ByteArray) = z := ⟨_, rfl⟩
      rw [hx1, hx2] at hcx
      have p0 := Keeps.of_below HB.out _ _ hcx.1
      have p1 := Keeps.of_below HB.out _ _ hcx.2
      have HX := Lib.hid hx
      have HX1 := Lib.hid hx1
      clear hcx hx hx1 hx2 hA
      go_wp2_with fail
      clear p0 p1
      have HB9 := HB
      have hbs := HB.out.size
      obtain ⟨n4, hn4⟩ : ∃ n4, wr.heap.size = n4 := ⟨_, rfl⟩
      have HN4 := Lib.hid hn4
      have HBX := Lib.hid (show BX (wr.alloc (.cells #[.string x1, .string x2] 49)) n4 x1 x2 by rw [← hn4]; exact heap_alloc_new wr _)
      have HBb := Lib.hid (HB.out.alloc hbs (.cells #[.string x1, .string x2] 49))
      obtain ⟨w4, hw4⟩ : ∃ w4, wr.alloc (.cells #[.string x1, .string x2] 49) = w4 := ⟨_, rfl⟩
      rw [hw4] at HBX HBb
      rw [hw4, hn4]
      clear hw4 hn4 HB9 HN4 HB
      go_loopw [20] (fun t wr => ∃ j : Nat, j ≤ k ∧ t = .int .i64 j ∧ Hid (Below w.heap.size w wr) ∧ Hid (BX wr n4 x1 x2) ∧ Hid (∀ (i : Nat) (y : ArgL), i < j → l[i]? = some y → x.1 ≠ [] → x.1 ≠ y.1)) (fun t _ => k - (intOf t).toNat)
      case atStart => exact ⟨0, Nat.zero_le _, rfl, HBb, HBX, fun i y h1 => absurd h1 (by omega)⟩
      case round =>
        clear HBb HBX
        obtain ⟨j, hj, rfl, HB, HBX, HIn⟩ := hrel
        have hbs5 := HB.out.size
        by_cases hjl : j < k
        · obtain ⟨y, hy⟩ : ∃ y, l[j]? = some y := ⟨_, List.getElem?_eq_getElem (by omega)⟩
          have hcy := HCell.out j y hy
          obtain ⟨y1, hy1⟩ : ∃ z, (⟨y.1.toArray⟩ : ByteArray) = z := ⟨_, rfl⟩
          obtain ⟨y2, hy2⟩ : ∃ z, (⟨y.2.toArray⟩ : ByteArray) = z := ⟨_, rfl⟩
          rw [hy1, hy2] at hcy
          have q0 := Keeps.of_below HB.out _ _ hcy.1
          have q1 := Keeps.of_below HB.out _ _ hcy.2
          have HY := Lib.hid hy
          have HY1 := Lib.hid hy1
          clear hcy hy hy1 hy2
          have r0 := HBX.out.c0
          have hbl := HBX.out.lt
          have hEq := name_eq HX1.out HY1.out
          have HBX6 := Lib.hid (HBX.out.other (World.grownBy_alloc wr (.cells #[.string y1, .string y2] 49) none) (by simp))
          have HB6 := Lib.hid (HB.out.alloc hbs5 (.cells #[.string y1, .string y2] 49))
          by_cases hx0 : x.1 = []
          · have e0 := name_nil HX1.out hx0
            have HX0 := Lib.hid hx0
            clear hx0 hEq
            go_wp2_with fail
            go_roundw
            case rel => exact ⟨j + 1, by omega, by go_num, HB6, HBX6, fun i z h1 h2 h3 => absurd HX0.out h3⟩
            case measure => simp [intOf]; omega
          have e0 := name_some HX1.out hx0
          have HX0 := Lib.hid hx0
          clear hx0
          by_cases hxy : x.1 = y.1
          · have e1 : (x1.toList == y1.toList) = true := by rw [hEq]; simpa using hxy
            have HE := Lib.hid (argsE_twice ⟨k, j, x, y, hjl, HX.out, HY.out, HX0.out, hxy⟩)
            clear hEq hxy
            go_wp2_with fail
            go_ret
            exact ⟨ret_int (by rw [HE.out]), HB6.out⟩
          · have e1 : (x1.toList == y1.toList) = false := by rw [hEq]; simpa using hxy
            have HXY := Lib.hid hxy
            clear hEq hxy
            go_wp2_with fail
            go_roundw
            case rel =>
              refine ⟨j + 1, by omega, by go_num, HB6, HBX6, fun i z h1 h2 h3 => ?_⟩
              rcases Nat.lt_succ_iff_lt_or_eq.1 h1 with h4 | rfl
              · exact HIn.out i z h4 h2 h3
              · rw [HY.out] at h2
                cases h2
                exact HXY.out
            case measure => simp [intOf]; omega
        · have HInn := Lib.hid (fun (i : Nat) (y : ArgL) (h1 : i < k) h2 h3 => HIn.out i y (by omega) h2 h3)
          go_wp2_with fail
          go_roundw
          case rel =>
            refine ⟨k + 1, by omega, by go_num, HB, fun i j2 x' y' h1 h2 h3 h4 h5 => ?_⟩
            rcases Nat.lt_succ_iff_lt_or_eq.1 h2 with h6 | rfl
            · exact HAll.out i j2 x' y' h1 h6 h3 h4 h5
            · rw [HX.out] at h3
              cases h3
              exact HInn.out j2 y' h1 h4 h5
          case measure => simp [intOf]; omega
    · have HNot := Lib.hid (show ¬ TwiceP l from fun ⟨i, j, x, y, h1, h2, h3, h4, h5⟩ => HAll.out i j x y h1 (by have := (List.getElem?_eq_some_iff.1 h2).1; omega) h2 h3 h4 h5)
      clear HAll
      go_wp2_with fail
      have HB0 := HB
      clear HB
      go_loopw [38] (fun t wr => ∃ j : Nat, j ≤ l.length ∧ t = .int .i64 j ∧ Hid (Below w.heap.size w wr) ∧ Hid (∀ (i : Nat) (x y : ArgL), i + 1 < j → l[i + 1]? = some x → l[i]? = some y → x.1 = [] → y.1 = [])) (fun t _ => l.length - (intOf t).toNat)
      case atStart => exact ⟨0, Nat.zero_le _, rfl, HB0, fun i x y h1 => absurd h1 (by omega)⟩
      case round =>
        clear HB0
        obtain ⟨j, hj, rfl, HB, HIn⟩ := hrel
        have hbs5 := HB.out.size
        by_cases hjl : j < l.length
        · have hA' := hA (by rintro rfl; simp at hjl)
          subst hA'
          obtain ⟨y, hy⟩ : ∃ y, l[j]? = some y := ⟨_, List.getElem?_eq_getElem hjl⟩
          have hcy := HCell.out j y hy
          obtain ⟨y1, hy1⟩ : ∃ z, (⟨y.1.toArray⟩ : ByteArray) = z := ⟨_, rfl⟩
          obtain ⟨y2, hy2⟩ : ∃ z, (⟨y.2.toArray⟩ : ByteArray) = z := ⟨_, rfl⟩
          rw [hy1, hy2] at hcy
          have q0 := Keeps.of_below HB.out _ _ hcy.1
          have q1 := Keeps.of_below HB.out _ _ hcy.2
          have HY := Lib.hid hy
          have HY1 := Lib.hid hy1
          clear hcy hy hy1 hy2 hA
          have HB6 := Lib.hid (HB.out.alloc hbs5 (.cells #[.string y1, .string y2] 49))
          by_cases hj0 : j = 0
          · subst hj0
            have q2 : wr.cell? ⟨b, o, none⟩ = some (.string y1) := by simpa using q0
            have q3 : wr.cell? ⟨b, o + 1, none⟩ = some (.string y2) := by simpa using q1
            clear q0 q1
            go_wp2_with fail
            go_roundw
            case rel => exact ⟨1, by omega, by go_num, HB6, fun i x z h1 => absurd h1 (by omega)⟩
            case measure => simp [intOf]; omega
          obtain ⟨q, rfl⟩ : ∃ q, j = q + 1 := ⟨j - 1, by omega⟩
          clear hj0
          by_cases hy0 : y.1 = []
          · have e0 := name_nil HY1.out hy0
            have HY0 := Lib.hid hy0
            clear hy0
            obtain ⟨u, hu⟩ : ∃ u, l[q]? = some u := ⟨_, List.getElem?_eq_getElem (by omega)⟩
            have hcu := HCell.out q u hu
            obtain ⟨u1, hu1⟩ : ∃ z, (⟨u.1.toArray⟩ : ByteArray) = z := ⟨_, rfl⟩
            rw [hu1] at hcu
            have s0 := Keeps.of_below HB.out _ _ hcu.1
            have hbl := World.block_lt_of_cell? _ _ s0
            simp only at hbl
            have HU := Lib.hid hu
            have HU1 := Lib.hid hu1
            clear hcu hu hu1
            by_cases hu0 : u.1 = []
            · have e1 := name_nil HU1.out hu0
              have HU0 := Lib.hid hu0
              clear hu0
              go_wp2_with fail
              go_roundw
              case rel =>
                refine ⟨q + 2, by omega, by go_num, HB6, fun i x z h1 h2 h3 h4 => ?_⟩
                rcases Nat.lt_succ_iff_lt_or_eq.1 h1 with h5 | h5
                · exact HIn.out i x z h5 h2 h3 h4
                · have : i = q := by omega
                  subst this
                  rw [HU.out] at h3
                  cases h3
                  exact HU0.out
              case measure => simp [intOf]; omega
            · have e1 := name_some HU1.out hu0
              have HE := Lib.hid (argsE_order HNot.out ⟨q, y, u, HY.out, HU.out, HY0.out, hu0⟩)
              clear hu0
              go_wp2_with fail
              go_ret
              exact ⟨ret_int (by rw [HE.out]), HB6.out⟩
          · have e0 := name_some HY1.out hy0
            have HY0 := Lib.hid hy0
            clear hy0
            go_wp2_with fail
            go_roundw
            case rel =>
              refine ⟨q + 2, by omega, by go_num, HB6, fun i x z h1 h2 h3 h4 => ?_⟩
              rcases Nat.lt_succ_iff_lt_or_eq.1 h1 with h5 | h5
              · exact HIn.out i x z h5 h2 h3 h4
              · have : i = q := by omega
                subst this
                rw [HY.out] at h2
                cases h2
                exact absurd h4 HY0.out
            case measure => simp [intOf]; omega
        · have HE := Lib.hid (argsE_ok HNot.out (fun ⟨i, x, y, h1, h2, h3, h4⟩ => h4 (HIn.out i x y (by have := (List.getElem?_eq_some_iff.1 h1).1; omega) h1 h2 h3)))
          clear HIn
          go_wp2_with fail
          go_ret
          exact ⟨ret_int (by rw [HE.out]), HB.out⟩

set_option maxHeartbeats 4000000 in
theorem argsError_any (l : List ArgL) (v : Value) (w : World) (h : ArgsAt w v l)  : Calls Try.prog 31 #[v] w fun e w' => e = .returned (.int .i64 (argsE2 l)) ∧ Below w.heap.size w w' := by
  obtain ⟨A, c, b, o, rfl, hlc, hc, hA, hcell⟩ := h
  unfold maxLen at hc
  have HCell := Lib.hid hcell; clear hcell
  by_cases hbig : 12 < l.length
  · go_enter Try.func31, Try.ntmps31
    go_wp2_with fail
    go_ret
    exact ⟨ret_int (by rw [argsE2_big hbig]), Below.refl _ _⟩
  have HBig := Lib.hid hbig
  go_enter Try.func31, Try.ntmps31
  go_wp2_with fail
  go_loopw [14] (fun t wr => ∃ k : Nat, k ≤ l.length ∧ t = .int .i64 k ∧ Hid (Below w.heap.size w wr) ∧ Hid (∀ (i j : Nat) (x y : ArgL), j < i → i < k → l[i]? = some x → l[j]? = some y → x.1 ≠ [] → x.1 ≠ y.1)) (fun t _ => l.length - (intOf t).toNat)
  case atStart => exact ⟨0, Nat.zero_le _, rfl, Below.refl _ _, fun i j x y h1 h2 => absurd h2 (by omega)⟩
  case round =>
    obtain ⟨k, hk, rfl, HB, HAll⟩ := hrel
    by_cases hlt : k < l.length
    · have hA' := hA (by rintro rfl; simp at hlt)
      subst hA'
      obtain ⟨x, hx⟩ : ∃ x, l[k]? = some x := ⟨_, List.getElem?_eq_getElem hlt⟩
      have hcx := HCell.out k x hx
      obtain ⟨x1, hx1⟩ : ∃ z, (⟨x.1.toArray⟩ : ByteArray) = z := ⟨_, rfl⟩
      obtain ⟨x2, hx2⟩ : ∃ z, (⟨x.2.toArray⟩ : ByteArray) = z := ⟨_, rfl⟩
      rw [hx1, hx2] at hcx
      have p0 := Keeps.of_below HB.out _ _ hcx.1
      have p1 := Keeps.of_below HB.out _ _ hcx.2
      have HX := Lib.hid hx
      have HX1 := Lib.hid hx1
      clear hcx hx hx1 hx2 hA
      go_wp2_with fail
      clear p0 p1
      have HB9 := HB
      have hbs := HB.out.size
      obtain ⟨n4, hn4⟩ : ∃ n4, wr.heap.size = n4 := ⟨_, rfl⟩
      have HN4 := Lib.hid hn4
      have HBX := Lib.hid (show BX (wr.alloc (.cells #[.string x1, .string x2] 49)) n4 x1 x2 by rw [← hn4]; exact heap_alloc_new wr _)
      have HBb := Lib.hid (HB.out.alloc hbs (.cells #[.string x1, .string x2] 49))
      obtain ⟨w4, hw4⟩ : ∃ w4, wr.alloc (.cells #[.string x1, .string x2] 49) = w4 := ⟨_, rfl⟩
      rw [hw4] at HBX HBb
      rw [hw4, hn4]
      clear hw4 hn4 HB9 HN4 HB
      go_loopw [23] (fun t wr => ∃ j : Nat, j ≤ k ∧ t = .int .i64 j ∧ Hid (Below w.heap.size w wr) ∧ Hid (BX wr n4 x1 x2) ∧ Hid (∀ (i : Nat) (y : ArgL), i < j → l[i]? = some y → x.1 ≠ [] → x.1 ≠ y.1)) (fun t _ => k - (intOf t).toNat)
      case atStart => exact ⟨0, Nat.zero_le _, rfl, HBb, HBX, fun i y h1 => absurd h1 (by omega)⟩
      case round =>
        clear HBb HBX
        obtain ⟨j, hj, rfl, HB, HBX, HIn⟩ := hrel
        have hbs5 := HB.out.size
        by_cases hjl : j < k
        · obtain ⟨y, hy⟩ : ∃ y, l[j]? = some y := ⟨_, List.getElem?_eq_getElem (by omega)⟩
          have hcy := HCell.out j y hy
          obtain ⟨y1, hy1⟩ : ∃ z, (⟨y.1.toArray⟩ : ByteArray) = z := ⟨_, rfl⟩
          obtain ⟨y2, hy2⟩ : ∃ z, (⟨y.2.toArray⟩ : ByteArray) = z := ⟨_, rfl⟩
          rw [hy1, hy2] at hcy
          have q0 := Keeps.of_below HB.out _ _ hcy.1
          have q1 := Keeps.of_below HB.out _ _ hcy.2
          have HY := Lib.hid hy
          have HY1 := Lib.hid hy1
          clear hcy hy hy1 hy2
          have r0 := HBX.out.c0
          have hbl := HBX.out.lt
          have hEq := name_eq HX1.out HY1.out
          have HBX6 := Lib.hid (HBX.out.other (World.grownBy_alloc wr (.cells #[.string y1, .string y2] 49) none) (by simp))
          have HB6 := Lib.hid (HB.out.alloc hbs5 (.cells #[.string y1, .string y2] 49))
          by_cases hx0 : x.1 = []
          · have e0 := name_nil HX1.out hx0
            have HX0 := Lib.hid hx0
            clear hx0 hEq
            go_wp2_with fail
            go_roundw
            case rel => exact ⟨j + 1, by omega, by go_num, HB6, HBX6, fun i z h1 h2 h3 => absurd HX0.out h3⟩
            case measure => simp [intOf]; omega
          have e0 := name_some HX1.out hx0
          have HX0 := Lib.hid hx0
          clear hx0
          by_cases hxy : x.1 = y.1
          · have e1 : (x1.toList == y1.toList) = true := by rw [hEq]; simpa using hxy
            have HE := Lib.hid (argsE_twice ⟨k, j, x, y, hjl, HX.out, HY.out, HX0.out, hxy⟩)
            clear hEq hxy
            go_wp2_with fail
            go_ret
            exact ⟨ret_int (by rw [argsE2_small HBig.out, HE.out]), HB6.out⟩
          · have e1 : (x1.toList == y1.toList) = false := by rw [hEq]; simpa using hxy
            have HXY := Lib.hid hxy
            clear hEq hxy
            go_wp2_with fail
            go_roundw
            case rel =>
              refine ⟨j + 1, by omega, by go_num, HB6, HBX6, fun i z h1 h2 h3 => ?_⟩
              rcases Nat.lt_succ_iff_lt_or_eq.1 h1 with h4 | rfl
              · exact HIn.out i z h4 h2 h3
              · rw [HY.out] at h2
                cases h2
                exact HXY.out
            case measure => simp [intOf]; omega
        · have HInn := Lib.hid (fun (i : Nat) (y : ArgL) (h1 : i < k) h2 h3 => HIn.out i y (by omega) h2 h3)
          go_wp2_with fail
          go_roundw
          case rel =>
            refine ⟨k + 1, by omega, by go_num, HB, fun i j2 x' y' h1 h2 h3 h4 h5 => ?_⟩
            rcases Nat.lt_succ_iff_lt_or_eq.1 h2 with h6 | rfl
            · exact HAll.out i j2 x' y' h1 h6 h3 h4 h5
            · rw [HX.out] at h3
              cases h3
              exact HInn.out j2 y' h1 h4 h5
          case measure => simp [intOf]; omega
    · have HNot := Lib.hid (show ¬ TwiceP l from fun ⟨i, j, x, y, h1, h2, h3, h4, h5⟩ => HAll.out i j x y h1 (by have := (List.getElem?_eq_some_iff.1 h2).1; omega) h2 h3 h4 h5)
      clear HAll
      go_wp2_with fail
      have HB0 := HB
      clear HB
      go_loopw [41] (fun t wr => ∃ j : Nat, j ≤ l.length ∧ t = .int .i64 j ∧ Hid (Below w.heap.size w wr) ∧ Hid (∀ (i : Nat) (x y : ArgL), i + 1 < j → l[i + 1]? = some x → l[i]? = some y → x.1 = [] → y.1 = [])) (fun t _ => l.length - (intOf t).toNat)
      case atStart => exact ⟨0, Nat.zero_le _, rfl, HB0, fun i x y h1 => absurd h1 (by omega)⟩
      case round =>
        clear HB0
        obtain ⟨j, hj, rfl, HB, HIn⟩ := hrel
        have hbs5 := HB.out.size
        by_cases hjl : j < l.length
        · have hA' := hA (by rintro rfl; simp at hjl)
          subst hA'
          obtain ⟨y, hy⟩ : ∃ y, l[j]? = some y := ⟨_, List.getElem?_eq_getElem hjl⟩
          have hcy := HCell.out j y hy
          obtain ⟨y1, hy1⟩ : ∃ z, (⟨y.1.toArray⟩ : ByteArray) = z := ⟨_, rfl⟩
          obtain ⟨y2, hy2⟩ : ∃ z, (⟨y.2.toArray⟩ : ByteArray) = z := ⟨_, rfl⟩
          rw [hy1, hy2] at hcy
          have q0 := Keeps.of_below HB.out _ _ hcy.1
          have q1 := Keeps.of_below HB.out _ _ hcy.2
          have HY := Lib.hid hy
          have HY1 := Lib.hid hy1
          clear hcy hy hy1 hy2 hA
          have HB6 := Lib.hid (HB.out.alloc hbs5 (.cells #[.string y1, .string y2] 49))
          by_cases hj0 : j = 0
          · subst hj0
            have q2 : wr.cell? ⟨b, o, none⟩ = some (.string y1) := by simpa using q0
            have q3 : wr.cell? ⟨b, o + 1, none⟩ = some (.string y2) := by simpa using q1
            clear q0 q1
            go_wp2_with fail
            go_roundw
            case rel => exact ⟨1, by omega, by go_num, HB6, fun i x z h1 => absurd h1 (by omega)⟩
            case measure => simp [intOf]; omega
          obtain ⟨q, rfl⟩ : ∃ q, j = q + 1 := ⟨j - 1, by omega⟩
          clear hj0
          by_cases hy0 : y.1 = []
          · have e0 := name_nil HY1.out hy0
            have HY0 := Lib.hid hy0
            clear hy0
            obtain ⟨u, hu⟩ : ∃ u, l[q]? = some u := ⟨_, List.getElem?_eq_getElem (by omega)⟩
            have hcu := HCell.out q u hu
            obtain ⟨u1, hu1⟩ : ∃ z, (⟨u.1.toArray⟩ : ByteArray) = z := ⟨_, rfl⟩
            rw [hu1] at hcu
            have s0 := Keeps.of_below HB.out _ _ hcu.1
            have hbl := World.block_lt_of_cell? _ _ s0
            simp only at hbl
            have HU := Lib.hid hu
            have HU1 := Lib.hid hu1
            clear hcu hu hu1
            by_cases hu0 : u.1 = []
            · have e1 := name_nil HU1.out hu0
              have HU0 := Lib.hid hu0
              clear hu0
              go_wp2_with fail
              go_roundw
              case rel =>
                refine ⟨q + 2, by omega, by go_num, HB6, fun i x z h1 h2 h3 h4 => ?_⟩
                rcases Nat.lt_succ_iff_lt_or_eq.1 h1 with h5 | h5
                · exact HIn.out i x z h5 h2 h3 h4
                · have : i = q := by omega
                  subst this
                  rw [HU.out] at h3
                  cases h3
                  exact HU0.out
              case measure => simp [intOf]; omega
            · have e1 := name_some HU1.out hu0
              have HE := Lib.hid (argsE_order HNot.out ⟨q, y, u, HY.out, HU.out, HY0.out, hu0⟩)
              clear hu0
              go_wp2_with fail
              go_ret
              exact ⟨ret_int (by rw [argsE2_small HBig.out, HE.out]), HB6.out⟩
          · have e0 := name_some HY1.out hy0
            have HY0 := Lib.hid hy0
            clear hy0
            go_wp2_with fail
            go_roundw
            case rel =>
              refine ⟨q + 2, by omega, by go_num, HB6, fun i x z h1 h2 h3 h4 => ?_⟩
              rcases Nat.lt_succ_iff_lt_or_eq.1 h1 with h5 | h5
              · exact HIn.out i x z h5 h2 h3 h4
              · have : i = q := by omega
                subst this
                rw [HY.out] at h2
                cases h2
                exact absurd h4 HY0.out
            case measure => simp [intOf]; omega
        · have HE := Lib.hid (argsE_ok HNot.out (fun ⟨i, x, y, h1, h2, h3, h4⟩ => h4 (HIn.out i x y (by have := (List.getElem?_eq_some_iff.1 h1).1; omega) h1 h2 h3)))
          clear HIn
          go_wp2_with fail
          go_ret
          exact ⟨ret_int (by rw [argsE2_small HBig.out, HE.out]), HB.out⟩

end Go.Proofs.Ytgbmlpidaeefoaa
