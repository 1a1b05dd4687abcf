/-
  Items of a table: page.item, mastref1.ItemOf.
-/
import Derived.Test.YtebhbgamdhjdkaaDoorFacts
namespace Go.Proofs.YtebhbgamdhjdkaaDoor
open Go.RowKit Go.Deep

/-- an item of a table -/
def itemV (v : Val) (key : ByteArray) : Val := factO (v.keys.zip v.items) key

set_option maxRecDepth 100000 in
set_option maxHeartbeats 4000000 in
theorem item_q (v : Val) (va : Value) (key : ByteArray) (r : Val) (w : World) (h : ValIn w AnyB va v) (hr : itemV v key = r) : Calls Tryd.prog 27 #[va, .string key] w (ValPostF r w) := by
  obtain ⟨iv, kv, rfl, ⟨ok1, ok2, ok3⟩, hi, hk⟩ := h
  obtain ⟨kA, kc, kb, ko, rfl, hklc, hkc, hkA, hkel⟩ := hk
  obtain ⟨iA, ic, ib, io, iv2, kv2, rfl, hilc, hic, hiA, hcell, hitems, hkeys⟩ := hi.inv
  unfold maxLen at hkc hic
  have hk63 := hkc
  have hi63 := hic
  have HI := Lib.hid hitems; clear hitems
  have HY := Lib.hid hkeys; clear hkeys
  have HC := Lib.hid hcell; clear hcell
  have HE := Lib.hid hkel; clear hkel
  have HA := Lib.hid hkA; clear hkA
  have HB := Lib.hid hiA; clear hiA
  have HR := Lib.hid hr; clear hr
  clear hi
  unfold valAgg
  go_enter Tryd.func27, Tryd.ntmps27
  go_wp2_with fail
  obtain ⟨w2, hw2⟩ : ∃ w2, (w.alloc (.cells #[.int .i64 v.kind, .bool v.flag, .int .i64 v.num, .string v.text, .slice iA v.items.length ic, .slice kA v.keys.length kc] 35)).alloc (.cells #[.int .i64 0, .bool false, .int .i64 0, .string ⟨#[]⟩, .slice none 0 0, .slice none 0 0] 35) = w2 := ⟨_, rfl⟩
  have HZ2 := Lib.hid (show CB w2 (w.heap.size + 1) 35 (valC valZ (.slice none 0 0) (.slice none 0 0)) by rw [← hw2, show w.heap.size + 1 = (w.alloc (.cells #[.int .i64 v.kind, .bool v.flag, .int .i64 v.num, .string v.text, .slice iA v.items.length ic, .slice kA v.keys.length kc] 35)).heap.size from (Array.size_push _).symm]; exact CB.new _ _ _)
  have HP2 := Lib.hid (show CB w2 w.heap.size 35 (valC v (.slice iA v.items.length ic) (.slice kA v.keys.length kc)) by rw [← hw2]; exact (CB.new w _ _).alloc _)
  have HB2 := Lib.hid (show Below w.heap.size w w2 by rw [← hw2]; exact ((Below.refl _ _).alloc (Nat.le_refl _) _).alloc (by show w.heap.size ≤ (w.heap.push _).size; rw [Array.size_push]; omega) _)
  rw [hw2]
  clear hw2
  obtain ⟨p, hp⟩ : ∃ p, w.heap.size = p := ⟨_, rfl⟩
  rw [hp] at HZ2 HP2
  rw [hp]
  have hnw : w.heap.size ≤ p + 1 := by omega
  clear hp
  go_loopw [10] (fun t wr => ∃ k : Nat, k ≤ v.keys.length ∧ t = .int .i64 k ∧ Hid (CB wr (p + 1) 35 (valC valZ (.slice none 0 0) (.slice none 0 0))) ∧ Hid (CB wr p 35 (valC v (.slice iA v.items.length ic) (.slice kA v.keys.length kc))) ∧ Hid (Below w.heap.size w wr) ∧ Hid (∀ (j : Nat) (y : ByteArray × Val), (v.keys.zip v.items)[j]? = some y → j < k → (y.1.toList == key.toList) = false)) (fun t _ => v.keys.length - (intOf t).toNat)
  case atStart => exact ⟨0, Nat.zero_le _, rfl, HZ2, HP2, HB2, fun j y _ h => absurd h (by omega)⟩
  case round =>
    clear HZ2 HP2 HB2
    obtain ⟨k, hk, rfl, HZ, HP, HB', HAll⟩ := hrel
    have HB0 := HB; clear HB
    have HB := HB'; clear HB'
    have hnl := HZ.out.lt
    have hnp := HP.out.lt
    have hbs := HB.out.size
    by_cases hlt : k < v.keys.length
    · have hA2 := (HA.out (by intro e; rw [e] at hlt; simp at hlt)).1
      subst hA2
      obtain ⟨s, hs⟩ : ∃ s, v.keys[k]? = some s := ⟨_, List.getElem?_eq_getElem hlt⟩
      have x0 := Keeps.of_below HB.out _ _ (HE.out k s hs).1
      have HX0 := Lib.hid hs
      clear hs
      have pc4 := HP.out.c 4
      have pf4 := HP.out.f 4
      have psh := HP.out.sh
      simp only [valC] at pc4 psh
      cases hq : (s.toList == key.toList)
      · have HAll2 := Lib.hid (show (∀ (j : Nat) (y : ByteArray × Val), (v.keys.zip v.items)[j]? = some y → j < k + 1 → (y.1.toList == key.toList) = false) by
          intro j y h3 h4
          rcases Nat.lt_succ_iff_lt_or_eq.1 h4 with h5 | rfl
          · exact HAll.out j y h3 h5
          · have h6 := (List.getElem?_zip_eq_some.1 h3).1
            rw [HX0.out] at h6
            cases h6
            exact hq)
        go_wp2_with fail
        go_roundw
        case rel => exact ⟨k + 1, by omega, by go_num, HZ, HP, HB, HAll2⟩
        case measure => simp [intOf]; omega
      · by_cases hil : k < v.items.length
        · have hA3 := (HB0.out (by intro e; rw [e] at hil; simp at hil)).1
          subst hA3
          obtain ⟨x, hx⟩ : ∃ x, v.items[k]? = some x := ⟨_, List.getElem?_eq_getElem hil⟩
          have q2 : ValIn w AnyB (valAgg x (iv2 k) (kv2 k)) x := ⟨_, _, rfl, (HC.out k x hx).2, HI.out k x hx, HY.out k x hx⟩
          have q1 := (HC.out k x hx).1
          obtain ⟨⟨A1, c1, e1⟩, ⟨A2, c2, e2⟩⟩ := q2.form
          rw [e1, e2] at q1 q2
          obtain ⟨x1, x2, x3, x4, x5, x6⟩ := q1.keep (Keeps.of_below HB.out)
          have HQ := Lib.hid q2
          have HX := Lib.hid (HR.out.symm.trans (factO_at (x := (s, x)) (List.getElem?_zip_eq_some.2 ⟨HX0.out, hx⟩) hq HAll.out))
          clear q1 q2 e1 e2 hx
          have zc0 := HZ.out.c 0
          have zf0 := HZ.out.f 0
          have zc1 := HZ.out.c 1
          have zf1 := HZ.out.f 1
          have zc2 := HZ.out.c 2
          have zf2 := HZ.out.f 2
          have zc3 := HZ.out.c 3
          have zf3 := HZ.out.f 3
          have zc4 := HZ.out.c 4
          have zf4 := HZ.out.f 4
          have zc5 := HZ.out.c 5
          have zf5 := HZ.out.f 5
          have zsh := HZ.out.sh
          simp only [valC, valZ, Val.kind, Val.flag, Val.num, Val.text] at zc0 zc1 zc2 zc3 zc4 zc5 zsh
          go_wp2_with fail
          (try simp only [Exit.inBlock, Exit.then])
          rw [HX.out]
          exact val_fin (n := p + 1) (x := x) (A1 := A1) (c1 := c1) (A2 := A2) (c2 := c2) rfl ((((((HZ.out.put 0 _).put 1 _).put 2 _).put 3 _).put 4 _).put 5 _) rfl rfl (((((((HB.out).setCell (p := ⟨p + 1, _, none⟩) hnw _).setCell (p := ⟨p + 1, _, none⟩) hnw _).setCell (p := ⟨p + 1, _, none⟩) hnw _).setCell (p := ⟨p + 1, _, none⟩) hnw _).setCell (p := ⟨p + 1, _, none⟩) hnw _).setCell (p := ⟨p + 1, _, none⟩) hnw _) HQ.out
        · have HX := Lib.hid (HR.out.symm.trans (factO_none (fun j y h3 => HAll.out j y h3 (by have := (List.getElem?_eq_some_iff.1 (List.getElem?_zip_eq_some.1 h3).2).1; omega))))
          have zc0 := HZ.out.c 0
          have zf0 := HZ.out.f 0
          have zc1 := HZ.out.c 1
          have zf1 := HZ.out.f 1
          have zc2 := HZ.out.c 2
          have zf2 := HZ.out.f 2
          have zc3 := HZ.out.c 3
          have zf3 := HZ.out.f 3
          have zc4 := HZ.out.c 4
          have zf4 := HZ.out.f 4
          have zc5 := HZ.out.c 5
          have zf5 := HZ.out.f 5
          have zsh := HZ.out.sh
          simp only [valC, valZ, Val.kind, Val.flag, Val.num, Val.text] at zc0 zc1 zc2 zc3 zc4 zc5 zsh
          go_wp2_with fail
          (try simp only [Exit.inBlock, Exit.then])
          rw [HX.out]
          exact val_fin (n := p + 1) rfl ((((((HZ.out.put 0 _).put 1 _).put 2 _).put 3 _).put 4 _).put 5 _) rfl rfl (((((((HB.out).setCell (p := ⟨p + 1, _, none⟩) hnw _).setCell (p := ⟨p + 1, _, none⟩) hnw _).setCell (p := ⟨p + 1, _, none⟩) hnw _).setCell (p := ⟨p + 1, _, none⟩) hnw _).setCell (p := ⟨p + 1, _, none⟩) hnw _).setCell (p := ⟨p + 1, _, none⟩) hnw _) (valZ_in _)
    · have HX := Lib.hid (HR.out.symm.trans (factO_none (fun j y h3 => HAll.out j y h3 (by have := (List.getElem?_eq_some_iff.1 (List.getElem?_zip_eq_some.1 h3).1).1; omega))))
      have zc0 := HZ.out.c 0
      have zf0 := HZ.out.f 0
      have zc1 := HZ.out.c 1
      have zf1 := HZ.out.f 1
      have zc2 := HZ.out.c 2
      have zf2 := HZ.out.f 2
      have zc3 := HZ.out.c 3
      have zf3 := HZ.out.f 3
      have zc4 := HZ.out.c 4
      have zf4 := HZ.out.f 4
      have zc5 := HZ.out.c 5
      have zf5 := HZ.out.f 5
      have zsh := HZ.out.sh
      simp only [valC, valZ, Val.kind, Val.flag, Val.num, Val.text] at zc0 zc1 zc2 zc3 zc4 zc5 zsh
      go_wp2_with fail
      (try simp only [Exit.inBlock, Exit.then])
      rw [HX.out]
      exact val_fin (n := p + 1) rfl ((((((HZ.out.put 0 _).put 1 _).put 2 _).put 3 _).put 4 _).put 5 _) rfl rfl (((((((HB.out).setCell (p := ⟨p + 1, _, none⟩) hnw _).setCell (p := ⟨p + 1, _, none⟩) hnw _).setCell (p := ⟨p + 1, _, none⟩) hnw _).setCell (p := ⟨p + 1, _, none⟩) hnw _).setCell (p := ⟨p + 1, _, none⟩) hnw _).setCell (p := ⟨p + 1, _, none⟩) hnw _) (valZ_in _)

set_option maxRecDepth 100000 in
set_option maxHeartbeats 4000000 in
theorem itemOf_q (v : Val) (va : Value) (key : ByteArray) (r : Val) (w : World) (h : ValIn w AnyB va v) (hr : itemV v key = r) : Calls Tryd.prog 30 #[va, .string key] w (ValPostF r w) := by
  obtain ⟨iv, kv, rfl, ⟨ok1, ok2, ok3⟩, hi, hk⟩ := h
  obtain ⟨kA, kc, kb, ko, rfl, hklc, hkc, hkA, hkel⟩ := hk
  obtain ⟨iA, ic, ib, io, iv2, kv2, rfl, hilc, hic, hiA, hcell, hitems, hkeys⟩ := hi.inv
  unfold maxLen at hkc hic
  have hk63 := hkc
  have hi63 := hic
  have HI := Lib.hid hitems; clear hitems
  have HY := Lib.hid hkeys; clear hkeys
  have HC := Lib.hid hcell; clear hcell
  have HE := Lib.hid hkel; clear hkel
  have HA := Lib.hid hkA; clear hkA
  have HB := Lib.hid hiA; clear hiA
  have HR := Lib.hid hr; clear hr
  clear hi
  unfold valAgg
  go_enter Tryd.func30, Tryd.ntmps30
  go_wp2_with fail
  obtain ⟨w2, hw2⟩ : ∃ w2, (w.alloc (.cells #[.int .i64 v.kind, .bool v.flag, .int .i64 v.num, .string v.text, .slice iA v.items.length ic, .slice kA v.keys.length kc] 35)).alloc (.cells #[.int .i64 0, .bool false, .int .i64 0, .string ⟨#[]⟩, .slice none 0 0, .slice none 0 0] 35) = w2 := ⟨_, rfl⟩
  have HZ2 := Lib.hid (show CB w2 (w.heap.size + 1) 35 (valC valZ (.slice none 0 0) (.slice none 0 0)) by rw [← hw2, show w.heap.size + 1 = (w.alloc (.cells #[.int .i64 v.kind, .bool v.flag, .int .i64 v.num, .string v.text, .slice iA v.items.length ic, .slice kA v.keys.length kc] 35)).heap.size from (Array.size_push _).symm]; exact CB.new _ _ _)
  have HP2 := Lib.hid (show CB w2 w.heap.size 35 (valC v (.slice iA v.items.length ic) (.slice kA v.keys.length kc)) by rw [← hw2]; exact (CB.new w _ _).alloc _)
  have HB2 := Lib.hid (show Below w.heap.size w w2 by rw [← hw2]; exact ((Below.refl _ _).alloc (Nat.le_refl _) _).alloc (by show w.heap.size ≤ (w.heap.push _).size; rw [Array.size_push]; omega) _)
  rw [hw2]
  clear hw2
  obtain ⟨p, hp⟩ : ∃ p, w.heap.size = p := ⟨_, rfl⟩
  rw [hp] at HZ2 HP2
  rw [hp]
  have hnw : w.heap.size ≤ p + 1 := by omega
  clear hp
  go_loopw [10] (fun t wr => ∃ k : Nat, k ≤ v.keys.length ∧ t = .int .i64 k ∧ Hid (CB wr (p + 1) 35 (valC valZ (.slice none 0 0) (.slice none 0 0))) ∧ Hid (CB wr p 35 (valC v (.slice iA v.items.length ic) (.slice kA v.keys.length kc))) ∧ Hid (Below w.heap.size w wr) ∧ Hid (∀ (j : Nat) (y : ByteArray × Val), (v.keys.zip v.items)[j]? = some y → j < k → (y.1.toList == key.toList) = false)) (fun t _ => v.keys.length - (intOf t).toNat)
  case atStart => exact ⟨0, Nat.zero_le _, rfl, HZ2, HP2, HB2, fun j y _ h => absurd h (by omega)⟩
  case round =>
    clear HZ2 HP2 HB2
    obtain ⟨k, hk, rfl, HZ, HP, HB', HAll⟩ := hrel
    have HB0 := HB; clear HB
    have HB := HB'; clear HB'
    have hnl := HZ.out.lt
    have hnp := HP.out.lt
    have hbs := HB.out.size
    by_cases hlt : k < v.keys.length
    · have hA2 := (HA.out (by intro e; rw [e] at hlt; simp at hlt)).1
      subst hA2
      obtain ⟨s, hs⟩ : ∃ s, v.keys[k]? = some s := ⟨_, List.getElem?_eq_getElem hlt⟩
      have x0 := Keeps.of_below HB.out _ _ (HE.out k s hs).1
      have HX0 := Lib.hid hs
      clear hs
      have pc4 := HP.out.c 4
      have pf4 := HP.out.f 4
      have psh := HP.out.sh
      simp only [valC] at pc4 psh
      cases hq : (s.toList == key.toList)
      · have HAll2 := Lib.hid (show (∀ (j : Nat) (y : ByteArray × Val), (v.keys.zip v.items)[j]? = some y → j < k + 1 → (y.1.toList == key.toList) = false) by
          intro j y h3 h4
          rcases Nat.lt_succ_iff_lt_or_eq.1 h4 with h5 | rfl
          · exact HAll.out j y h3 h5
          · have h6 := (List.getElem?_zip_eq_some.1 h3).1
            rw [HX0.out] at h6
            cases h6
            exact hq)
        go_wp2_with fail
        go_roundw
        case rel => exact ⟨k + 1, by omega, by go_num, HZ, HP, HB, HAll2⟩
        case measure => simp [intOf]; omega
      · by_cases hil : k < v.items.length
        · have hA3 := (HB0.out (by intro e; rw [e] at hil; simp at hil)).1
          subst hA3
          obtain ⟨x, hx⟩ : ∃ x, v.items[k]? = some x := ⟨_, List.getElem?_eq_getElem hil⟩
          have q2 : ValIn w AnyB (valAgg x (iv2 k) (kv2 k)) x := ⟨_, _, rfl, (HC.out k x hx).2, HI.out k x hx, HY.out k x hx⟩
          have q1 := (HC.out k x hx).1
          obtain ⟨⟨A1, c1, e1⟩, ⟨A2, c2, e2⟩⟩ := q2.form
          rw [e1, e2] at q1 q2
          obtain ⟨x1, x2, x3, x4, x5, x6⟩ := q1.keep (Keeps.of_below HB.out)
          have HQ := Lib.hid q2
          have HX := Lib.hid (HR.out.symm.trans (factO_at (x := (s, x)) (List.getElem?_zip_eq_some.2 ⟨HX0.out, hx⟩) hq HAll.out))
          clear q1 q2 e1 e2 hx
          have zc0 := HZ.out.c 0
          have zf0 := HZ.out.f 0
          have zc1 := HZ.out.c 1
          have zf1 := HZ.out.f 1
          have zc2 := HZ.out.c 2
          have zf2 := HZ.out.f 2
          have zc3 := HZ.out.c 3
          have zf3 := HZ.out.f 3
          have zc4 := HZ.out.c 4
          have zf4 := HZ.out.f 4
          have zc5 := HZ.out.c 5
          have zf5 := HZ.out.f 5
          have zsh := HZ.out.sh
          simp only [valC, valZ, Val.kind, Val.flag, Val.num, Val.text] at zc0 zc1 zc2 zc3 zc4 zc5 zsh
          go_wp2_with fail
          (try simp only [Exit.inBlock, Exit.then])
          rw [HX.out]
          exact val_fin (n := p + 1) (x := x) (A1 := A1) (c1 := c1) (A2 := A2) (c2 := c2) rfl ((((((HZ.out.put 0 _).put 1 _).put 2 _).put 3 _).put 4 _).put 5 _) rfl rfl (((((((HB.out).setCell (p := ⟨p + 1, _, none⟩) hnw _).setCell (p := ⟨p + 1, _, none⟩) hnw _).setCell (p := ⟨p + 1, _, none⟩) hnw _).setCell (p := ⟨p + 1, _, none⟩) hnw _).setCell (p := ⟨p + 1, _, none⟩) hnw _).setCell (p := ⟨p + 1, _, none⟩) hnw _) HQ.out
        · have HAll2 := Lib.hid (show (∀ (j : Nat) (y : ByteArray × Val), (v.keys.zip v.items)[j]? = some y → j < k + 1 → (y.1.toList == key.toList) = false) by
            intro j y h3 h4
            have h6 := (List.getElem?_eq_some_iff.1 (List.getElem?_zip_eq_some.1 h3).2).1
            exact HAll.out j y h3 (by omega))
          go_wp2_with fail
          go_roundw
          case rel => exact ⟨k + 1, by omega, by go_num, HZ, HP, HB, HAll2⟩
          case measure => simp [intOf]; omega
    · have HX := Lib.hid (HR.out.symm.trans (factO_none (fun j y h3 => HAll.out j y h3 (by have := (List.getElem?_eq_some_iff.1 (List.getElem?_zip_eq_some.1 h3).1).1; omega))))
      have zc0 := HZ.out.c 0
      have zf0 := HZ.out.f 0
      have zc1 := HZ.out.c 1
      have zf1 := HZ.out.f 1
      have zc2 := HZ.out.c 2
      have zf2 := HZ.out.f 2
      have zc3 := HZ.out.c 3
      have zf3 := HZ.out.f 3
      have zc4 := HZ.out.c 4
      have zf4 := HZ.out.f 4
      have zc5 := HZ.out.c 5
      have zf5 := HZ.out.f 5
      have zsh := HZ.out.sh
      simp only [valC, valZ, Val.kind, Val.flag, Val.num, Val.text] at zc0 zc1 zc2 zc3 zc4 zc5 zsh
      go_wp2_with fail
      (try simp only [Exit.inBlock, Exit.then])
      rw [HX.out]
      exact val_fin (n := p + 1) rfl ((((((HZ.out.put 0 _).put 1 _).put 2 _).put 3 _).put 4 _).put 5 _) rfl rfl (((((((HB.out).setCell (p := ⟨p + 1, _, none⟩) hnw _).setCell (p := ⟨p + 1, _, none⟩) hnw _).setCell (p := ⟨p + 1, _, none⟩) hnw _).setCell (p := ⟨p + 1, _, none⟩) hnw _).setCell (p := ⟨p + 1, _, none⟩) hnw _).setCell (p := ⟨p + 1, _, none⟩) hnw _) (valZ_in _)

end Go.Proofs.YtebhbgamdhjdkaaDoor
