/-
  The places of outputs by path, and the map of bodies.
-/
import Derived.Test.YtogjhcmaapplgaaDoorEvPlain
import Derived.Test.YtogjhcmaapplgaaDoorOwn
namespace Go.Proofs.YtogjhcmaapplgaaDoor
open Go.RowKit Go.Deep

def outAtN (l : List OutV) (s : List UInt8) : Option Nat := l.findIdx? (fun o => o.path.data.toList == s)
def outAtI (l : List OutV) (s : List UInt8) : Int := match outAtN l s with | some i => (i : Int) | none => -1

theorem outAt_hit {l : List OutV} {s : List UInt8} {j : Nat} {x : OutV} (h : ∀ (i : Nat) (y : OutV), i < j → l[i]? = some y → y.path.data.toList ≠ s) (hx : l[j]? = some x) (hs : x.path.data.toList = s) : outAtN l s = some j := by
  obtain ⟨hj, rfl⟩ := List.getElem?_eq_some_iff.1 hx
  rw [outAtN, List.findIdx?_eq_some_iff_getElem]
  refine ⟨hj, by simpa using hs, fun i hi => ?_⟩
  have := h i l[i] hi (List.getElem?_eq_getElem (by omega))
  simpa using this
theorem outAt_miss {l : List OutV} {s : List UInt8} (h : ∀ (i : Nat) (y : OutV), l[i]? = some y → y.path.data.toList ≠ s) : outAtN l s = none := by
  rw [outAtN, List.findIdx?_eq_none_iff]
  intro x hx
  obtain ⟨i, hi⟩ := List.mem_iff_getElem?.1 hx
  simpa using h i x hi
theorem outAt_body {l : List OutV} {s : List UInt8} : bodyP l s = match outAtN l s with | some i => (l[i]?).map (·.body.data.toList) | none => none := by
  cases h : outAtN l s with
  | none =>
    rw [outAtN, List.findIdx?_eq_none_iff] at h
    rw [bodyP, List.find?_eq_none.2 (fun x hx => by simpa using h x hx)]; rfl
  | some i =>
    rw [outAtN, List.findIdx?_eq_some_iff_getElem] at h
    obtain ⟨h1, h2, h3⟩ := h
    rw [bodyP]
    simp only [List.getElem?_eq_getElem h1]
    have : l.find? (fun o => o.path.data.toList == s) = some l[i] := by
      rw [List.find?_eq_some_iff_getElem]
      exact ⟨h2, i, h1, rfl, fun j hj => by simpa using h3 j hj⟩
    rw [this]

theorem str_ne {a b : ByteArray} (h : a ≠ b) : (a.toList == b.toList) = false := by
  rw [Go.ByteArray.toList_eq, Go.ByteArray.toList_eq, beq_eq_false_iff_ne]
  exact fun he => h (Go.WideShapes.bytes_inj he)
theorem str_ne2 {a b : ByteArray} (h : a ≠ b) : (a.toList != b.toList) = true := by
  rw [bne, str_ne h]; rfl

set_option maxRecDepth 100000 in
set_option maxHeartbeats 2000000 in
theorem outAt_q (l : List OutV) (v : Value) (s : ByteArray) (n : Int) (w : World) (h : OutsAt w v l) (hn : outAtI l s.data.toList = n) :
    Calls Tryd.prog 12 #[v, .string s] w fun e w' => e = .returned (.int .i64 n) ∧ Below w.heap.size w w' := by
  have HL := Lib.hid h
  obtain ⟨A, c, b, o, rfl, hlc, hc, hA, hcell⟩ := h
  have HC := Lib.hid hcell; clear hcell
  have HA := Lib.hid hA; clear hA
  have HN := Lib.hid hn; clear hn
  obtain ⟨K, hK⟩ : ∃ K, w.heap.size = K := ⟨_, rfl⟩
  have HK := Lib.hid hK; clear hK
  rw [HK.out]
  unfold maxLen at hc
  go_enter Tryd.func12, Tryd.ntmps12
  go_wp2
  go_loopw [9] (fun t9 wr => ∃ j : Nat, j ≤ l.length ∧ t9 = .int .i64 j ∧ Hid (Below K w wr) ∧ Hid (∀ (i : Nat) (y : OutV), i < j → l[i]? = some y → y.path.data.toList ≠ s.data.toList)) (fun t _ => l.length - (intOf t).toNat)
  case atStart => exact ⟨0, Nat.zero_le _, rfl, Below.refl _ _, fun i y hi => absurd hi (by omega)⟩
  case round =>
    obtain ⟨j, hj, rfl, HB, HM⟩ := hrel
    by_cases hlt : j < l.length
    · obtain ⟨x, hx⟩ : ∃ x, l[j]? = some x := ⟨_, List.getElem?_eq_getElem hlt⟩
      obtain rfl : A = some ⟨b, o, none⟩ := HA.out (by intro h0; rw [h0] at hlt; simp at hlt)
      have kc := (HC.out j x hx).keep (Keeps.of_below (by have := HB.out; rw [← HK.out] at this; exact this))
      have k0 := kc.c0
      have k1 := kc.c1
      have HX := Lib.hid hx; clear hx kc
      by_cases hs : x.path = s
      · have HS := Lib.hid hs
        subst hs
        go_wp2
        go_ret
        refine ⟨?_, HB.out.alloc (by have := HB.out.size; have := HK.out; omega) _⟩
        show Ending.returned (.int .i64 (j : Int)) = _
        rw [← HN.out, outAtI, outAt_hit HM.out HX.out rfl]
      · have hs1 := str_ne hs
        go_wp2
        go_roundw
        case rel => exact ⟨j + 1, by omega, by go_num, HB.out.alloc (by have := HB.out.size; have := HK.out; omega) _, fun i y hi hy => by
          rcases Nat.lt_or_ge i j with h1 | h1
          · exact HM.out i y h1 hy
          · obtain rfl : i = j := by omega
            rw [HX.out] at hy
            cases hy
            exact fun he => hs (Go.WideShapes.bytes_inj he)⟩
        case measure => simp [intOf]; omega
    · go_wp2
      go_ret
      refine ⟨?_, HB.out⟩
      show Ending.returned (.int .i64 (-1)) = _
      rw [← HN.out, outAtI, outAt_miss (fun i y hy => HM.out i y (by have := (List.getElem?_eq_some_iff.1 hy).1; omega) hy)]

theorem ret_sb {a b : ByteArray} {x y : Bool} (h : a = b) (k : x = y) : Ending.returned (.tuple #[.string a, .bool x]) = .returned (.tuple #[.string b, .bool y]) := by rw [h, k]
def BodiesPost (l : List OutV) (w : World) (e : Ending) (w' : World) : Prop := ∃ bm : Nat, e = .returned (.map (some bm)) ∧ SMap Tryd.prog 9 9 w' bm l.length (mapF l) ∧ w.heap.size ≤ bm ∧ Below w.heap.size w w'
set_option maxRecDepth 100000 in
set_option maxHeartbeats 2000000 in
theorem bodies_q (l : List OutV) (v : Value) (w : World) (h : OutsAt w v l) (hz : ∀ x ∈ l, x.path.size ≤ 1048576 ∧ x.body.size ≤ 1048576) :
    Calls Tryd.prog 8 #[v] w (BodiesPost l w) := by
  obtain ⟨A, c, b, o, rfl, hlc, hc, hA, hcell⟩ := h
  have HC := Lib.hid hcell; clear hcell
  have HA := Lib.hid hA; clear hA
  have HZ := Lib.hid hz; clear hz
  obtain ⟨K, hK⟩ : ∃ K, w.heap.size = K := ⟨_, rfl⟩
  have HK := Lib.hid hK
  have HM0 := Lib.hid (show SMap Tryd.prog 9 9 (w.alloc (.map #[] 0)) K 0 (mapF (l.take 0)) by rw [← hK]; exact mapR_made w)
  have HB0 := Lib.hid (show Below K w (w.alloc (.map #[] 0)) from (Below.refl _ _).alloc (by omega) _)
  clear hK
  unfold maxLen at hc
  have hmm := @run_makeMap Tryd.prog
  go_enter Tryd.func8, Tryd.ntmps8
  go_wp2
  rw [HK.out]
  go_loopw [9] (fun t9 wr => ∃ j : Nat, j ≤ l.length ∧ t9 = .int .i64 j ∧ Hid (SMap Tryd.prog 9 9 wr K j (mapF (l.take j))) ∧ Hid (Below K w wr)) (fun t _ => l.length - (intOf t).toNat)
  case atStart => exact ⟨0, Nat.zero_le _, rfl, HM0, HB0⟩
  case round =>
    obtain ⟨j, hj, rfl, HM, HB⟩ := hrel
    by_cases hlt : j < l.length
    · obtain ⟨x, hx⟩ : ∃ x, l[j]? = some x := ⟨_, List.getElem?_eq_getElem hlt⟩
      obtain rfl : A = some ⟨b, o, none⟩ := HA.out (by intro h0; rw [h0] at hlt; simp at hlt)
      have kc := (HC.out j x hx).keep (Keeps.of_below (by have := HB.out; rw [← HK.out] at this; exact this))
      have k0 := kc.c0
      have k1 := kc.c1
      have HX := Lib.hid hx
      have HZ1 := Lib.hid (HZ.out x (List.mem_of_getElem? hx))
      have HS := Lib.hid (mapF_take hx)
      clear hx kc
      go_wp2_with (at_mapUpdate; go_must (refine wpList_storeR rfl _ _ _ 33 rfl Tryd.underlying9 Tryd.underlying33 (HM.out.alloc _) (by unfold maxLen; omega) rfl x.path (by have := HZ1.out; unfold maxLen; omega) _ x.body.data.toList rfl rfl (plainElem_string Tryd.underlying9 (by have := HZ1.out; unfold maxLen; omega)) ?_); intro w1 hm1 ht1; have HM1 := Lib.hid hm1; have HT1 := Lib.hid ht1; clear hm1 ht1)
      go_roundw
      case rel => exact ⟨j + 1, by omega, by go_num, by rw [HS.out]; exact HM1.out, (HB.out.alloc (by have := HM.out.lt; omega) _).trans (turned_below HT1.out (Nat.le_refl _) (by have := HM.out.lt; rw [World.size_alloc]; omega))⟩
      case measure => simp [intOf]; omega
    · obtain rfl : j = l.length := by omega
      go_wp2
      go_ret
      exact ⟨K, rfl, by have := HM.out; rw [List.take_length] at this; exact this, by have := HK.out; omega, by rw [HK.out]; exact HB.out⟩

end Go.Proofs.YtogjhcmaapplgaaDoor
