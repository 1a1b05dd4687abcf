/-
  mastref1.refers: the pages to which each page leads.
-/
import Derived.Test.YtbhildmalcfhiaaGreatDoorEvPlain
import Derived.Test.YtbhildmalcfhiaaGreatDoorOwn
import Derived.Test.YtbhildmalcfhiaaGreatDoorBase
import Derived.Test.YtbhildmalcfhiaaGreatDoorBox
import Derived.Laws.OwnMore
import Derived.OwnWalk
import Derived.BigGuardPart
import Derived.Test.YtbhildmalcfhiaaGreatDoorLkTop
import Derived.Test.YtbhildmalcfhiaaGreatDoorPlRefs
namespace Go.Proofs.YtbhildmalcfhiaaGreatDoor
open Go.RowKit Go.Deep

def outAtN (l : List OutV) (s : List UInt8) : Option Nat := l.findIdx? (fun o => o.path.data.toList == s)
def outAtI (l : List OutV) (s : List UInt8) : Int := match outAtN l s with | some i => (i : Int) | none => -1

theorem outAt_hit {l : List OutV} {s : List UInt8} {j : Nat} {x : OutV} (h : ∀ (i : Nat) (y : OutV), i < j → l[i]? = some y → y.path.data.toList ≠ s) (hx : l[j]? = some x) (hs : x.path.data.toList = s) : outAtN l s = some j := by
  obtain ⟨hj, rfl⟩ := List.getElem?_eq_some_iff.1 hx
  rw [outAtN, List.findIdx?_eq_some_iff_getElem]
  refine ⟨hj, by simpa using hs, fun i hi => ?_⟩
  have := h i l[i] hi (List.getElem?_eq_getElem (by omega))
  simpa using this
theorem outAt_miss {l : List OutV} {s : List UInt8} (h : ∀ (i : Nat) (y : OutV), l[i]? = some y → y.path.data.toList ≠ s) : outAtN l s = none := by
  rw [outAtN, List.findIdx?_eq_none_iff]
  intro x hx
  obtain ⟨i, hi⟩ := List.mem_iff_getElem?.1 hx
  simpa using h i x hi
theorem outAt_body {l : List OutV} {s : List UInt8} : bodyP l s = match outAtN l s with | some i => (l[i]?).map (·.body.data.toList) | none => none := by
  cases h : outAtN l s with
  | none =>
    rw [outAtN, List.findIdx?_eq_none_iff] at h
    rw [bodyP, List.find?_eq_none.2 (fun x hx => by simpa using h x hx)]; rfl
  | some i =>
    rw [outAtN, List.findIdx?_eq_some_iff_getElem] at h
    obtain ⟨h1, h2, h3⟩ := h
    rw [bodyP]
    simp only [List.getElem?_eq_getElem h1]
    have : l.find? (fun o => o.path.data.toList == s) = some l[i] := by
      rw [List.find?_eq_some_iff_getElem]
      exact ⟨h2, i, h1, rfl, fun j hj => by simpa using h3 j hj⟩
    rw [this]

theorem str_ne {a b : ByteArray} (h : a ≠ b) : (a.toList == b.toList) = false := by
  rw [Go.ByteArray.toList_eq, Go.ByteArray.toList_eq, beq_eq_false_iff_ne]
  exact fun he => h (Go.WideShapes.bytes_inj he)
theorem str_ne2 {a b : ByteArray} (h : a ≠ b) : (a.toList != b.toList) = true := by
  rw [bne, str_ne h]; rfl

set_option maxRecDepth 100000 in
set_option maxHeartbeats 2000000 in
theorem outAt_q (l : List OutV) (v : Value) (s : ByteArray) (n : Int) (w : World) (h : OutsAt w v l) (hn : outAtI l s.data.toList = n) :
    Calls Tryz.prog 42 #[v, .string s] w fun e w' => e = .returned (.int .i64 n) ∧ Below w.heap.size w w' := by
  have HL := Lib.hid h
  obtain ⟨A, c, b, o, rfl, hlc, hc, hA, hcell⟩ := h
  have HC := Lib.hid hcell; clear hcell
  have HA := Lib.hid hA; clear hA
  have HN := Lib.hid hn; clear hn
  obtain ⟨K, hK⟩ : ∃ K, w.heap.size = K := ⟨_, rfl⟩
  have HK := Lib.hid hK; clear hK
  rw [HK.out]
  unfold maxLen at hc
  go_enter Tryz.func42, Tryz.ntmps42
  go_wp2
  go_loopw [9] (fun t9 wr => ∃ j : Nat, j ≤ l.length ∧ t9 = .int .i64 j ∧ Hid (Below K w wr) ∧ Hid (∀ (i : Nat) (y : OutV), i < j → l[i]? = some y → y.path.data.toList ≠ s.data.toList)) (fun t _ => l.length - (intOf t).toNat)
  case atStart => exact ⟨0, Nat.zero_le _, rfl, Below.refl _ _, fun i y hi => absurd hi (by omega)⟩
  case round =>
    obtain ⟨j, hj, rfl, HB, HM⟩ := hrel
    by_cases hlt : j < l.length
    · obtain ⟨x, hx⟩ : ∃ x, l[j]? = some x := ⟨_, List.getElem?_eq_getElem hlt⟩
      obtain rfl : A = some ⟨b, o, none⟩ := HA.out (by intro h0; rw [h0] at hlt; simp at hlt)
      have kc := (HC.out j x hx).keep (Keeps.of_below (by have := HB.out; rw [← HK.out] at this; exact this))
      have k0 := kc.c0
      have k1 := kc.c1
      have HX := Lib.hid hx; clear hx kc
      by_cases hs : x.path = s
      · have HS := Lib.hid hs
        subst hs
        go_wp2
        go_ret
        refine ⟨?_, HB.out.alloc (by have := HB.out.size; have := HK.out; omega) _⟩
        show Ending.returned (.int .i64 (j : Int)) = _
        rw [← HN.out, outAtI, outAt_hit HM.out HX.out rfl]
      · have hs1 := str_ne hs
        go_wp2
        go_roundw
        case rel => exact ⟨j + 1, by omega, by go_num, HB.out.alloc (by have := HB.out.size; have := HK.out; omega) _, fun i y hi hy => by
          rcases Nat.lt_or_ge i j with h1 | h1
          · exact HM.out i y h1 hy
          · obtain rfl : i = j := by omega
            rw [HX.out] at hy
            cases hy
            exact fun he => hs (Go.WideShapes.bytes_inj he)⟩
        case measure => simp [intOf]; omega
    · go_wp2
      go_ret
      refine ⟨?_, HB.out⟩
      show Ending.returned (.int .i64 (-1)) = _
      rw [← HN.out, outAtI, outAt_miss (fun i y hy => HM.out i y (by have := (List.getElem?_eq_some_iff.1 hy).1; omega) hy)]

theorem ret_sb {a b : ByteArray} {x y : Bool} (h : a = b) (k : x = y) : Ending.returned (.tuple #[.string a, .bool x]) = .returned (.tuple #[.string b, .bool y]) := by rw [h, k]
set_option maxRecDepth 100000 in
set_option maxHeartbeats 2000000 in
theorem bodyOf_q (l : List OutV) (v : Value) (s : ByteArray) (w : World) (h : OutsAt w v l) :
    Calls Tryz.prog 44 #[v, .string s] w fun e w' => e = .returned (.tuple #[.string (str0 ((bodyP l s.data.toList).getD [])), .bool (bodyP l s.data.toList).isSome]) ∧ Below w.heap.size w w' := by
  have HL := Lib.hid h
  have HE := Lib.hid (outAt_body (l := l) (s := s.data.toList))
  cases ho : outAtN l s.data.toList with
  | none =>
    have HN := Lib.hid (show outAtI l s.data.toList = -1 by rw [outAtI, ho])
    have HB := Lib.hid (show bodyP l s.data.toList = none by rw [HE.out, ho])
    clear ho h
    go_enter Tryz.func44, Tryz.ntmps44
    go_wp2_with (go_at_call 42; go_must (refine (outAt_q l v s (-1) _ HL.out HN.out).mono ?_); rintro e w1 ⟨rfl, hb⟩; have HB1 := Lib.hid hb; clear hb)
    go_ret2
    exact ⟨ret_sb (by rw [HB.out]; rfl) (by rw [HB.out]; rfl), HB1.out⟩
  | some i =>
    have hi := ho
    rw [outAtN, List.findIdx?_eq_some_iff_getElem] at hi
    obtain ⟨hi, _⟩ := hi
    have HN := Lib.hid (show outAtI l s.data.toList = (i : Int) by rw [outAtI, ho])
    obtain ⟨x, hx⟩ : ∃ x, l[i]? = some x := ⟨_, List.getElem?_eq_getElem hi⟩
    have HB := Lib.hid (show bodyP l s.data.toList = some x.body.data.toList by rw [HE.out, ho]; simp only [hx]; rfl)
    obtain ⟨A, c, b, o, rfl, hlc, hc, hA, hcell⟩ := h
    obtain rfl := hA (by intro h0; rw [h0] at hi; simp at hi)
    have kc := Lib.hid (hcell i x hx)
    unfold maxLen at hc
    clear ho hA hcell hx
    have hi1 : (i : Int) < (l.length : Int) := by omega
    have hi0 : (0 : Int) ≤ (i : Int) := by omega
    go_enter Tryz.func44, Tryz.ntmps44
    go_wp2_with (go_at_call 42; go_must (refine (outAt_q l _ s (i : Int) _ HL.out HN.out).mono ?_); rintro e w1 ⟨rfl, hb⟩; have HB1 := Lib.hid hb; clear hb; have k1 := (kc.out.keep (Keeps.of_below HB1.out)).c1)
    go_ret2
    exact ⟨ret_sb (by rw [HB.out]; rfl) (by rw [HB.out]; rfl), HB1.out⟩

def BodiesPost (l : List OutV) (w : World) (e : Ending) (w' : World) : Prop := ∃ bm : Nat, e = .returned (.map (some bm)) ∧ SMap Tryz.prog 9 9 w' bm l.length (mapF l) ∧ w.heap.size ≤ bm ∧ Below w.heap.size w w'
set_option maxRecDepth 100000 in
set_option maxHeartbeats 2000000 in
theorem bodies_q (l : List OutV) (v : Value) (w : World) (h : OutsAt w v l) (hz : ∀ x ∈ l, x.path.size ≤ 1048576 ∧ x.body.size ≤ 1048576) :
    Calls Tryz.prog 37 #[v] w (BodiesPost l w) := by
  obtain ⟨A, c, b, o, rfl, hlc, hc, hA, hcell⟩ := h
  have HC := Lib.hid hcell; clear hcell
  have HA := Lib.hid hA; clear hA
  have HZ := Lib.hid hz; clear hz
  obtain ⟨K, hK⟩ : ∃ K, w.heap.size = K := ⟨_, rfl⟩
  have HK := Lib.hid hK
  have HM0 := Lib.hid (show SMap Tryz.prog 9 9 (w.alloc (.map #[] 0)) K 0 (mapF (l.take 0)) by rw [← hK]; exact mapR_made w)
  have HB0 := Lib.hid (show Below K w (w.alloc (.map #[] 0)) from (Below.refl _ _).alloc (by omega) _)
  clear hK
  unfold maxLen at hc
  have hmm := @run_makeMap Tryz.prog
  go_enter Tryz.func37, Tryz.ntmps37
  go_wp2
  rw [HK.out]
  go_loopw [9] (fun t9 wr => ∃ j : Nat, j ≤ l.length ∧ t9 = .int .i64 j ∧ Hid (SMap Tryz.prog 9 9 wr K j (mapF (l.take j))) ∧ Hid (Below K w wr)) (fun t _ => l.length - (intOf t).toNat)
  case atStart => exact ⟨0, Nat.zero_le _, rfl, HM0, HB0⟩
  case round =>
    obtain ⟨j, hj, rfl, HM, HB⟩ := hrel
    by_cases hlt : j < l.length
    · obtain ⟨x, hx⟩ : ∃ x, l[j]? = some x := ⟨_, List.getElem?_eq_getElem hlt⟩
      obtain rfl : A = some ⟨b, o, none⟩ := HA.out (by intro h0; rw [h0] at hlt; simp at hlt)
      have kc := (HC.out j x hx).keep (Keeps.of_below (by have := HB.out; rw [← HK.out] at this; exact this))
      have k0 := kc.c0
      have k1 := kc.c1
      have HX := Lib.hid hx
      have HZ1 := Lib.hid (HZ.out x (List.mem_of_getElem? hx))
      have HS := Lib.hid (mapF_take hx)
      clear hx kc
      go_wp2_with (at_mapUpdate; go_must (refine wpList_storeR rfl _ _ _ 75 rfl Tryz.underlying9 Tryz.underlying75 (HM.out.alloc _) (by unfold maxLen; omega) rfl x.path (by have := HZ1.out; unfold maxLen; omega) _ x.body.data.toList rfl rfl (plainElem_string Tryz.underlying9 (by have := HZ1.out; unfold maxLen; omega)) ?_); intro w1 hm1 ht1; have HM1 := Lib.hid hm1; have HT1 := Lib.hid ht1; clear hm1 ht1)
      go_roundw
      case rel => exact ⟨j + 1, by omega, by go_num, by rw [HS.out]; exact HM1.out, (HB.out.alloc (by have := HM.out.lt; omega) _).trans (turned_below HT1.out (Nat.le_refl _) (by have := HM.out.lt; rw [World.size_alloc]; omega))⟩
      case measure => simp [intOf]; omega
    · obtain rfl : j = l.length := by omega
      go_wp2
      go_ret
      exact ⟨K, rfl, by have := HM.out; rw [List.take_length] at this; exact this, by have := HK.out; omega, by rw [HK.out]; exact HB.out⟩

end Go.Proofs.YtbhildmalcfhiaaGreatDoor

namespace Go.Proofs.YtbhildmalcfhiaaGreatDoor

/-- what is reached from page i by references into what is left -/
inductive Reach (tgt : Nat → List Nat) (left : Nat → Bool) (i : Nat) : Nat → Prop
  | here : Reach tgt left i i
  | step {k n : Nat} : Reach tgt left i k → n ∈ tgt k → left n = true → Reach tgt left i n
section
variable {tgt : Nat → List Nat} {left : Nat → Bool}
theorem Reach.trans {i j : Nat} (h : Reach tgt left i j) {k : Nat} (h2 : Reach tgt left j k) : Reach tgt left i k := by
  induction h2 with
  | here => exact h
  | step _ hn hl ih => exact .step ih hn hl
theorem Reach.isLeft {i k : Nat} (hi : left i = true) (h : Reach tgt left i k) : left k = true := by
  cases h with
  | here => exact hi
  | step _ _ hl => exact hl
/-- a set that holds i, is closed and holds only what is reached: what is reached -/
theorem reach_iff {i : Nat} {S : Nat → Prop} (h0 : S i) (hs : ∀ k n, S k → n ∈ tgt k → left n = true → S n) (hr : ∀ k, S k → Reach tgt left i k) (k : Nat) : S k ↔ Reach tgt left i k := by
  refine ⟨hr k, fun h => ?_⟩
  induction h with
  | here => exact h0
  | step _ hn hl ih => exact hs _ _ ih hn hl
/-- the closure of i as a rising list -/
structure IsClo (tgt : Nat → List Nat) (left : Nat → Bool) (i : Nat) (C : List Nat) : Prop where
  srt : C.Pairwise (· < ·)
  mem : ∀ k, k ∈ C ↔ Reach tgt left i k
theorem rise_ext : ∀ {C D : List Nat}, C.Pairwise (· < ·) → D.Pairwise (· < ·) → (∀ k, k ∈ C ↔ k ∈ D) → C = D
  | [], [], _, _, _ => rfl
  | [], d :: D, _, _, h => by have := (h d).2 (by simp); cases this
  | c :: C, [], _, _, h => by have := (h c).1 (by simp); cases this
  | c :: C, d :: D, hc, hd, h => by
    obtain ⟨c1, c2⟩ := List.pairwise_cons.1 hc
    obtain ⟨d1, d2⟩ := List.pairwise_cons.1 hd
    have e : c = d := by
      rcases List.mem_cons.1 ((h c).1 (by simp)) with e | e
      · exact e
      · rcases List.mem_cons.1 ((h d).2 (by simp)) with e2 | e2
        · exact e2.symm
        · have a := d1 c e
          have b := c1 d e2
          omega
    subst e
    rw [rise_ext c2 d2 (fun k => ?_)]
    constructor
    · intro hk
      have a := c1 k hk
      rcases List.mem_cons.1 ((h k).1 (List.mem_cons_of_mem _ hk)) with e | e
      · omega
      · exact e
    · intro hk
      have a := d1 k hk
      rcases List.mem_cons.1 ((h k).2 (List.mem_cons_of_mem _ hk)) with e | e
      · omega
      · exact e
theorem IsClo.unique {i : Nat} {C D : List Nat} (h : IsClo tgt left i C) (h2 : IsClo tgt left i D) : C = D := rise_ext h.srt h2.srt (fun k => (h.mem k).trans (h2.mem k).symm)
/-- a member's closure is a sublist -/
theorem IsClo.sub {i j : Nat} {C : List Nat} (h : IsClo tgt left i C) (hj : j ∈ C) : ∃ D, IsClo tgt left j D ∧ D.Sublist C := by
  classical
  refine ⟨C.filter (fun k => decide (Reach tgt left j k)), ⟨h.srt.filter _, fun k => ?_⟩, List.filter_sublist⟩
  rw [List.mem_filter, decide_eq_true_eq]
  exact ⟨fun x => x.2, fun x => ⟨(h.mem k).2 (((h.mem j).1 hj).trans x), x⟩⟩
/-- the closure that comes next: the shortest, and of these the one that begins first -/
structure BestC (tgt : Nat → List Nat) (left : Nat → Bool) (C : List Nat) : Prop where
  ex : ∃ i, left i = true ∧ IsClo tgt left i C
  least : ∀ j D, left j = true → IsClo tgt left j D → C.length < D.length ∨ (C.length = D.length ∧ C.headD 0 ≤ D.headD 0)
theorem IsClo.headMem {i : Nat} {C : List Nat} (h : IsClo tgt left i C) : C.headD 0 ∈ C := by
  cases C with
  | nil => exact absurd ((h.mem i).2 .here) (by simp)
  | cons a r => simp
theorem IsClo.ofHead {i : Nat} {C : List Nat} (hi : left i = true) (h : IsClo tgt left i C) (hl : ∀ j D, left j = true → IsClo tgt left j D → C.length ≤ D.length) {k : Nat} (hk : k ∈ C) : IsClo tgt left k C := by
  obtain ⟨D, h1, h2⟩ := h.sub hk
  have h3 := hl k D (((h.mem k).1 hk).isLeft hi) h1
  rwa [← h2.eq_of_length_le h3]
theorem BestC.unique {C D : List Nat} (h : BestC tgt left C) (h2 : BestC tgt left D) : C = D := by
  obtain ⟨i, hi, hC⟩ := h.ex
  obtain ⟨j, hj, hD⟩ := h2.ex
  have a := h.least j D hj hD
  have b := h2.least i C hi hC
  have e1 : C.length = D.length := by omega
  have e2 : C.headD 0 = D.headD 0 := by omega
  have lC : ∀ j D', left j = true → IsClo tgt left j D' → C.length ≤ D'.length := fun j D' x y => by have := h.least j D' x y; omega
  have lD : ∀ j D', left j = true → IsClo tgt left j D' → D.length ≤ D'.length := fun j D' x y => by have := h2.least j D' x y; omega
  have hC2 := hC.ofHead hi lC hC.headMem
  have hD2 := hD.ofHead hj lD hD.headMem
  rw [e2] at hC2
  exact hC2.unique hD2
end
/-- without the members of a list -/
def without (left : Nat → Bool) (C : List Nat) : Nat → Bool := fun k => left k && !C.contains k
/-- the steps in which what is left is uploaded -/
inductive StepsC (tgt : Nat → List Nat) : (Nat → Bool) → List (List Nat) → Prop
  | done {left : Nat → Bool} : (∀ k, left k = false) → StepsC tgt left []
  | next {left : Nat → Bool} {C : List Nat} {R : List (List Nat)} : BestC tgt left C → StepsC tgt (without left C) R → StepsC tgt left (C :: R)
theorem StepsC.unique {tgt : Nat → List Nat} {left : Nat → Bool} {R S : List (List Nat)} (h : StepsC tgt left R) (h2 : StepsC tgt left S) : R = S := by
  induction h generalizing S with
  | done h0 =>
    cases h2 with
    | done _ => rfl
    | next hb _ =>
      obtain ⟨i, hi, _⟩ := hb.ex
      rw [h0 i] at hi
      cases hi
  | next hb _ ih =>
    cases h2 with
    | done h0 =>
      obtain ⟨i, hi, _⟩ := hb.ex
      rw [h0 i] at hi
      cases hi
    | next hb2 hs2 =>
      obtain rfl := hb.unique hb2
      rw [ih hs2]
/-- only membership of the references counts -/
theorem Reach.mono {tgt to2 : Nat → List Nat} {left left2 : Nat → Bool} (ht : ∀ k n, n ∈ tgt k → n ∈ to2 k) (hl : ∀ k, left k = true → left2 k = true) {i k : Nat} (h : Reach tgt left i k) : Reach to2 left2 i k := by
  induction h with
  | here => exact .here
  | step _ hn hl2 ih => exact .step ih (ht _ _ hn) (hl _ hl2)
theorem Reach.same {tgt to2 : Nat → List Nat} {left left2 : Nat → Bool} (ht : ∀ k n, n ∈ tgt k ↔ n ∈ to2 k) (hl : ∀ k, left k = left2 k) {i k : Nat} : Reach tgt left i k ↔ Reach to2 left2 i k :=
  ⟨Reach.mono (fun k n => (ht k n).1) (fun k h => by rw [← hl]; exact h), Reach.mono (fun k n => (ht k n).2) (fun k h => by rw [hl]; exact h)⟩

end Go.Proofs.YtbhildmalcfhiaaGreatDoor

namespace Go.Proofs.YtbhildmalcfhiaaGreatDoor

def falses (C : List Bool) : Nat := C.countP (fun b => !b)
theorem falses_set {C : List Bool} {n : Nat} (h : C[n]? = some false) : falses (C.set n true) < falses C := by
  induction C generalizing n with
  | nil => simp at h
  | cons b r ih =>
    cases n with
    | zero =>
      simp only [List.getElem?_cons_zero, Option.some.injEq] at h
      subst h
      simp [falses]
    | succ n =>
      have := ih (n := n) (by simpa using h)
      simp only [falses, List.set_cons_succ, List.countP_cons] at this ⊢
      omega
theorem set_true {C : List Bool} {n j : Nat} (h : n < C.length) : (C.set n true)[j]? = some true ↔ (j = n ∨ C[j]? = some true) := by
  rw [List.getElem?_set]
  by_cases e : n = j
  · subst e; simp [h]
  · simp [e, Ne.symm e]
/-- in the midst of a pass: rows before k are done, and m references of row k; C0 is the array at the pass's start -/
structure PassC (tgt : Nat → List Nat) (left : Nat → Bool) (i : Nat) (C0 C : List Bool) (more : Bool) (k m : Nat) : Prop where
  len : C.length = C0.length
  self : C[i]? = some true
  rch : ∀ j, C[j]? = some true → Reach tgt left i j
  stay : more = false → C = C0
  grow : more = true → falses C < falses C0
  done : more = false → ∀ j, j < k → C0[j]? = some true → ∀ n ∈ tgt j, left n = true → C0[n]? = some true
  now : more = false → ∀ n ∈ (tgt k).take m, left n = true → C0[n]? = some true
section
variable {tgt : Nat → List Nat} {left : Nat → Bool} {i : Nat} {C0 C : List Bool} {more : Bool} {k m : Nat}
theorem PassC.start (h0 : C[i]? = some true) (hr : ∀ j, C[j]? = some true → Reach tgt left i j) : PassC tgt left i C C false 0 0 :=
  ⟨rfl, h0, hr, fun _ => rfl, fun h => by simp at h, fun _ j hj => absurd hj (by omega), fun _ n hn => by simp at hn⟩
/-- row k is not in: on -/
theorem PassC.skip (h : PassC tgt left i C0 C more k 0) (hk : C[k]? ≠ some true) : PassC tgt left i C0 C more (k + 1) 0 :=
  ⟨h.len, h.self, h.rch, h.stay, h.grow, fun hm j hj hc => by
    by_cases e : j = k
    · subst e; rw [h.stay hm] at hk; exact absurd hc hk
    · exact h.done hm j (by omega) hc, fun _ n hn => by simp at hn⟩
/-- row k is at its end: on -/
theorem PassC.row (h : PassC tgt left i C0 C more k m) (hm : (tgt k).length ≤ m) : PassC tgt left i C0 C more (k + 1) 0 :=
  ⟨h.len, h.self, h.rch, h.stay, h.grow, fun hf j hj hc n hn hl => by
    by_cases e : j = k
    · subst e; exact h.now hf n (by rw [List.take_of_length_le hm]; exact hn) hl
    · exact h.done hf j (by omega) hc n hn hl, fun _ n hn => by simp at hn⟩
/-- a reference that adds nothing -/
theorem PassC.same (h : PassC tgt left i C0 C more k m) {n : Nat} (hn : (tgt k)[m]? = some n) (hc : left n = true → C[n]? = some true) : PassC tgt left i C0 C more k (m + 1) :=
  ⟨h.len, h.self, h.rch, h.stay, h.grow, h.done, fun hf x hx hl => by
    rw [List.take_add_one, hn, List.mem_append] at hx
    rcases hx with hx | hx
    · exact h.now hf x hx hl
    · simp only [Option.toList_some, List.mem_singleton] at hx
      subst hx
      rw [← h.stay hf]
      exact hc hl⟩
/-- a reference that adds a page -/
theorem PassC.add (h : PassC tgt left i C0 C more k m) {n : Nat} (hk : C[k]? = some true) (hn : (tgt k)[m]? = some n) (hl : left n = true) (hc : C[n]? = some false) : PassC tgt left i C0 (C.set n true) true k (m + 1) := by
  have hlt : n < C.length := (List.getElem?_eq_some_iff.1 hc).1
  have hf := falses_set hc
  refine ⟨by rw [List.length_set]; exact h.len, (set_true hlt).2 (Or.inr h.self), fun j hj => ?_, fun e => (by cases e), fun _ => ?_, fun e => (by cases e), fun e => (by cases e)⟩
  · rcases (set_true hlt).1 hj with e | e
    · subst e; exact .step (h.rch k hk) (List.mem_of_getElem? hn) hl
    · exact h.rch j e
  · cases hm : more with
    | true => have := h.grow hm; omega
    | false => rw [h.stay hm] at hf ⊢; exact hf
/-- a pass that added nothing: what is in is what is reached -/
theorem PassC.fin (h : PassC tgt left i C0 C false k 0) (hk : C0.length ≤ k) (j : Nat) : C[j]? = some true ↔ Reach tgt left i j := by
  refine reach_iff (S := fun j => C[j]? = some true) h.self (fun a n ha hn hl => ?_) h.rch j
  have e := h.stay rfl
  rw [e] at ha ⊢
  exact h.done rfl a (by have := (List.getElem?_eq_some_iff.1 ha).1; omega) ha n hn hl
end

end Go.Proofs.YtbhildmalcfhiaaGreatDoor

namespace Go.Proofs.YtbhildmalcfhiaaGreatDoor
open Go.RowKit Go.ChangeShapes Go.WideShapes Go.Deep

def boC (C : List Bool) : Array Value := (C.map Value.bool).toArray
theorem boC_get {C : List Bool} {i : Nat} {v : Bool} (h : C[i]? = some v) : (boC C)[i]? = some (.bool v) := by simp [boC, h]
theorem boC_set (C : List Bool) (i : Nat) (v : Bool) : (boC C).setIfInBounds i (.bool v) = boC (C.set i v) := by
  apply Array.ext'
  simp [boC, List.map_set]
theorem boC_zero (D : Nat) : (madeCells #[.bool false] D) = boC (List.replicate D false) := by
  apply Array.ext'
  rw [toList_madeCells_one]
  simp [boC]
theorem own_blockB {w : World} {B g n : Nat} {xs : List Value} (h : w.ownsRow B 4 1 (.slice (some ⟨g, 0, none⟩) n n) n xs) : CB w g 4 xs.toArray := by
  obtain ⟨hl, h2⟩ := h
  rcases h2 with ⟨h3, _⟩ | ⟨g', cap', cur, h3, hB, hg, hnc, hm, hsz, htake⟩
  · cases h3
  · cases h3
    have e : cur = xs.toArray := by
      apply Array.ext'
      rw [← htake, List.take_of_length_le (by rw [Array.length_toList, hsz]; exact Nat.le_refl _)]
    rw [← e]
    exact hg
theorem info_boolC : (Tryz.prog.info? 4).map (fun i => (i.zero, i.size, i.bytes)) = some (some (.bool false), 1, 1) := by kernel_rfl
def falsesW (w : World) (g : Nat) : Nat := match w.heap[g]? with
  | some (.cells cs _ _) => cs.toList.countP (fun v => match v with | .bool true => false | _ => true)
  | _ => 0
theorem falsesW_of {w : World} {g : Nat} {t : TypeId} {C : List Bool} (h : CB w g t (boC C)) : falsesW w g = falses C := by
  rw [falsesW, show w.heap[g]? = _ from h]
  simp only [boC, falses]
  clear h
  induction C with
  | nil => rfl
  | cons b r ih =>
    simp only [List.map_cons, List.countP_cons] at ih ⊢
    rw [ih]
    cases b <;> rfl
def oneB : Value → Nat
  | .bool true => 1
  | _ => 0
def RefsAt (w : World) (v : Value) (tt : List (List Nat)) : Prop := ∃ (A : Option Addr) (c b : Nat), v = .slice A tt.length c ∧ tt.length ≤ c ∧ c ≤ maxLen ∧ (tt ≠ [] → A = some ⟨b, 0, none⟩) ∧ ∀ k r, tt[k]? = some r → ∃ sv, w.cell? ⟨b, k, none⟩ = some sv ∧ OnesAt w sv (r.map fun (n : Nat) => Value.int .i64 (n : Int))
def CloRPost (n : Nat) (tt : Nat → List Nat) (left : Nat → Bool) (i : Nat) (w : World) (e : Ending) (w' : World) : Prop :=
  ∃ C : List Bool, C.length = n ∧ e = .returned (.slice (some ⟨w.heap.size, 0, none⟩) n n) ∧ (∀ k, C[k]? = some true ↔ Reach tt left i k) ∧ CB w' w.heap.size 4 (boC C) ∧ Below w.heap.size w w'

set_option maxRecDepth 100000 in
set_option maxHeartbeats 8000000 in
theorem closureR_q (i n : Nat) (tt : List (List Nat)) (lf : List Bool) (vt vl : Value) (w : World) (hi : i < n) (hn : n ≤ 480) (ht : RefsAt w vt tt) (htl : tt.length = n) (hl : OnesAt w vl (lf.map Value.bool)) (hll : lf.length = n) (hto : ∀ r ∈ tt, r.length ≤ 140737488355328 ∧ ∀ x ∈ r, x < n) :
    Calls Tryz.prog 78 #[.int .i64 i, vt, vl] w (CloRPost n (fun k => tt.getD k []) (fun k => lf.getD k false) i w) := by
  obtain ⟨At, ct, bt, rfl, hct, hcm, hAt, hcell⟩ := ht
  obtain ⟨Al, cl, bl, ol, rfl, hcl, hclm, hAl, hlc⟩ := hl
  rw [List.length_map, hll] at hcl ⊢
  rw [htl] at hct ⊢
  obtain rfl := hAt (by rintro rfl; simp at htl; omega)
  obtain rfl := hAl (by rintro h; rw [List.map_eq_nil_iff] at h; subst h; simp at hll; omega)
  have HT := Lib.hid hcell; clear hcell hAt hAl
  have HLf := Lib.hid (fun k v (h : lf[k]? = some v) => (hlc k (.bool v) (by simp [h]) : w.cell? ⟨bl, ol + k, none⟩ = some (.bool v))); clear hlc
  have HTo := Lib.hid hto; clear hto
  have HLt := Lib.hid htl; have HLl := Lib.hid hll; clear htl hll
  unfold maxLen at hclm hcm
  obtain ⟨toF, htoF⟩ : ∃ f, (fun k => tt.getD k []) = f := ⟨_, rfl⟩
  obtain ⟨lfF, hlfF⟩ : ∃ f, (fun k => lf.getD k false) = f := ⟨_, rfl⟩
  have HtoF := Lib.hid (fun k r (h : tt[k]? = some r) => (by rw [← htoF]; simp [List.getD_eq_getElem?_getD, h] : toF k = r))
  have HlfF := Lib.hid (fun k v (h : lf[k]? = some v) => (by rw [← hlfF]; simp [List.getD_eq_getElem?_getD, h] : lfF k = v))
  rw [htoF, hlfF]
  clear htoF hlfF
  obtain ⟨N, hN⟩ : ∃ N, w.heap.size = N := ⟨_, rfl⟩
  have HN := Lib.hid hN
  obtain ⟨i0, hi0, hz0, hz1, hz2⟩ := info_parts info_boolC
  unfold CloRPost
  go_enter Tryz.func78, Tryz.ntmps78
  go_upto_region 2 with (at_make; go_must (refine wpList_make_full _ rfl _ _ 90 rfl N 4 i0 (.bool false) 1 Tryz.underlying90 hi0 hz0 hz1 .i64 .i64 _ _ n rfl rfl rfl rfl (by rw [hz2]; omega) (by unfold maxLen; omega) (by omega) ?_); intro w6 own6 hg6; rw [hN] at own6; rw [hN]; have HO6 := Lib.hid own6; have HG6 := Lib.hid (show Below N w w6 from (Below.refl N w).grown hg6 (by omega) (fun k hk => by cases hk)); clear own6 hg6)
  have HC0 := Lib.hid (show CB w6 N 4 (boC (List.replicate n false)) by
    have := own_blockB HO6.out
    rw [Nat.mul_one, show (madeCells (Value.bool false).cells n).toList = (boC (List.replicate n false)).toList from by rw [← boC_zero]; rfl] at this
    exact this)
  have x0 : w6.cell? ⟨N, i, none⟩ = some (.bool false) := by rw [HC0.out.c i]; exact boC_get (by rw [List.getElem?_replicate]; simp [hi])
  have xf := HC0.out.f i
  have hi2 : (i : Int) < (n : Int) := by omega
  clear hi0 hz0 hz1 hz2 hN
  go_wp2_with fail
  go_loopw [8] (fun t8 wr => ∃ (C : List Bool) (more : Bool), t8 = .bool more ∧ Hid (C.length = n) ∧ Hid (CB wr N 4 (boC C)) ∧ Hid (C[i]? = some true) ∧ Hid (∀ j, C[j]? = some true → Reach toF lfF i j) ∧ Hid (more = false → ∀ j, C[j]? = some true ↔ Reach toF lfF i j) ∧ Hid (Below N w wr)) (fun t8 wr => 2 * falsesW wr N + oneB t8)
  case atStart =>
    have hlr : i < (List.replicate n false).length := by simpa using hi
    refine ⟨(List.replicate n false).set i true, true, rfl, Lib.hid (by simp), Lib.hid (by rw [← boC_set]; exact HC0.out.put i _), Lib.hid ((set_true hlr).2 (Or.inl rfl)), Lib.hid (fun j hj => ?_), Lib.hid (fun h => by cases h), Lib.hid (HG6.out.setCell (Nat.le_refl _) _)⟩
    rcases (set_true hlr).1 hj with e | e
    · subst e; exact .here
    · rw [List.getElem?_replicate] at e
      split at e <;> cases e
  case round =>
    clear HC0 x0 xf HO6 HG6
    obtain ⟨C0, more, rfl, HCl, HCB, HCi, HCr, HCf, HBw⟩ := hrel
    obtain ⟨wo, rfl⟩ : ∃ wo : World, wo = wr := ⟨_, rfl⟩
    cases more with
    | false =>
      go_wp2_with fail
      go_ret
      exact ⟨C0, HCl.out, by rw [HN.out]; rfl, HCf.out trivial, by rw [HN.out]; exact HCB.out, by rw [HN.out]; exact HBw.out⟩
    | true =>
      clear HCf
      have HP0 := Lib.hid (PassC.start HCi.out HCr.out)
      have HMo := Lib.hid (falsesW_of HCB.out)
      go_wp2_with fail
      go_loopw [21, 8] (fun t21 t8 wr => ∃ (k : Nat) (C : List Bool) (more : Bool), k ≤ n ∧ t21 = .int .i64 k ∧ t8 = .bool more ∧ Hid (PassC toF lfF i C0 C more k 0) ∧ Hid (CB wr N 4 (boC C)) ∧ Hid (Below N w wr)) (fun t21 _ _ => n - (intOf t21).toNat)
      case atStart => exact ⟨0, C0, false, Nat.zero_le _, rfl, rfl, HP0, HCB, HBw⟩
      case round =>
        clear HP0 HBw HCi HCr
        obtain ⟨k, C, more, hk, rfl, rfl, HP, HC, HB⟩ := hrel
        obtain ⟨wy, rfl⟩ : ∃ wy : World, wy = wr := ⟨_, rfl⟩
        have HCn := Lib.hid (HP.out.len.trans HCl.out)
        by_cases hlt : k < n
        · have hk2 : (k : Int) < (n : Int) := by omega
          obtain ⟨bk, hbk⟩ : ∃ bk, C[k]? = some bk := ⟨_, List.getElem?_eq_getElem (by rw [HCn.out]; exact hlt)⟩
          have HBk := Lib.hid hbk
          have y0 : wy.cell? ⟨N, k, none⟩ = some (.bool bk) := by rw [HC.out.c k]; exact boC_get hbk
          clear hbk
          cases bk with
          | false =>
            go_wp2_with fail
            go_roundw
            case rel => exact ⟨k + 1, C, more, by omega, by go_num, rfl, Lib.hid (HP.out.skip (by rw [HBk.out]; simp)), HC, HB⟩
            case measure => simp [intOf]; omega
          | true =>
            obtain ⟨r, hr⟩ : ∃ r, tt[k]? = some r := ⟨_, List.getElem?_eq_getElem (by rw [HLt.out]; exact hlt)⟩
            obtain ⟨sv, hsv, Ar, cr, br, orr, hve, hcr, hcrm, hAr, hrc⟩ := HT.out k r hr
            subst hve
            rw [List.length_map] at hsv hcr
            have HTk := Lib.hid (HtoF.out k r hr)
            have hr9 := HTo.out r (List.mem_of_getElem? hr)
            obtain ⟨hrl, hrx⟩ := hr9
            have HRx := Lib.hid hrx
            have HRc := Lib.hid hrc
            have HAr := Lib.hid hAr
            clear hr hrx hrc hAr
            have y1 : wy.cell? ⟨bt, k, none⟩ = some (.slice Ar r.length cr) := (Keeps.of_below (by rw [HN.out]; exact HB.out)) _ _ hsv
            have HMe := Lib.hid (show ∀ x, x = n - k → x = n - k from fun _ h => h)
            clear hsv
            go_wp2_with fail
            go_loopw [34, 8] (fun t34 t8 wr => ∃ (m : Nat) (C : List Bool) (more : Bool), m ≤ r.length ∧ t34 = .int .i64 m ∧ t8 = .bool more ∧ Hid (C[k]? = some true) ∧ Hid (PassC toF lfF i C0 C more k m) ∧ Hid (CB wr N 4 (boC C)) ∧ Hid (Below N w wr)) (fun t34 _ _ => r.length - (intOf t34).toNat)
            case atStart => exact ⟨0, C, more, Nat.zero_le _, rfl, rfl, HBk, HP, HC, HB⟩
            case round =>
              clear HP HC HB HBk y0 y1 HCn
              obtain ⟨m, D, mo, hm, rfl, rfl, HDk, HP, HC, HB⟩ := hrel
              have HDn := Lib.hid (HP.out.len.trans HCl.out)
              by_cases hmt : m < r.length
              · obtain ⟨x, hx⟩ : ∃ x, r[m]? = some x := ⟨_, List.getElem?_eq_getElem hmt⟩
                obtain rfl := HAr.out (by intro h; rw [List.map_eq_nil_iff] at h; rw [h] at hmt; simp at hmt)
                have hm2 : (m : Int) < (r.length : Int) := by omega
                have hxn := HRx.out x (List.mem_of_getElem? hx)
                have hxn2 : (x : Int) < (n : Int) := by omega
                have z0 : wr.cell? ⟨br, orr + m, none⟩ = some (.int .i64 (x : Int)) := (Keeps.of_below (by rw [HN.out]; exact HB.out)) _ _ (HRc.out m _ (by simp [hx]))
                have HXk := Lib.hid (show (toF k)[m]? = some x by rw [HTk.out]; exact hx)
                clear hx
                obtain ⟨lv, hlv⟩ : ∃ lv, lf[x]? = some lv := ⟨_, List.getElem?_eq_getElem (by rw [HLl.out]; exact hxn)⟩
                have z1 : wr.cell? ⟨bl, ol + x, none⟩ = some (.bool lv) := (Keeps.of_below (by rw [HN.out]; exact HB.out)) _ _ (HLf.out x lv hlv)
                have HLx := Lib.hid (HlfF.out x lv hlv)
                clear hlv
                obtain ⟨cv, hcv⟩ : ∃ cv, D[x]? = some cv := ⟨_, List.getElem?_eq_getElem (by rw [HDn.out]; exact hxn)⟩
                have HCv := Lib.hid hcv
                have z2 : wr.cell? ⟨N, x, none⟩ = some (.bool cv) := by rw [HC.out.c x]; exact boC_get hcv
                have zf := HC.out.f x
                clear hcv
                cases lv with
                | false =>
                  go_wp2_with fail
                  go_roundw
                  case rel => exact ⟨m + 1, D, mo, by omega, by go_num, rfl, HDk, Lib.hid (HP.out.same HXk.out (fun h => by rw [HLx.out] at h; cases h)), HC, HB⟩
                  case measure => simp [intOf]; omega
                | true =>
                  cases cv with
                  | true =>
                    go_wp2_with fail
                    go_roundw
                    case rel => exact ⟨m + 1, D, mo, by omega, by go_num, rfl, HDk, Lib.hid (HP.out.same HXk.out (fun _ => HCv.out)), HC, HB⟩
                    case measure => simp [intOf]; omega
                  | false =>
                    have hxl : x < D.length := by rw [HDn.out]; exact hxn
                    have HA := Lib.hid (HP.out.add HDk.out HXk.out HLx.out HCv.out)
                    have HDk2 := Lib.hid ((set_true (j := k) hxl).2 (Or.inr HDk.out))
                    clear hxl
                    go_wp2_with fail
                    go_roundw
                    case rel => exact ⟨m + 1, D.set x true, true, by omega, by go_num, rfl, HDk2, HA, Lib.hid (by rw [← boC_set]; exact HC.out.put x _), Lib.hid (HB.out.setCell (Nat.le_refl _) _)⟩
                    case measure => simp [intOf]; omega
              · have HP2 := Lib.hid (HP.out.row (by rw [HTk.out]; omega))
                go_wp2_with fail
                go_roundw
                case rel => exact ⟨k + 1, D, mo, by omega, by go_num, rfl, HP2, HC, HB⟩
                case measure => simp [intOf]; omega
        · obtain rfl : k = n := by omega
          have HFi := Lib.hid (show more = false → ∀ j, C[j]? = some true ↔ Reach toF lfF i j from fun e => by subst e; exact HP.out.fin (by rw [HCl.out]; exact Nat.le_refl _))
          have HMe := Lib.hid (show 2 * falsesW wy N + oneB (.bool more) < 2 * falsesW wo N + oneB (.bool true) by
            rw [falsesW_of HC.out, HMo.out]
            cases more with
            | false => rw [HP.out.stay rfl]; simp [oneB]
            | true => have := HP.out.grow rfl; omega)
          go_wp2_with fail
          go_roundw
          case rel => exact ⟨C, more, rfl, HCn, HC, Lib.hid HP.out.self, Lib.hid HP.out.rch, HFi, HB⟩
          case measure => exact HMe.out

end Go.Proofs.YtbhildmalcfhiaaGreatDoor

namespace Go.Proofs.YtbhildmalcfhiaaGreatDoor
open Go.RowKit Go.Deep

/-- the places that are true -/
def trues (C : List Bool) : List Nat := (List.range C.length).filter (fun k => C[k]? == some true)
theorem mem_trues {C : List Bool} {k : Nat} : k ∈ trues C ↔ C[k]? = some true := by
  rw [trues, List.mem_filter, List.mem_range, beq_iff_eq]
  exact ⟨fun h => h.2, fun h => ⟨(List.getElem?_eq_some_iff.1 h).1, h⟩⟩
theorem trues_rise (C : List Bool) : (trues C).Pairwise (· < ·) := List.pairwise_lt_range.filter _
theorem trues_clo {C : List Bool} {tt : Nat → List Nat} {left : Nat → Bool} {i : Nat} (h : ∀ k, C[k]? = some true ↔ Reach tt left i k) : IsClo tt left i (trues C) := ⟨trues_rise C, fun k => mem_trues.trans (h k)⟩
/-- how many of the first k are true -/
def countT (C : List Bool) (k : Nat) : Nat := ((List.range k).filter (fun j => C[j]? == some true)).length
theorem countT_succ (C : List Bool) (k : Nat) : countT C (k + 1) = countT C k + (if C[k]? = some true then 1 else 0) := by
  rw [countT, countT, List.range_succ, List.filter_append, List.length_append]
  by_cases h : C[k]? = some true <;> simp [h]
theorem countT_all (C : List Bool) : countT C C.length = (trues C).length := rfl
theorem countT_le (C : List Bool) (k : Nat) : countT C k ≤ k := by
  have := List.length_filter_le (fun j => C[j]? == some true) (List.range k)
  rw [List.length_range] at this
  exact this
/-- the least member of a rising list -/
theorem head_least {C : List Nat} (h : C.Pairwise (· < ·)) {k : Nat} (hk : k ∈ C) (hl : ∀ j, j < k → j ∉ C) : C.headD 0 = k := by
  cases C with
  | nil => cases hk
  | cons a r =>
    rcases List.mem_cons.1 hk with e | e
    · simp [e]
    · have := (List.pairwise_cons.1 h).1 k e
      exact absurd (by simp) (hl a this)
def FirstPost (C : List Bool) (w : World) (e : Ending) (w' : World) : Prop := e = .returned (.int .i64 ((trues C).headD 0 : Nat)) ∧ w = w'
theorem FirstPost.mk {C : List Bool} {w : World} {k : Nat} (h : (trues C).headD 0 = k) : FirstPost C w (.returned (.int .i64 (k : Nat))) w := ⟨by rw [h], rfl⟩
set_option maxRecDepth 100000 in
set_option maxHeartbeats 4000000 in
theorem first_q (C : List Bool) (v : Value) (w : World) (h : OnesAt w v (C.map Value.bool)) (hne : trues C ≠ []) :
    Calls Tryz.prog 79 #[v] w (FirstPost C w) := by
  obtain ⟨A, c, b, o, rfl, hlc, hc, hA, hcell⟩ := h
  rw [List.length_map] at hlc ⊢
  have HC := Lib.hid (fun k x (h : C[k]? = some x) => (hcell k (.bool x) (by simp [h]) : w.cell? ⟨b, o + k, none⟩ = some (.bool x))); clear hcell
  have HA := Lib.hid hA; clear hA
  have HNe := Lib.hid hne; clear hne
  unfold maxLen at hc
  go_enter Tryz.func79, Tryz.ntmps79
  go_wp2_with fail
  go_loopw [7] (fun t7 wr => ∃ k : Nat, k ≤ C.length ∧ t7 = .int .i64 k ∧ Hid (∀ j, j < k → j ∉ trues C) ∧ w = wr) (fun t _ => C.length - (intOf t).toNat)
  case atStart => exact ⟨0, Nat.zero_le _, rfl, fun j hj => absurd hj (by omega), rfl⟩
  case round =>
    obtain ⟨k, hk, rfl, HL, rfl⟩ := hrel
    by_cases hlt : k < C.length
    · obtain ⟨x, hx⟩ : ∃ x, C[k]? = some x := ⟨_, List.getElem?_eq_getElem hlt⟩
      obtain rfl := HA.out (by intro h; rw [List.map_eq_nil_iff] at h; rw [h] at hlt; simp at hlt)
      have x0 := HC.out k x hx
      have hk2 : (k : Int) < (C.length : Int) := by omega
      have HX := Lib.hid hx
      clear hx
      cases x with
      | true =>
        have HF := Lib.hid (head_least (trues_rise C) (mem_trues.2 HX.out) HL.out)
        go_wp2_with fail
        go_ret
        exact FirstPost.mk HF.out
      | false =>
        have HL2 := Lib.hid (show ∀ j, j < k + 1 → j ∉ trues C from fun j hj hm => by
          by_cases e : j = k
          · subst e; have := mem_trues.1 hm; rw [HX.out] at this; cases this
          · exact HL.out j (by omega) hm)
        go_wp2_with fail
        go_roundw
        case rel => exact ⟨k + 1, by omega, by go_num, HL2, by trivial⟩
        case measure => simp [intOf]; omega
    · exfalso
      obtain ⟨a, ha⟩ := List.exists_mem_of_ne_nil _ HNe.out
      have h1 := (List.getElem?_eq_some_iff.1 (mem_trues.1 ha)).1
      exact HL.out a (by omega) ha

end Go.Proofs.YtbhildmalcfhiaaGreatDoor

namespace Go.Proofs.YtbhildmalcfhiaaGreatDoor
open Go.RowKit Go.Deep

def idxS : ByteArray := ⟨#[47, 105, 110, 100, 101, 120, 46, 104, 116, 109, 108]⟩
def reachI (l : List OutV) (path : ByteArray) (dir : Bool) : Int := if outAtI l path.data.toList < 0 ∧ dir = false then outAtI l (path ++ idxS).data.toList else outAtI l path.data.toList
set_option maxRecDepth 100000 in
set_option maxHeartbeats 2000000 in
theorem reaches_q (l : List OutV) (v : Value) (path : ByteArray) (dir : Bool) (n : Int) (w : World) (h : OutsAt w v l) (hs : path.size ≤ 1048576) (hn : reachI l path dir = n) :
    Calls Tryz.prog 121 #[v, .string path, .bool dir] w fun e w' => e = .returned (.int .i64 n) ∧ Below w.heap.size w w' := by
  have HL := Lib.hid h; clear h
  obtain ⟨k, hk⟩ : ∃ k, outAtI l path.data.toList = k := ⟨_, rfl⟩
  have HK := Lib.hid hk
  by_cases h0 : k < 0
  · cases dir with
    | true =>
      have HN := Lib.hid (show k = n by rw [← hn, reachI, if_neg (by simp), hk])
      clear hn hk
      go_enter Tryz.func121, Tryz.ntmps121
      go_wp2_with (go_at_call 42; go_must (refine (outAt_q l _ path k _ HL.out HK.out).mono ?_); rintro e w1 ⟨rfl, hb⟩; have HB1 := Lib.hid hb; clear hb)
      go_ret
      exact ⟨by rw [← HN.out]; rfl, HB1.out⟩
    | false =>
      obtain ⟨z, hz⟩ : ∃ z, path ++ (⟨#[47, 105, 110, 100, 101, 120, 46, 104, 116, 109, 108]⟩ : ByteArray) = z := ⟨_, rfl⟩
      have HN := Lib.hid (show outAtI l z.data.toList = n by rw [← hn, reachI, if_pos ⟨by rw [hk]; exact h0, rfl⟩, ← hz]; rfl)
      have hsz : path.size + 11 ≤ 9223372036854775807 := by omega
      clear hn hk
      go_enter Tryz.func121, Tryz.ntmps121
      have h1 : decide (k < 0) = true := by simpa using h0
      go_upto_region 3 with (go_at_call 42; go_must (refine (outAt_q l _ path k _ HL.out HK.out).mono ?_); rintro e w1 ⟨rfl, hb⟩; have HB1 := Lib.hid hb; have HL1 := Lib.hid (HL.out.keep (Keeps.of_below hb)); clear hb)
      clear HK HL
      go_wp2_with (go_at_call 42; go_must (refine (outAt_q l _ z n _ HL1.out HN.out).mono ?_); rintro e w2 ⟨rfl, hb⟩; have HB2 := Lib.hid (HB1.out.trans (hb.mono HB1.out.size)); clear hb)
      go_ret
      exact ⟨rfl, HB2.out⟩
  · have HN := Lib.hid (show k = n by rw [← hn, reachI, if_neg (by rw [hk]; exact fun e => h0 e.1), hk])
    have h1 : decide (k < 0) = false := by simpa using h0
    clear hn hk
    go_enter Tryz.func121, Tryz.ntmps121
    go_wp2_with (go_at_call 42; go_must (refine (outAt_q l _ path k _ HL.out HK.out).mono ?_); rintro e w1 ⟨rfl, hb⟩; have HB1 := Lib.hid hb; clear hb)
    go_ret
    exact ⟨by rw [← HN.out]; rfl, HB1.out⟩

end Go.Proofs.YtbhildmalcfhiaaGreatDoor

namespace Go.Proofs.YtbhildmalcfhiaaGreatDoor
open Go.RowKit Go.Deep

theorem ToksIn.cells {w : World} {At : Option Addr} {ct b k : Nat} {L : List (TokR × Value)} {x : TokR × Value} (h : ToksIn w (.slice At L.length ct) L) (hA : L ≠ [] → At = some ⟨b, 0, none⟩) (hx : L[k]? = some x) :
    AttsAt w x.2 x.1.atts ∧ ∀ j u, (tokRow x)[j]? = some u → w.cell? ⟨b, k * 5 + j, none⟩ = some u := by
  obtain ⟨A', c', b', he, _, _, hA', hc⟩ := h
  have hne : L ≠ [] := by intro e; rw [e] at hx; simp at hx
  have h1 := hA hne
  have h2 := hA' hne
  cases he
  rw [h1] at h2
  cases h2
  exact hc k x hx
theorem AttsAt.cells {w : World} {Ax : Option Addr} {cx b k : Nat} {l : List AttrR} {x : AttrR} (h : AttsAt w (.slice Ax l.length cx) l) (hA : l ≠ [] → Ax = some ⟨b, 0, none⟩) (hx : l[k]? = some x) :
    w.cell? ⟨b, k * 2, none⟩ = some (.string x.name) ∧ w.cell? ⟨b, k * 2 + 1, none⟩ = some (.string x.value) := by
  obtain ⟨A', c', b', he, _, _, hA', hc⟩ := h
  have hne : l ≠ [] := by intro e; rw [e] at hx; simp at hx
  have h1 := hA hne
  have h2 := hA' hne
  cases he
  rw [h1] at h2
  cases h2
  exact hc k x hx
theorem ToksIn.shape {w : World} {v : Value} {L : List (TokR × Value)} (h : ToksIn w v L) : ∃ (At : Option Addr) (ct b : Nat), v = .slice At L.length ct ∧ L.length ≤ ct ∧ ct ≤ 9223372036854775807 ∧ (L ≠ [] → At = some ⟨b, 0, none⟩) := by
  obtain ⟨A, c, b, h1, h2, h3, h4, _⟩ := h
  exact ⟨A, c, b, h1, h2, by unfold maxLen at h3; omega, h4⟩
theorem AttsAt.shape {w : World} {v : Value} {l : List AttrR} (h : AttsAt w v l) : ∃ (At : Option Addr) (ct b : Nat), v = .slice At l.length ct ∧ l.length ≤ ct ∧ ct ≤ 9223372036854775807 ∧ (l ≠ [] → At = some ⟨b, 0, none⟩) := by
  obtain ⟨A, c, b, h1, h2, h3, h4, _⟩ := h
  exact ⟨A, c, b, h1, h2, by unfold maxLen at h3; omega, h4⟩

end Go.Proofs.YtbhildmalcfhiaaGreatDoor

namespace Go.Proofs.YtbhildmalcfhiaaGreatDoor
open Go.RowKit Go.Deep

theorem all_skip {l : List OutV} {k : Nat} {x : OutV} {D : List LinkR} (h : allLinks (l.take k) = D) (hx : l[k]? = some x) (hp : pageB x.path = false) : allLinks (l.take (k + 1)) = D := by
  rw [all_step h hx, outLinks, if_neg (by rw [hp]; simp), List.append_nil]
theorem out_links {x : OutV} {L : List TokR} (hp : pageB x.path = true) (h : L = tokR x.body) : outLinks x = linksV x.path L := by rw [outLinks, if_pos hp, h]
/-- the boxes of the output and of the token beside the row of links -/
structure LState (K ob : Nat) (pa bo : ByteArray) (tv : Value) (L : List (TokR × Value)) (w0 w : World) : Prop where
  out : CB w ob 62 #[.string pa, .string bo]
  tok : ToksOwn w K tv L
  bel : Below K w0 w
section
variable {K ob : Nat} {pa bo : ByteArray} {tv : Value} {L : List (TokR × Value)} {w0 w w' : World}
theorem LState.below (h : LState K ob pa bo tv L w0 w) (hb : Below w.heap.size w w') (hK : K ≤ w.heap.size) : LState K ob pa bo tv L w0 w' := ⟨h.out.below hb, h.tok.below hb, h.bel.trans (hb.mono hK)⟩
theorem LState.alloc (h : LState K ob pa bo tv L w0 w) (hK : K ≤ w.heap.size) (o : Obj) : LState K ob pa bo tv L w0 (w.alloc o) := h.below ((Below.refl _ _).alloc (Nat.le_refl _) o) hK
theorem LState.grown {v : Value} {q : Nat} {xs : List Value} (h : LState K ob pa bo tv L w0 w) (hr : w.ownsRow K 34 3 v q xs) (hg : w.grownBy w' v.ownBlock) (hb : Below K w w') : LState K ob pa bo tv L w0 w' :=
  ⟨h.out.grown hr hg (by decide), h.tok.grown hr hg (by decide) (by decide), h.bel.trans hb⟩
end
def refLinks (l : List OutV) : List LinkR := if pagesE l = 0 then allLinks l else []
set_option maxRecDepth 100000 in
set_option maxHeartbeats 8000000 in
theorem linksOfR_q (l : List OutV) (v : Value) (w : World) (h : OutsAt w v l) (hm : MaxT w.heap.size w) (hz : ∀ x ∈ l, x.path.size ≤ 1048576) (hl : l.length ≤ 480) :
    Calls Tryz.prog 11 #[v] w (LinksE (refLinks l) (pagesE l) w) := by
  obtain ⟨A, c, b, o, rfl, hlc, hc, hA, hcell⟩ := h
  have HC := Lib.hid hcell; clear hcell
  have HA := Lib.hid hA; clear hA
  have HZ := Lib.hid hz; clear hz
  unfold maxLen at hc
  obtain ⟨K, hK⟩ : ∃ K, w.heap.size = K := ⟨_, rfl⟩
  have HM := Lib.hid (show MaxT K w from hK ▸ hm); clear hm
  have HK := Lib.hid hK
  have HB0 := Lib.hid (Below.refl K w)
  clear hK
  go_enter Tryz.func11, Tryz.ntmps11
  go_wp2_with fail
  go_loopw [4, 15] (fun t4 t15 wr => ∃ (k : Nat) (D : List LinkR) (A' : Option Addr) (c' q : Nat), t4 = .slice A' q c' ∧ t15 = .int .i64 k ∧ D.length = q ∧ k ≤ l.length ∧ q ≤ k * 4000000000 ∧ Hid (allLinks (l.take k) = D) ∧ Hid (∀ i x, i < k → l[i]? = some x → pageB x.path = true → tokE x.body = 0) ∧ Hid (wr.ownsRow K 34 3 (.slice A' q c') q (linkCells D)) ∧ Hid (Below K w wr)) (fun _ t15 _ => l.length - (intOf t15).toNat)
  case atStart => exact ⟨0, [], none, 0, 0, rfl, rfl, rfl, Nat.zero_le _, Nat.zero_le _, rfl, fun i x hi => absurd hi (by omega), World.ownsRow_nil _ _ _ _, HB0⟩
  case round =>
    clear HB0
    obtain ⟨k, D, A', c', q, rfl, rfl, hq, hk, hqk, HR, HE, HO, HB⟩ := hrel
    obtain ⟨wo, rfl⟩ : ∃ wo : World, wo = wr := ⟨_, rfl⟩
    have hKr : K ≤ wo.heap.size := by have h1 := HB.out.size; have h2 := HK.out; omega
    by_cases hlt : k < l.length
    · obtain ⟨x, hx⟩ : ∃ x, l[k]? = some x := ⟨_, List.getElem?_eq_getElem hlt⟩
      obtain rfl : A = some ⟨b, o, none⟩ := HA.out (by intro h0; rw [h0] at hlt; simp at hlt)
      have kc := (HC.out k x hx).keep (Keeps.of_below (by have := HB.out; rw [← HK.out] at this; exact this))
      have k0 := kc.c0
      have k1 := kc.c1
      have HX := Lib.hid hx
      have hzx := HZ.out x (List.mem_of_getElem? hx)
      clear hx kc
      obtain ⟨path, body⟩ := x
      simp only at k0 k1 hzx HX
      obtain ⟨pb, hpb⟩ : ∃ v, pageB path = v := ⟨_, rfl⟩
      have HPb := Lib.hid hpb; clear hpb
      cases pb with
      | false =>
        have HE2 := Lib.hid (ok_next HE.out HX.out (fun e => by rw [HPb.out] at e; cases e))
        have HR2 := Lib.hid (all_skip HR.out HX.out HPb.out)
        go_wp2_with (go_at_call 29; go_must (refine (isPageR_q path body false _ (by omega) HPb.out).mono ?_); rintro e w5 ⟨rfl, hb5⟩; have HB5 := Lib.hid ((HB.out.alloc hKr _).trans (hb5.mono (by simp; omega))); have HO5 := Lib.hid (own_stay (own_alloc HO.out _) hb5); clear hb5)
        go_roundw
        case rel => exact ⟨k + 1, D, A', c', q, rfl, by go_num, hq, by omega, Nat.le_trans hqk (Nat.mul_le_mul_right _ (Nat.le_succ k)), HR2, HE2, HO5, HB5⟩
        case measure => simp [intOf]; omega
      | true =>
        rcases tokE_two body with hte | hte
        · have HTe := Lib.hid hte
          have HE2 := Lib.hid (ok_next HE.out HX.out (fun _ => hte))
          clear hte
          go_upto_region 9 with (first
            | (go_at_call 29; go_must (refine (isPageR_q path body true _ (by omega) HPb.out).mono ?_); rintro e w5 ⟨rfl, hb5⟩; have HB5 := Lib.hid ((HB.out.alloc hKr _).trans (hb5.mono (by simp; omega))); have HO5 := Lib.hid (own_stay (own_alloc HO.out _) hb5); have HX5 := Lib.hid ((CB.new wo #[.string path, .string body] 62).below hb5); have x0 : w5.cell? ⟨wo.heap.size, 0, none⟩ = some (.string path) := HX5.out.c 0; have x1 : w5.cell? ⟨wo.heap.size, 1, none⟩ = some (.string body) := HX5.out.c 1; have xl := HX5.out.lt; have hK5 : K ≤ w5.heap.size := (by omega); clear hb5)
            | (go_at_call 22; go_must (refine (tokensOf_q body w5 ((HM.out.keep HB5.out).up hK5)).mono ?_); rintro e w6 ⟨ov6, L, rfl, hl6, hO6, hb6⟩; rw [HTe.out]; have HL6 := Lib.hid hl6; have HS6 := Lib.hid (⟨HX5.out.below hb6, hO6.low hK5, HB5.out.trans (hb6.mono hK5)⟩ : LState K wo.heap.size path body ov6 L w w6); have HO6 := Lib.hid (own_stay HO5.out hb6); have hK6 : K ≤ w6.heap.size := (by have := hb6.size; omega); have hn6 : L.length ≤ 20000 := toks_len hl6; have HA6 := Lib.hid (fun y (hy : y ∈ L) => (by have : y.1 ∈ tokR body := (by rw [← hl6]; exact List.mem_map.2 ⟨y, hy, rfl⟩); exact tokR_atts this : y.1.atts.length ≤ 200000)); clear hl6 hO6 hb6))
          clear x0 x1 xl HB5 HO5 HX5
          obtain ⟨At, ct, bt, hov, hlct, hct, hAt⟩ := HS6.out.tok.rows.shape
          subst hov
          have HAt := Lib.hid hAt; clear hAt
          go_wp2_with fail
          go_loopw [4, 33] (fun t4 t33 wy => ∃ (m : Nat) (E : List LinkR) (A2 : Option Addr) (c2 r : Nat), t4 = .slice A2 r c2 ∧ t33 = .int .i64 m ∧ E.length = r ∧ m ≤ L.length ∧ r ≤ q + m * 200000 ∧ Hid (E = D ++ linksV path ((L.take m).map (·.1))) ∧ Hid (wy.ownsRow K 34 3 (.slice A2 r c2) r (linkCells E)) ∧ Hid (LState K wo.heap.size path body (.slice At L.length ct) L w wy)) (fun _ t33 _ => L.length - (intOf t33).toNat)
          case atStart => exact ⟨0, D, A', c', q, rfl, rfl, hq, Nat.zero_le _, by omega, by simp [Hid, linksV], HO6, HS6⟩
          case round =>
            clear HO6 HS6 HO
            obtain ⟨m, E, A2, c2, r, rfl, rfl, hr, hm2, hrm, HE3, HO2, HS2⟩ := hrel
            obtain ⟨wy, rfl⟩ : ∃ wy : World, wy = wr := ⟨_, rfl⟩
            have hKy : K ≤ wy.heap.size := by have h1 := HS2.out.bel.size; have h2 := HK.out; omega
            by_cases hmt : m < L.length
            · obtain rfl := HAt.out (by intro h; rw [h] at hmt; simp at hmt)
              obtain ⟨x, hx⟩ : ∃ x, L[m]? = some x := ⟨_, List.getElem?_eq_getElem hmt⟩
              have HR2 := Lib.hid (links_step (p := path) rfl hx)
              have hal := HA6.out x (List.mem_of_getElem? hx)
              obtain ⟨hxa, hxc⟩ := HS2.out.tok.rows.cells HAt.out hx
              have HXA := Lib.hid (fun (wz : World) (hz : LState K wo.heap.size path body (.slice (some ⟨bt, 0, none⟩) L.length ct) L w wz) => (hz.tok.rows.cells HAt.out hx).1)
              clear hx
              obtain ⟨⟨kd, at0, nm, tx, atts⟩, av⟩ := x
              simp only at HXA HR2 hal hxa
              obtain ⟨Ax, cx, bx, hxv, hcx, hcm, hAx⟩ := hxa.shape
              subst hxv
              have HAx := Lib.hid hAx
              clear hAx hxa
              have p0 := hxc 0 _ rfl
              have p1 := hxc 1 _ rfl
              have p2 := hxc 2 _ rfl
              have p3 := hxc 3 _ rfl
              have p4 := hxc 4 _ rfl
              simp only [Nat.add_zero] at p0
              clear hxc
              go_wp2_with fail
              have HT0 := Lib.hid (CB.new wy #[.int .i64 kd, .int .i64 (at0 : Int), .string nm, .string tx, .slice Ax atts.length cx] 56)
              have HO0 := Lib.hid (own_alloc HO2.out (.cells #[.int .i64 kd, .int .i64 (at0 : Int), .string nm, .string tx, .slice Ax atts.length cx] 56))
              have HS0 := Lib.hid (HS2.out.alloc hKy (.cells #[.int .i64 kd, .int .i64 (at0 : Int), .string nm, .string tx, .slice Ax atts.length cx] 56))
              clear p0 p1 p2 p3 p4 HO2 HS2
              go_loopw [4, 40] (fun t4 t40 wz => ∃ (j : Nat) (G : List LinkR) (A3 : Option Addr) (c3 u : Nat), t4 = .slice A3 u c3 ∧ t40 = .int .i64 j ∧ G.length = u ∧ j ≤ atts.length ∧ u ≤ r + j ∧ Hid (G = E ++ (atts.take j).flatMap (linkA path at0)) ∧ Hid (wz.ownsRow K 34 3 (.slice A3 u c3) u (linkCells G)) ∧ Hid (CB wz wy.heap.size 56 #[.int .i64 kd, .int .i64 (at0 : Int), .string nm, .string tx, .slice Ax atts.length cx]) ∧ Hid (LState K wo.heap.size path body (.slice (some ⟨bt, 0, none⟩) L.length ct) L w wz)) (fun _ t40 _ => atts.length - (intOf t40).toNat)
              case atStart => exact ⟨0, E, A2, c2, r, rfl, rfl, hr, Nat.zero_le _, Nat.le_refl _, by simp [Hid], HO0, HT0, HS0⟩
              case round =>
                clear HO0 HT0 HS0
                obtain ⟨j, G, A3, c3, u, rfl, rfl, hu, hj, huj, HG, HO3, HT3, HS3⟩ := hrel
                obtain ⟨wz, rfl⟩ : ∃ wz : World, wz = wr := ⟨_, rfl⟩
                have hKz : K ≤ wz.heap.size := by have h1 := HS3.out.bel.size; have h2 := HK.out; omega
                by_cases hjl : j < atts.length
                · obtain ⟨a, ha⟩ : ∃ x, atts[j]? = some x := ⟨_, List.getElem?_eq_getElem hjl⟩
                  obtain ⟨n0, n1⟩ := (HXA.out wz HS3.out).cells HAx.out ha
                  obtain rfl := HAx.out (by intro h; rw [h] at hjl; simp at hjl)
                  have HG2 := Lib.hid (link_step HG.out ha)
                  clear ha
                  have t1 : wz.cell? ⟨wy.heap.size, 1, none⟩ = some (.int .i64 (at0 : Int)) := HT3.out.c 1
                  have tl : wy.heap.size < wz.heap.size := HT3.out.lt
                  have o0 : wz.cell? ⟨wo.heap.size, 0, none⟩ = some (.string path) := HS3.out.out.c 0
                  have ol : wo.heap.size < wz.heap.size := HS3.out.out.lt
                  by_cases hlk : a.name = hrefN ∨ a.name = srcN
                  · have HG3 := Lib.hid (HG2.out.symm.trans (by rw [linkA_yes hlk]))
                    have HPush := Lib.hid (fun (W : World) (hW : Below wz.heap.size wz W) (hWo : W.ownsRow K 34 3 (.slice A3 u c3) u (linkCells G)) (w6 : World) (hg : W.grownBy w6 (Value.slice A3 u c3).ownBlock) (hb : Below K W w6) => (⟨CB.grown (HT3.out.below hW) hWo hg (by decide), (HS3.out.below hW hKz).grown hWo hg hb⟩ : CB w6 wy.heap.size 56 #[.int .i64 kd, .int .i64 (at0 : Int), .string nm, .string tx, .slice (some ⟨bx, 0, none⟩) atts.length cx] ∧ LState K wo.heap.size path body (.slice (some ⟨bt, 0, none⟩) L.length ct) L w w6))
                    by_cases h1 : a.name = hrefN
                    · have hs1 : (a.name.toList == [104, 114, 101, 102]) = true := nm_eq' h1
                      clear h1 hlk
                      go_wp2_with (at_builtin; go_must (refine wpList_push _ rfl (.tmp 52) (.tmp 60) 28 rfl K 34 _ 3 40 Tryz.underlying28 info_link rfl (by omega) (.slice A3 u c3) u _ rfl (own_alloc (own_alloc HO3.out _) _) (linkRow ⟨path, at0, a.value⟩) rfl _ rfl (cell_new _ (linkRow ⟨path, at0, a.value⟩) 34 _ (by rw [World.size_alloc])) (by intro u hu; simp [linkRow] at hu; rcases hu with rfl | rfl | rfl <;> rfl) (by omega) (by unfold maxLen; omega) (by simp; omega) ?_); intro g6 k6 w8 own6 hg6 hgg6 hb6; have HO6 := Lib.hid own6; have HP6 := Lib.hid (HPush.out _ (((Below.refl _ _).alloc (Nat.le_refl _) _).alloc (by simp) _) (own_alloc (own_alloc HO3.out _) _) _ hg6 hb6); clear own6 hg6 hgg6 hb6)
                      go_roundw
                      case rel => exact ⟨j + 1, G ++ [(⟨path, at0, a.value⟩ : LinkR)], _, _, u + 1, rfl, by go_num, by simp [hu], by omega, by omega, Lib.hid HG3.out.symm, Lib.hid (by rw [linkCells_snoc]; exact HO6.out), HP6.out.1, HP6.out.2⟩
                      case measure => simp [intOf]; omega
                    · have hs1 : (a.name.toList == [104, 114, 101, 102]) = false := nm_ne' h1
                      have hs2 : (a.name.toList == [115, 114, 99]) = true := nm_eq' (hlk.resolve_left h1)
                      clear h1 hlk
                      go_wp2_with (at_builtin; go_must (refine wpList_push _ rfl (.tmp 52) (.tmp 60) 28 rfl K 34 _ 3 40 Tryz.underlying28 info_link rfl (by omega) (.slice A3 u c3) u _ rfl (own_alloc (own_alloc HO3.out _) _) (linkRow ⟨path, at0, a.value⟩) rfl _ rfl (cell_new _ (linkRow ⟨path, at0, a.value⟩) 34 _ (by rw [World.size_alloc])) (by intro u hu; simp [linkRow] at hu; rcases hu with rfl | rfl | rfl <;> rfl) (by omega) (by unfold maxLen; omega) (by simp; omega) ?_); intro g6 k6 w8 own6 hg6 hgg6 hb6; have HO6 := Lib.hid own6; have HP6 := Lib.hid (HPush.out _ (((Below.refl _ _).alloc (Nat.le_refl _) _).alloc (by simp) _) (own_alloc (own_alloc HO3.out _) _) _ hg6 hb6); clear own6 hg6 hgg6 hb6)
                      go_roundw
                      case rel => exact ⟨j + 1, G ++ [(⟨path, at0, a.value⟩ : LinkR)], _, _, u + 1, rfl, by go_num, by simp [hu], by omega, by omega, Lib.hid HG3.out.symm, Lib.hid (by rw [linkCells_snoc]; exact HO6.out), HP6.out.1, HP6.out.2⟩
                      case measure => simp [intOf]; omega
                  · have h1 : a.name ≠ hrefN := fun e => hlk (Or.inl e)
                    have h2 : a.name ≠ srcN := fun e => hlk (Or.inr e)
                    have HG3 := Lib.hid (HG2.out.symm.trans (by rw [linkA_no h1 h2, List.append_nil]))
                    have hs1 : (a.name.toList == [104, 114, 101, 102]) = false := nm_ne' h1
                    have hs2 : (a.name.toList == [115, 114, 99]) = false := nm_ne' h2
                    clear h1 h2 hlk
                    go_wp2_with fail
                    go_roundw
                    case rel => exact ⟨j + 1, G, A3, c3, u, rfl, by go_num, hu, by omega, by omega, Lib.hid HG3.out.symm, own_alloc HO3.out _, HT3.out.alloc _, HS3.out.alloc hKz _⟩
                    case measure => simp [intOf]; omega
                · have HE4 := Lib.hid (show G = D ++ linksV path ((L.take (m + 1)).map (·.1)) by rw [HR2.out, HG.out, List.take_of_length_le (by omega), HE3.out, List.append_assoc]; rfl)
                  go_wp2_with fail
                  go_roundw
                  case rel => exact ⟨m + 1, G, A3, c3, u, rfl, by go_num, hu, by omega, by omega, HE4, HO3, HS3⟩
                  case measure => simp [intOf]; omega
            · have hml : m = L.length := by omega
              have HF := Lib.hid (show allLinks (l.take (k + 1)) = E by rw [all_step HR.out HX.out, HE3.out, hml, List.take_length, out_links HPb.out HL6.out.symm.symm])
              clear hml
              go_wp2_with fail
              go_roundw
              case rel => exact ⟨k + 1, E, A2, c2, r, rfl, by go_num, hr, by omega, by omega, HF, HE2, HO2, HS2.out.bel⟩
              case measure => simp [intOf]; omega
        · have HTe := Lib.hid hte
          have HF := Lib.hid (pagesE_yes HX.out HPb.out (show tokE body ≠ 0 by rw [hte]; decide))
          clear hte
          go_wp2_with (first
            | (go_at_call 29; go_must (refine (isPageR_q path body true _ (by omega) HPb.out).mono ?_); rintro e w5 ⟨rfl, hb5⟩; have HB5 := Lib.hid ((HB.out.alloc hKr _).trans (hb5.mono (by simp; omega))); have HX5 := Lib.hid ((CB.new wo #[.string path, .string body] 62).below hb5); have x0 : w5.cell? ⟨wo.heap.size, 0, none⟩ = some (.string path) := HX5.out.c 0; have x1 : w5.cell? ⟨wo.heap.size, 1, none⟩ = some (.string body) := HX5.out.c 1; have xl := HX5.out.lt; have hK5 : K ≤ w5.heap.size := (by omega); clear hb5)
            | (go_at_call 22; go_must (refine (tokensOf_q body w5 ((HM.out.keep HB5.out).up hK5)).mono ?_); rintro e w6 ⟨ov6, L, rfl, hl6, hO6, hb6⟩; rw [HTe.out]; have HB6 := Lib.hid (HB5.out.trans (hb6.mono hK5)); clear hl6 hO6 hb6))
          go_ret2
          exact LinksE.mk (D := []) HK.out.symm (by rw [refLinks, HF.out]; rfl) HF.out rfl (World.ownsRow_nil _ _ _ _) HB6.out
    · have hkl : k = l.length := by omega
      have HF := Lib.hid (pagesE_no (l := l) (by rw [← hkl]; exact HE.out))
      have HF2 := Lib.hid (show refLinks l = D by rw [refLinks, if_pos HF.out, ← HR.out, hkl, List.take_length])
      clear hkl
      go_wp2_with fail
      go_ret2
      exact LinksE.mk HK.out.symm HF2.out HF.out hq HO.out HB.out

end Go.Proofs.YtbhildmalcfhiaaGreatDoor

namespace Go.Proofs.YtbhildmalcfhiaaGreatDoor
open Go.RowKit Go.Deep

def intsV (r : List Nat) : List Value := r.map fun (n : Nat) => Value.int .i64 (n : Int)
theorem intsV_snoc (r : List Nat) (x : Nat) : intsV (r ++ [x]) = intsV r ++ [Value.int .i64 (x : Int)] := by simp [intsV]
/-- rows of numbers, each in a block of its own -/
structure RowsI (w : World) (B : Nat) (sv : List Value) (tt : List (List Nat)) : Prop where
  len : sv.length = tt.length
  own : ∀ (k : Nat) (v : Value) (r : List Nat), sv[k]? = some v → tt[k]? = some r → w.ownsRow B 3 1 v r.length (intsV r)
  sep : ∀ (j k : Nat) (u v : Value), j ≠ k → sv[j]? = some u → sv[k]? = some v → ∀ g, u.ownBlock = some g → v.ownBlock ≠ some g
section
variable {w w' : World} {B : Nat} {sv : List Value} {tt : List (List Nat)}
theorem RowsI.start (w : World) (B n : Nat) : RowsI w B (List.replicate n (.slice none 0 0)) (List.replicate n []) where
  len := by simp
  own := fun k v r hv hr => by
    by_cases hk : k < n
    · simp only [List.getElem?_replicate, hk, if_true, Option.some.injEq] at hv hr
      subst hv; subst hr
      exact World.ownsRow_nil w B _ 1
    · simp [hk] at hv
  sep := fun j k u v _ hu _ g hg => by
    rw [List.getElem?_replicate] at hu
    split at hu
    · cases hu; simp [Value.ownBlock] at hg
    · cases hu
theorem RowsI.below (h : RowsI w B sv tt) (hb : Below w.heap.size w w') : RowsI w' B sv tt :=
  ⟨h.len, fun k v r hv hr => own_stay (h.own k v r hv hr) hb, h.sep⟩
theorem RowsI.alloc (h : RowsI w B sv tt) (o : Obj) : RowsI (w.alloc o) B sv tt := h.below ((Below.refl _ _).alloc (Nat.le_refl _) o)
theorem RowsI.keepX {p : Nat → Prop} (h : RowsI w B sv tt) (g : GrownX p w w') (hp : ∀ x, p x → x < B) : RowsI w' B sv tt :=
  ⟨h.len, fun k v r hv hr => own_keepX (h.own k v r hv hr) g (fun b hb e => by have := own_block_ge (h.own k v r hv hr) b hb; have := hp b e; omega), h.sep⟩
theorem RowsI.push (h : RowsI w B sv tt) {k : Nat} {v : Value} {r : List Nat} (hv : sv[k]? = some v) {x g c : Nat}
    (ho : w'.ownsRow B 3 1 (.slice (some ⟨g, 0, none⟩) (r.length + 1) c) (r.length + 1) (intsV r ++ [Value.int .i64 (x : Int)])) (hg : w.grownBy w' v.ownBlock) (hgg : v.ownBlock = some g ∨ w.heap.size ≤ g) :
    RowsI w' B (sv.set k (.slice (some ⟨g, 0, none⟩) (r.length + 1) c)) (tt.set k (r ++ [x])) where
  len := by rw [List.length_set, List.length_set]; exact h.len
  own := fun j u q hu hq => by
    have hk : k < sv.length := (List.getElem?_eq_some_iff.1 hv).1
    rw [List.getElem?_set] at hu hq
    by_cases e : k = j
    · subst e
      rw [if_pos rfl, if_pos hk] at hu
      rw [if_pos rfl, if_pos (by rw [← h.len]; exact hk)] at hq
      cases hu; cases hq
      rw [List.length_append, intsV_snoc]
      exact ho
    · rw [if_neg e] at hu hq
      refine (h.own j u q hu hq).kept hg ?_
      cases hub : u.ownBlock with
      | none => exact Or.inl rfl
      | some b => exact Or.inr (fun e2 => h.sep j k u v (fun e3 => e e3.symm) hu hv b hub e2.symm)
  sep := fun j i u q hne hu hq b hb => by
    have hk : k < sv.length := (List.getElem?_eq_some_iff.1 hv).1
    rw [List.getElem?_set] at hu hq
    have lt : ∀ (m : Nat) (y : Value), sv[m]? = some y → ∀ b, y.ownBlock = some b → b < w.heap.size := fun m y hy b hb => by
      have hm : m < tt.length := by rw [← h.len]; exact (List.getElem?_eq_some_iff.1 hy).1
      exact own_lt (h.own m y _ hy (List.getElem?_eq_getElem hm)) b hb
    by_cases e : k = j
    · subst e
      rw [if_pos rfl, if_pos hk] at hu
      rw [if_neg hne] at hq
      cases hu
      have hb2 : g = b := by simpa [Value.ownBlock] using hb
      subst hb2
      intro hqb
      rcases hgg with hgg | hgg
      · exact h.sep k i v q hne hv hq g hgg hqb
      · have := lt i q hq g hqb; omega
    · rw [if_neg e] at hu
      by_cases e2 : k = i
      · subst e2
        rw [if_pos rfl, if_pos hk] at hq
        cases hq
        intro hqb
        have hb2 : g = b := by simpa [Value.ownBlock] using hqb
        subst hb2
        rcases hgg with hgg | hgg
        · exact h.sep j k u v hne hu hv g hb hgg
        · have := lt j u hu g hb; omega
      · rw [if_neg e2] at hq
        exact h.sep j i u q hne hu hq b hb
theorem RowsI.refs {n N : Nat} (h : RowsI w B sv tt) (hn : tt.length = n) (hm : n ≤ maxLen) (hc : CB w N 91 sv.toArray) : RefsAt w (.slice (some ⟨N, 0, none⟩) n n) tt := by
  refine ⟨_, n, N, by rw [hn], by omega, hm, fun _ => rfl, fun k r hr => ?_⟩
  have hk : k < sv.length := by rw [h.len]; exact (List.getElem?_eq_some_iff.1 hr).1
  obtain ⟨v, hv⟩ : ∃ v, sv[k]? = some v := ⟨_, List.getElem?_eq_getElem hk⟩
  exact ⟨v, by rw [hc.c k]; simpa using hv, OnesAt.of_own (h.own k v r hv hr)⟩
end

/-- the place to which a target leads -/
noncomputable def refI (l : List OutV) (p t : ByteArray) : Option Nat :=
  if outB t.data.toList = true ∨ (bareS t).size = 0 then none else (placeOf p t).bind fun x => if 0 ≤ reachI l x.1 x.2 then some (reachI l x.1 x.2).toNat else none
theorem refI_no {l : List OutV} {p t : ByteArray} (h : outB t.data.toList = true ∨ (bareS t).size = 0) : refI l p t = none := by rw [refI, if_pos h]
theorem refI_none {l : List OutV} {p t : ByteArray} (h : placeOf p t = none) : refI l p t = none := by
  unfold refI
  split
  · rfl
  · rw [h]; rfl
theorem refI_at {l : List OutV} {p t x : ByteArray} {d : Bool} (h : outB t.data.toList = false) (h0 : ¬ (bareS t).size = 0) (h2 : placeOf p t = some (x, d)) : refI l p t = if 0 ≤ reachI l x d then some (reachI l x d).toNat else none := by
  rw [refI, if_neg (by rw [h]; simp [h0]), h2]; rfl
/-- what page k leads to -/
noncomputable def rowOf (l : List OutV) (D : List LinkR) (k : Nat) : List Nat := D.filterMap fun x => if outAtI l x.path.data.toList = (k : Int) then refI l x.path x.target else none
theorem rowOf_take {l : List OutV} {D : List LinkR} {i k : Nat} {x : LinkR} (hx : D[i]? = some x) : rowOf l (D.take (i + 1)) k = rowOf l (D.take i) k ++ (if outAtI l x.path.data.toList = (k : Int) then refI l x.path x.target else none).toList := by
  obtain ⟨hi, rfl⟩ := List.getElem?_eq_some_iff.1 hx
  rw [rowOf, List.take_succ_eq_append_getElem hi, List.filterMap_append, rowOf]
  congr 1
theorem rowOf_len (l : List OutV) (D : List LinkR) (k : Nat) : (rowOf l D k).length ≤ D.length := List.length_filterMap_le _ _
theorem outAtI_lt {l : List OutV} {s : List UInt8} {k : Nat} (h : outAtI l s = (k : Int)) : k < l.length ∧ ∃ o, l[k]? = some o ∧ o.path.data.toList = s := by
  unfold outAtI at h
  cases hh : outAtN l s with
  | none => rw [hh] at h; simp at h
  | some i =>
    rw [hh] at h
    simp only at h
    have : i = k := by omega
    subst this
    rw [outAtN, List.findIdx?_eq_some_iff_getElem] at hh
    obtain ⟨h1, h2, _⟩ := hh
    exact ⟨h1, _, List.getElem?_eq_getElem h1, by simpa using h2⟩
theorem outAtI_mem {l : List OutV} {o : OutV} (h : o ∈ l) : ∃ k : Nat, outAtI l o.path.data.toList = (k : Int) := by
  unfold outAtI
  cases hh : outAtN l o.path.data.toList with
  | none =>
    rw [outAtN, List.findIdx?_eq_none_iff] at hh
    have := hh o h
    simp at this
  | some i => exact ⟨i, rfl⟩
theorem outAtI_range (l : List OutV) (s : List UInt8) : -1 ≤ outAtI l s ∧ outAtI l s < l.length := by
  cases hh : outAtN l s with
  | none => rw [outAtI, hh]; simp; omega
  | some i =>
    have : outAtI l s = (i : Int) := by rw [outAtI, hh]
    have h2 := (outAtI_lt this).1
    rw [this]; omega
theorem reachI_range (l : List OutV) (p : ByteArray) (d : Bool) : -1 ≤ reachI l p d ∧ reachI l p d < l.length := by
  unfold reachI
  split
  · exact outAtI_range _ _
  · exact outAtI_range _ _
theorem refI_lt {l : List OutV} {p t : ByteArray} {n : Nat} (h : refI l p t = some n) : n < l.length := by
  unfold refI at h
  split at h
  · cases h
  · cases hp : placeOf p t with
    | none => rw [hp] at h; cases h
    | some x =>
      rw [hp, Option.bind_some] at h
      split at h
      · cases h
        have := (reachI_range l x.1 x.2).2
        omega
      · cases h
theorem rowOf_lt {l : List OutV} {D : List LinkR} {k n : Nat} (h : n ∈ rowOf l D k) : n < l.length := by
  unfold rowOf at h
  obtain ⟨x, _, hx⟩ := List.mem_filterMap.1 h
  split at hx
  · exact refI_lt hx
  · cases hx
/-- all links of outputs: their pages are outputs, their targets are short -/
theorem allLinks_mem {l : List OutV} {x : LinkR} (h : x ∈ allLinks l) : (∃ o ∈ l, o.path = x.path) ∧ x.target.size ≤ 200000 := by
  obtain ⟨o, ho, hx⟩ := List.mem_flatMap.1 h
  unfold outLinks at hx
  split at hx
  · have := linksV_size hx
    exact ⟨⟨o, ho, this.2.symm⟩, this.1⟩
  · cases hx
theorem allLinks_len (l : List OutV) (h : l.length ≤ 480) : (allLinks l).length ≤ 1920000000000 := by
  have := flat_len (f := outLinks) (n := 4000000000) l (fun x _ => outLinks_len x)
  unfold allLinks
  omega

end Go.Proofs.YtbhildmalcfhiaaGreatDoor

namespace Go.Proofs.YtbhildmalcfhiaaGreatDoor
open Go.RowKit Go.ChangeShapes Go.WideShapes Go.Deep

theorem own_blockT {w : World} {B g n : Nat} {t : TypeId} {xs : List Value} (h : w.ownsRow B t 1 (.slice (some ⟨g, 0, none⟩) n n) n xs) : CB w g t xs.toArray := by
  obtain ⟨hl, h2⟩ := h
  rcases h2 with ⟨h3, _⟩ | ⟨g', cap', cur, h3, hB, hg, hnc, hm, hsz, htake⟩
  · cases h3
  · cases h3
    have e : cur = xs.toArray := by
      apply Array.ext'
      rw [← htake, List.take_of_length_le (by rw [Array.length_toList, hsz]; exact Nat.le_refl _)]
    rw [← e]
    exact hg
theorem info_intsC : (Tryz.prog.info? 91).map (fun i => (i.zero, i.size, i.bytes)) = some (some (.slice none 0 0), 1, 24) := by kernel_rfl
theorem info_intR : (Tryz.prog.info? 3).map (fun i => (i.zero, i.size, i.bytes)) = some (some (.int .i64 0), 1, 8) := by kernel_rfl
theorem endP_bound {p t : ByteArray} {L : List ByteArray} {d : Bool} (hp : p.size ≤ 200) (ht : t.size ≤ 1048000) (ho : resP (pageP p) (decS (bareS t)) = some L) : (endP L d).size ≤ 1048570 := by
  have h1 := endP_size (L := L) (d := d)
  have h2 := join_le (strs8 L)
  have h3 : (joinP L).size = (Lib.join (strs8 L) [47]).length := by rw [← size_toList]; rfl
  have h4 := walkP_sum _ _ _ ho
  have h5 : sumL (strs8 (cutP (decS (bareS t)))) = (decS (bareS t)).size + 1 := by rw [cutP_map, splitC_sum, size_toList]
  have h6 := decS_le (bareS t)
  have h7 := bareS_le t
  have h8 : sumL (strs8 (if Lib.hasPrefix (decS (bareS t)).data.toList [47] = true then [] else pageP p)) ≤ p.size + 1 := by
    split
    · simp [strs8, sumL]
    · exact pageP_sum p
  omega
/-- what refers returns -/
def RefersPost (l : List OutV) (w : World) (e : Ending) (w' : World) : Prop :=
  ∃ (v : Value) (tt : List (List Nat)), e = .returned v ∧ RefsAt w' v tt ∧ tt.length = l.length ∧ (∀ k r, tt[k]? = some r → r = rowOf l (allLinks l) k) ∧ Below w.heap.size w w'
/-- the rows say what the links before i say -/
def RowsOf (l : List OutV) (D : List LinkR) (tt : List (List Nat)) : Prop := tt.length = l.length ∧ ∀ k r, tt[k]? = some r → r = rowOf l D k
theorem RowsOf.skip {l : List OutV} {D : List LinkR} {i : Nat} {x : LinkR} {tt : List (List Nat)} (h : RowsOf l (D.take i) tt) (hx : D[i]? = some x) (hr : refI l x.path x.target = none) : RowsOf l (D.take (i + 1)) tt :=
  ⟨h.1, fun k r hk => by rw [rowOf_take hx, hr]; simp; exact h.2 k r hk⟩
theorem RowsOf.push {l : List OutV} {D : List LinkR} {i j n : Nat} {x : LinkR} {tt : List (List Nat)} {r : List Nat} (h : RowsOf l (D.take i) tt) (hx : D[i]? = some x) (hr : refI l x.path x.target = some n) (hj : outAtI l x.path.data.toList = (j : Int)) (hjr : tt[j]? = some r) : RowsOf l (D.take (i + 1)) (tt.set j (r ++ [n])) := by
  refine ⟨by rw [List.length_set]; exact h.1, fun k q hk => ?_⟩
  have hlt := (List.getElem?_eq_some_iff.1 hjr).1
  rw [List.getElem?_set] at hk
  rw [rowOf_take hx, hr, hj]
  by_cases e : j = k
  · subst e
    rw [if_pos rfl, if_pos hlt] at hk
    cases hk
    rw [if_pos rfl, ← h.2 j r hjr]; rfl
  · rw [if_neg e] at hk
    rw [if_neg (by omega)]
    simp
    exact h.2 k q hk

set_option maxRecDepth 100000 in
set_option maxHeartbeats 8000000 in
theorem refers_q (l : List OutV) (v : Value) (w : World) (h : OutsAt w v l) (hm : MaxT w.heap.size w) (hl : l.length ≤ 480) (hz : ∀ x ∈ l, pathB x.path = true) (h0 : pagesE l = 0) :
    Calls Tryz.prog 77 #[v] w (RefersPost l w) := by
  have HL := Lib.hid h
  have HMx0 := Lib.hid hm
  have HZ := Lib.hid hz
  have HLk := Lib.hid (fun w h hm => by
    have := linksOfR_q l v w h hm (fun x hx => by have := path_size (hz x hx); omega) hl
    rw [show refLinks l = allLinks l by rw [refLinks, if_pos h0]] at this
    exact this)
  have hDl := allLinks_len l hl
  have HDm := Lib.hid (fun x (hx : x ∈ allLinks l) => allLinks_mem hx)
  obtain ⟨Al, cl, bl, ol, rfl, hlc, hlcm, _, _⟩ := h
  obtain ⟨n, hn⟩ : ∃ n, l.length = n := ⟨_, rfl⟩
  have HLn := Lib.hid hn
  rw [hn] at hl hlc HL HLk
  have hnn : l.length ≤ 480 := by omega
  clear hz h0 hm
  obtain ⟨N, hN⟩ : ∃ N, w.heap.size = N := ⟨_, rfl⟩
  have HN := Lib.hid hN
  obtain ⟨i0, hi0, hz0, hz1, hz2⟩ := info_parts info_intsC
  go_enter Tryz.func77, Tryz.ntmps77
  rw [hn]
  go_upto_region 2 with (at_make; go_must (refine wpList_make_full _ rfl _ _ 131 rfl N 91 i0 (.slice none 0 0) 1 Tryz.underlying131 hi0 hz0 hz1 .i64 .i64 _ _ n rfl rfl rfl rfl (by rw [hz2]; omega) (by unfold maxLen; omega) (by omega) ?_); intro w6 own6 hg6; rw [hN] at own6; rw [hN]; have HO6 := Lib.hid own6; have HB6 := Lib.hid (show Below N w w6 from (Below.refl N w).grown hg6 (by omega) (fun k hk => by cases hk)); clear own6 hg6)
  have HC6 := Lib.hid (show CB w6 N 91 (List.replicate n (Value.slice none 0 0)).toArray by
    have := own_blockT HO6.out
    rw [Nat.mul_one, show (madeCells (Value.slice none 0 0).cells n).toList = List.replicate n (Value.slice none 0 0) from by rw [show (Value.slice none 0 0).cells = #[.slice none 0 0] from rfl, toList_madeCells_one]] at this
    exact this)
  have HL6 := Lib.hid (HL.out.keep (Keeps.of_below (by rw [HN.out]; exact HB6.out)))
  have HM6 := Lib.hid (show MaxT w6.heap.size w6 from (HMx0.out.keep (by rw [HN.out]; exact HB6.out)).up (by have := HB6.out.size; omega))
  clear HO6 hi0 hz0 hz1 hz2 hN hn
  go_wp2_with (go_at_call 11; go_loud (refine (HLk.out _ HL6.out HM6.out).mono ?_; rintro e w5 ⟨Ad, cd, rfl, ownD, hb⟩; have HOD := Lib.hid ownD; have HB5 := Lib.hid hb; clear ownD hb))
  clear HLk
  obtain ⟨D, hDe⟩ : ∃ D, allLinks l = D := ⟨_, rfl⟩
  rw [hDe] at hDl HDm HOD
  have HDe := Lib.hid hDe
  rw [hDe]
  obtain ⟨M, hM⟩ : ∃ M, w5.heap.size = M := ⟨_, rfl⟩
  have HMe := Lib.hid hM
  have hNM : N < M := by have := HC6.out.lt; have := HB5.out.size; omega
  have HC5 := Lib.hid (HC6.out.below HB5.out)
  have HB05 := Lib.hid (HB6.out.trans (HB5.out.mono (Nat.le_of_lt HC6.out.lt)))
  have HBw := Lib.hid (show ∀ wr, GrownX (fun x => x = N) w5 wr → Below N w wr from fun wr hg => HB05.out.trans (hg.below (by omega) (fun x e => by omega)))
  have HLo := Lib.hid (show ∀ wr, GrownX (fun x => x = N) w5 wr → OutsAt wr (.slice Al n cl) l from fun wr hg => HL.out.keep (Keeps.of_below (by rw [HN.out]; exact HBw.out wr hg)))
  have HMx := Lib.hid (show ∀ wr, GrownX (fun x => x = N) w5 wr → MaxAt wr from fun wr hg => HMx0.out.at_.keep (Keeps.of_below (by rw [HN.out]; exact HBw.out wr hg)))
  have HCell := Lib.hid (show ∀ wr, GrownX (fun x => x = N) w5 wr → ∀ k x, D[k]? = some x → ∃ g, Ad = some ⟨g, 0, none⟩ ∧ wr.cell? ⟨g, k * 3, none⟩ = some (.string x.path) ∧ wr.cell? ⟨g, k * 3 + 1, none⟩ = some (.int .i64 (x.at_ : Int)) ∧ wr.cell? ⟨g, k * 3 + 2, none⟩ = some (.string x.target) from fun wr hg k x hx => by
    have hk := (List.getElem?_eq_some_iff.1 hx).1
    have ho := own_keepX HOD.out hg (fun g h9 e => by have := own_block_ge HOD.out g h9; have := HC6.out.lt; omega)
    obtain ⟨A', c', hv, _, _, hA⟩ := own_form ho
    cases hv
    obtain ⟨g, hg2, _, _⟩ := hA (by omega)
    subst hg2
    have hc := linkCells_at hx
    refine ⟨g, rfl, ?_, ?_, ?_⟩
    · have := ho.cellAt (k * 3) (by omega); rw [hc.1] at this; exact this
    · have := ho.cellAt (k * 3 + 1) (by omega); rw [hc.2.1] at this; exact this
    · have := ho.cellAt (k * 3 + 2) (by omega); rw [hc.2.2] at this; exact this)
  clear hDe hM HC6 HOD HB6 HB5 HL6 HM6 HL HMx0 HB05
  go_loopw [25] (fun t25 wr => ∃ (k : Nat) (sv : List Value) (tt : List (List Nat)), k ≤ D.length ∧ t25 = .int .i64 k ∧ Hid (CB wr N 91 sv.toArray) ∧ Hid (RowsI wr M sv tt) ∧ Hid (RowsOf l (D.take k) tt) ∧ Hid (GrownX (fun x => x = N) w5 wr)) (fun t25 _ => D.length - (intOf t25).toNat)
  case atStart => exact ⟨0, _, _, Nat.zero_le _, rfl, HC5, RowsI.start _ _ _, ⟨by rw [List.length_replicate]; exact HLn.out.symm, fun k r hk => by
    by_cases h9 : k < n
    · simp only [List.getElem?_replicate, h9, if_true, Option.some.injEq] at hk
      rw [← hk]; rfl
    · simp [h9] at hk⟩, GrownX.refl _ _⟩
  case round =>
    clear HC5
    obtain ⟨k, sv, tt, hk, rfl, HC, HRI, HRo, HG⟩ := hrel
    obtain ⟨wo, rfl⟩ : ∃ wo : World, wo = wr := ⟨_, rfl⟩
    by_cases hlt : k < D.length
    · obtain ⟨x, hx⟩ : ∃ x, D[k]? = some x := ⟨_, List.getElem?_eq_getElem hlt⟩
      obtain ⟨g, rfl, p0, p1, p2⟩ := HCell.out wo HG.out k x hx
      obtain ⟨⟨o9, ho9, ho9e⟩, hts⟩ := HDm.out x (List.mem_of_getElem? hx)
      have hlpB : pathB x.path = true := by rw [← ho9e]; exact HZ.out o9 ho9
      obtain ⟨j, hj⟩ := outAtI_mem ho9
      rw [ho9e] at hj
      have HSk := Lib.hid (fun hr => HRo.out.skip hx hr)
      have HPu := Lib.hid (fun m r hr hjr => HRo.out.push (n := m) (r := r) hx hr hj hjr)
      clear hx ho9 ho9e o9
      obtain ⟨lp, la, tg⟩ := x
      simp only at p0 p1 p2 hts HSk HPu hlpB hj
      have HP := Lib.hid hlpB
      have hps : lp.size ≤ 200 := path_size hlpB
      clear hlpB
      have hjn := (outAtI_lt hj).1
      rw [HLn.out] at hjn
      have HJ := Lib.hid hj
      obtain ⟨vo, hvo⟩ : ∃ b, outB tg.data.toList = b := ⟨_, rfl⟩
      have HOut := Lib.hid (fun w => by have := outsideR_q tg w (by omega); rw [hvo] at this; exact this)
      obtain ⟨xb, hxb⟩ : ∃ b, bareS tg = b := ⟨_, rfl⟩
      have HSp := Lib.hid (fun w => (split_q tg w (by omega)).mono fun e w' ⟨x9, y9, h1, h2, h3⟩ => (⟨y9, by rw [h2, show x9 = xb from bytes_ext (by rw [h1, ← hxb]; rfl)], h3⟩ : ∃ y, e = Ending.returned (.tuple #[.string xb, .string y]) ∧ Below w.heap.size w w'))
      have hxbs : xb.size ≤ 200000 := by rw [← hxb]; exact Nat.le_trans (bareS_le tg) hts
      replace HG := Lib.hid (HG.out.alloc (.cells #[.string lp, .int .i64 (la : Int), .string tg] 34))
      replace HRI := Lib.hid (HRI.out.alloc (.cells #[.string lp, .int .i64 (la : Int), .string tg] 34))
      replace HC := Lib.hid (HC.out.alloc (.cells #[.string lp, .int .i64 (la : Int), .string tg] 34))
      have HT := Lib.hid (CB.new wo #[.string lp, .int .i64 (la : Int), .string tg] 34)
      obtain ⟨T, hT⟩ : ∃ T, wo.heap.size = T := ⟨_, rfl⟩
      rw [hT] at HT
      have HOa := Lib.hid (fun w h => outAt_q l (.slice Al n cl) lp (j : Int) w h hj)
      clear hj
      cases vo with
      | true =>
        have HR2 := Lib.hid (HSk.out (refI_no (Or.inl hvo)))
        clear hvo HSk HPu hxb
        go_wp2_with (first | (go_at_call 118; go_loud (refine (HSp.out _).mono ?_; rintro e w6 ⟨y0, rfl, hb⟩; replace HG := Lib.hid (HG.out.trans (.of_below hb)); replace HRI := Lib.hid (HRI.out.below hb); replace HT := Lib.hid (HT.out.below hb); replace HC := Lib.hid (HC.out.below hb); clear hb; have c0 : w6.cell? ⟨T, 0, none⟩ = some (.string lp) := HT.out.c 0; have c2 : w6.cell? ⟨T, 2, none⟩ = some (.string tg) := HT.out.c 2)) | (go_at_call 119; go_loud (refine (HOut.out _).mono ?_; rintro e w6 ⟨rfl, hb⟩; replace HG := Lib.hid (HG.out.trans (.of_below hb)); replace HRI := Lib.hid (HRI.out.below hb); replace HT := Lib.hid (HT.out.below hb); replace HC := Lib.hid (HC.out.below hb); clear hb; have c0 : w6.cell? ⟨T, 0, none⟩ = some (.string lp) := HT.out.c 0; have c2 : w6.cell? ⟨T, 2, none⟩ = some (.string tg) := HT.out.c 2)))
        go_roundw
        case rel => exact ⟨k + 1, sv, tt, by omega, by go_num, HC, HRI, Lib.hid HR2.out, HG⟩
        case measure => simp [intOf]; omega
      | false =>
        by_cases hx0 : xb.size = 0
        · have e0 := emptyP_true hx0
          have HR2 := Lib.hid (HSk.out (refI_no (Or.inr (by rw [hxb]; exact hx0))))
          clear hvo HSk HPu hxb hx0
          go_wp2_with (first | (go_at_call 118; go_loud (refine (HSp.out _).mono ?_; rintro e w6 ⟨y0, rfl, hb⟩; replace HG := Lib.hid (HG.out.trans (.of_below hb)); replace HRI := Lib.hid (HRI.out.below hb); replace HT := Lib.hid (HT.out.below hb); replace HC := Lib.hid (HC.out.below hb); clear hb; have c0 : w6.cell? ⟨T, 0, none⟩ = some (.string lp) := HT.out.c 0; have c2 : w6.cell? ⟨T, 2, none⟩ = some (.string tg) := HT.out.c 2)) | (go_at_call 119; go_loud (refine (HOut.out _).mono ?_; rintro e w6 ⟨rfl, hb⟩; replace HG := Lib.hid (HG.out.trans (.of_below hb)); replace HRI := Lib.hid (HRI.out.below hb); replace HT := Lib.hid (HT.out.below hb); replace HC := Lib.hid (HC.out.below hb); clear hb; have c0 : w6.cell? ⟨T, 0, none⟩ = some (.string lp) := HT.out.c 0; have c2 : w6.cell? ⟨T, 2, none⟩ = some (.string tg) := HT.out.c 2)))
          go_roundw
          case rel => exact ⟨k + 1, sv, tt, by omega, by go_num, HC, HRI, Lib.hid HR2.out, HG⟩
          case measure => simp [intOf]; omega
        have e0 := emptyP_false hx0
        have e0b : (xb.toList == []) = false := by cases hh : xb.toList with | nil => rw [hh] at e0; cases e0 | cons a b => rfl
        obtain ⟨s, hs⟩ : ∃ s, decS xb = s := ⟨_, rfl⟩
        obtain ⟨o, ho⟩ : ∃ o, resP (pageP lp) s = o := ⟨_, rfl⟩
        obtain ⟨d, hd⟩ : ∃ d, dirL (lastP s) = d := ⟨_, rfl⟩
        have HLe0 := Lib.hid (fun w hm => leads_q lp xb s o d w hm HP.out (by omega) hs ho hd)
        have hplace : placeOf lp tg = o.map fun L => (endP L d, d) := by rw [placeOf, hxb, if_neg hx0, hs, ho, hd]
        have hx1 : ¬ (bareS tg).size = 0 := by rw [hxb]; exact hx0
        cases o with
        | none =>
          have HR2 := Lib.hid (HSk.out (refI_none (by rw [hplace]; rfl)))
          obtain ⟨m, hm⟩ : ∃ m, reachI l ⟨#[]⟩ false = m := ⟨_, rfl⟩
          have HRe := Lib.hid (fun w h => reaches_q l (.slice Al n cl) ⟨#[]⟩ false m w h (by decide) hm)
          have HLe := Lib.hid (fun w hm => (HLe0.out w hm).mono fun e w' h9 => (⟨h9.1, h9.2⟩ : e = .returned (.tuple #[.string ⟨#[]⟩, .bool false, .bool false]) ∧ Below w.heap.size w w'))
          clear hvo HSk HPu hxb hx0 hs ho hd hplace hx1 HLe0 hm
          go_wp2_with (first | (go_at_call 118; go_loud (refine (HSp.out _).mono ?_; rintro e w6 ⟨y0, rfl, hb⟩; replace HG := Lib.hid (HG.out.trans (.of_below hb)); replace HRI := Lib.hid (HRI.out.below hb); replace HT := Lib.hid (HT.out.below hb); replace HC := Lib.hid (HC.out.below hb); clear hb; have c0 : w6.cell? ⟨T, 0, none⟩ = some (.string lp) := HT.out.c 0; have c2 : w6.cell? ⟨T, 2, none⟩ = some (.string tg) := HT.out.c 2)) | (go_at_call 119; go_loud (refine (HOut.out _).mono ?_; rintro e w6 ⟨rfl, hb⟩; replace HG := Lib.hid (HG.out.trans (.of_below hb)); replace HRI := Lib.hid (HRI.out.below hb); replace HT := Lib.hid (HT.out.below hb); replace HC := Lib.hid (HC.out.below hb); clear hb; have c0 : w6.cell? ⟨T, 0, none⟩ = some (.string lp) := HT.out.c 0; have c2 : w6.cell? ⟨T, 2, none⟩ = some (.string tg) := HT.out.c 2)) | (go_at_call 120; go_loud (refine (HLe.out _ (HMx.out _ HG.out)).mono ?_; rintro e w6 ⟨rfl, hb⟩; replace HG := Lib.hid (HG.out.trans (.of_below hb)); replace HRI := Lib.hid (HRI.out.below hb); replace HT := Lib.hid (HT.out.below hb); replace HC := Lib.hid (HC.out.below hb); clear hb; have c0 : w6.cell? ⟨T, 0, none⟩ = some (.string lp) := HT.out.c 0; have c2 : w6.cell? ⟨T, 2, none⟩ = some (.string tg) := HT.out.c 2)) | (go_at_call 121; go_loud (refine (HRe.out _ (HLo.out _ HG.out)).mono ?_; rintro e w6 ⟨rfl, hb⟩; replace HG := Lib.hid (HG.out.trans (.of_below hb)); replace HRI := Lib.hid (HRI.out.below hb); replace HT := Lib.hid (HT.out.below hb); replace HC := Lib.hid (HC.out.below hb); clear hb; have c0 : w6.cell? ⟨T, 0, none⟩ = some (.string lp) := HT.out.c 0; have c2 : w6.cell? ⟨T, 2, none⟩ = some (.string tg) := HT.out.c 2)))
          go_roundw
          case rel => exact ⟨k + 1, sv, tt, by omega, by go_num, HC, HRI, Lib.hid HR2.out, HG⟩
          case measure => simp [intOf]; omega
        | some L =>
          obtain ⟨y, hy⟩ : ∃ y, endP L d = y := ⟨_, rfl⟩
          obtain ⟨m0, hm⟩ : ∃ m, reachI l y d = m := ⟨_, rfl⟩
          have hmr := reachI_range l y d
          rw [hm] at hmr
          have hys : y.size ≤ 1048576 := by
            have := endP_bound (p := lp) (t := tg) (d := d) (L := L) hps (by omega) (by rw [hxb, hs, ho])
            rw [hy] at this; omega
          have HRe := Lib.hid (fun w h => reaches_q l (.slice Al n cl) y d m0 w h hys hm)
          have HLe := Lib.hid (fun w hm => (HLe0.out w hm).mono fun e w' h9 => (⟨by rw [h9.1]; show Ending.returned (.tuple #[.string (endP L d), .bool d, .bool true]) = _; rw [hy], h9.2⟩ : e = .returned (.tuple #[.string y, .bool d, .bool true]) ∧ Below w.heap.size w w'))
          have href := refI_at (l := l) hvo hx1 (hplace.trans (by rw [Option.map_some, hy]))
          rw [hm] at href
          by_cases h9 : 0 ≤ m0
          · obtain ⟨m, rfl⟩ : ∃ m : Nat, m0 = m := ⟨m0.toNat, by omega⟩
            rw [if_pos h9, Int.toNat_natCast] at href
            obtain ⟨rj, hrj⟩ : ∃ r, tt[j]? = some r := ⟨_, List.getElem?_eq_getElem (by rw [HRo.out.1, HLn.out]; exact hjn)⟩
            obtain ⟨sj, hsj⟩ : ∃ r, sv[j]? = some r := ⟨_, List.getElem?_eq_getElem (by rw [HRI.out.len, HRo.out.1, HLn.out]; exact hjn)⟩
            obtain ⟨Aj, cj, rfl, hcj, hcj2, _⟩ := own_form (HRI.out.own j sj rj hsj hrj)
            have hrl : rj.length ≤ 1920000000000 := by
              rw [HRo.out.2 j rj hrj]
              have := rowOf_len l (D.take k) j
              rw [List.length_take] at this
              omega
            have HSj := Lib.hid hsj
            have HTj := Lib.hid hrj
            have HR2 := Lib.hid (HPu.out m rj href hrj)
            have hjn2 : (j : Int) < (n : Int) := by omega
            unfold maxLen at hcj
            clear hvo HSk HPu hxb hx0 hs ho hd hplace hx1 HLe0 hm hy href hsj hrj
            go_wp2_with (first | (go_at_call 118; go_loud (refine (HSp.out _).mono ?_; rintro e w6 ⟨y0, rfl, hb⟩; replace HG := Lib.hid (HG.out.trans (.of_below hb)); replace HRI := Lib.hid (HRI.out.below hb); replace HT := Lib.hid (HT.out.below hb); replace HC := Lib.hid (HC.out.below hb); clear hb; have c0 : w6.cell? ⟨T, 0, none⟩ = some (.string lp) := HT.out.c 0; have c2 : w6.cell? ⟨T, 2, none⟩ = some (.string tg) := HT.out.c 2)) | (go_at_call 119; go_loud (refine (HOut.out _).mono ?_; rintro e w6 ⟨rfl, hb⟩; replace HG := Lib.hid (HG.out.trans (.of_below hb)); replace HRI := Lib.hid (HRI.out.below hb); replace HT := Lib.hid (HT.out.below hb); replace HC := Lib.hid (HC.out.below hb); clear hb; have c0 : w6.cell? ⟨T, 0, none⟩ = some (.string lp) := HT.out.c 0; have c2 : w6.cell? ⟨T, 2, none⟩ = some (.string tg) := HT.out.c 2)) | (go_at_call 120; go_loud (refine (HLe.out _ (HMx.out _ HG.out)).mono ?_; rintro e w6 ⟨rfl, hb⟩; replace HG := Lib.hid (HG.out.trans (.of_below hb)); replace HRI := Lib.hid (HRI.out.below hb); replace HT := Lib.hid (HT.out.below hb); replace HC := Lib.hid (HC.out.below hb); clear hb; have c0 : w6.cell? ⟨T, 0, none⟩ = some (.string lp) := HT.out.c 0; have c2 : w6.cell? ⟨T, 2, none⟩ = some (.string tg) := HT.out.c 2)) | (go_at_call 121; go_loud (refine (HRe.out _ (HLo.out _ HG.out)).mono ?_; rintro e w6 ⟨rfl, hb⟩; replace HG := Lib.hid (HG.out.trans (.of_below hb)); replace HRI := Lib.hid (HRI.out.below hb); replace HT := Lib.hid (HT.out.below hb); replace HC := Lib.hid (HC.out.below hb); clear hb; have c0 : w6.cell? ⟨T, 0, none⟩ = some (.string lp) := HT.out.c 0; have c2 : w6.cell? ⟨T, 2, none⟩ = some (.string tg) := HT.out.c 2)) | (go_at_call 42; go_loud (refine (HOa.out _ (HLo.out _ HG.out)).mono ?_; rintro e w6 ⟨rfl, hb⟩; replace HG := Lib.hid (HG.out.trans (.of_below hb)); replace HRI := Lib.hid (HRI.out.below hb); replace HT := Lib.hid (HT.out.below hb); replace HC := Lib.hid (HC.out.below hb); clear hb; have c0 : w6.cell? ⟨T, 0, none⟩ = some (.string lp) := HT.out.c 0; have c2 : w6.cell? ⟨T, 2, none⟩ = some (.string tg) := HT.out.c 2; have n0 : w6.cell? ⟨N, j, none⟩ = some (.slice Aj rj.length cj) := (by rw [HC.out.c j]; simpa using HSj.out); have n0f := HC.out.f j)) | (at_builtin; go_loud (have hh := own_alloc (HRI.out.own j _ _ HSj.out HTj.out) (.cells #[.int .i64 (m : Int)] 3); have k1 : (rj.length + 1) * 8 ≤ 140737488355328 := (by omega); have k2 : rj.length + 1 ≤ maxLen := (by unfold maxLen; omega); have k3 : M ≤ (World.alloc w6 (.cells #[.int .i64 (m : Int)] 3)).heap.size := (by have := HG.out.size; have := HMe.out; simp; omega); have k4 := cell_new w6 [.int .i64 (m : Int)] 3 (World.heap w6).size rfl; go_must (refine wpList_push _ rfl (.tmp 68) (.tmp 70) 91 rfl M 3 (.int .i64 0) 1 8 Tryz.underlying91 info_intR rfl (by omega) (.slice Aj rj.length cj) rj.length _ rfl hh [.int .i64 (m : Int)] rfl _ (by first | rfl | simp) k4 (one_int _ _) k1 k2 k3 ?_); clear k1 k2 k3 k4; intro g9 c9 w9 own9 hg9 hgg9 hb9; have HC9 := Lib.hid (CB.grown (HC.out.alloc (.cells #[.int .i64 (m : Int)] 3)) hh hg9 (by decide)); have HR9 := Lib.hid ((HRI.out.alloc (.cells #[.int .i64 (m : Int)] 3)).push HSj.out own9 hg9 hgg9); have HG9 := Lib.hid (HG.out.trans2 ((GrownX.refl (fun x => M ≤ x) w6).alloc (.cells #[.int .i64 (m : Int)] 3) |>.trans (GrownX.of_grown hg9 (fun g hgx => own_block_ge hh g hgx))) (fun x hx e => absurd hx (by have := HMe.out; omega))); clear hh own9 hg9 hgg9 hb9; have n9 : w9.cell? ⟨N, j, none⟩ = some (.slice Aj rj.length cj) := (by rw [HC9.out.c j]; simpa using HSj.out); have n9f := HC9.out.f j)))
            go_roundw
            case rel => exact ⟨k + 1, _, _, by omega, by go_num, Lib.hid (by have := HC9.out.put j (.slice (some ⟨g9, 0, none⟩) (rj.length + 1) c9); rw [show sv.toArray.setIfInBounds j (.slice (some ⟨g9, 0, none⟩) (rj.length + 1) c9) = (sv.set j (.slice (some ⟨g9, 0, none⟩) (rj.length + 1) c9)).toArray from by simp] at this; exact this), Lib.hid (HR9.out.keepX (GrownX.one0 _ _ _ _) (fun x e => by omega)), HR2, Lib.hid (HG9.out.set (Or.inl rfl) _ _)⟩
            case measure => simp [intOf]; omega
          · rw [if_neg h9] at href
            have HR2 := Lib.hid (HSk.out href)
            clear hvo HSk HPu hxb hx0 hs ho hd hplace hx1 HLe0 hm hy href
            go_wp2_with (first | (go_at_call 118; go_loud (refine (HSp.out _).mono ?_; rintro e w6 ⟨y0, rfl, hb⟩; replace HG := Lib.hid (HG.out.trans (.of_below hb)); replace HRI := Lib.hid (HRI.out.below hb); replace HT := Lib.hid (HT.out.below hb); replace HC := Lib.hid (HC.out.below hb); clear hb; have c0 : w6.cell? ⟨T, 0, none⟩ = some (.string lp) := HT.out.c 0; have c2 : w6.cell? ⟨T, 2, none⟩ = some (.string tg) := HT.out.c 2)) | (go_at_call 119; go_loud (refine (HOut.out _).mono ?_; rintro e w6 ⟨rfl, hb⟩; replace HG := Lib.hid (HG.out.trans (.of_below hb)); replace HRI := Lib.hid (HRI.out.below hb); replace HT := Lib.hid (HT.out.below hb); replace HC := Lib.hid (HC.out.below hb); clear hb; have c0 : w6.cell? ⟨T, 0, none⟩ = some (.string lp) := HT.out.c 0; have c2 : w6.cell? ⟨T, 2, none⟩ = some (.string tg) := HT.out.c 2)) | (go_at_call 120; go_loud (refine (HLe.out _ (HMx.out _ HG.out)).mono ?_; rintro e w6 ⟨rfl, hb⟩; replace HG := Lib.hid (HG.out.trans (.of_below hb)); replace HRI := Lib.hid (HRI.out.below hb); replace HT := Lib.hid (HT.out.below hb); replace HC := Lib.hid (HC.out.below hb); clear hb; have c0 : w6.cell? ⟨T, 0, none⟩ = some (.string lp) := HT.out.c 0; have c2 : w6.cell? ⟨T, 2, none⟩ = some (.string tg) := HT.out.c 2)) | (go_at_call 121; go_loud (refine (HRe.out _ (HLo.out _ HG.out)).mono ?_; rintro e w6 ⟨rfl, hb⟩; replace HG := Lib.hid (HG.out.trans (.of_below hb)); replace HRI := Lib.hid (HRI.out.below hb); replace HT := Lib.hid (HT.out.below hb); replace HC := Lib.hid (HC.out.below hb); clear hb; have c0 : w6.cell? ⟨T, 0, none⟩ = some (.string lp) := HT.out.c 0; have c2 : w6.cell? ⟨T, 2, none⟩ = some (.string tg) := HT.out.c 2)))
            go_roundw
            case rel => exact ⟨k + 1, sv, tt, by omega, by go_num, HC, HRI, Lib.hid HR2.out, HG⟩
            case measure => simp [intOf]; omega
    · have hke : D.take k = D := List.take_of_length_le (by omega)
      have HF := Lib.hid HRo.out
      rw [hke] at HF
      clear hke
      go_wp2_with fail
      go_ret
      exact ⟨_, tt, rfl, HRI.out.refs (by rw [HF.out.1]; exact HLn.out) (by unfold maxLen; omega) HC.out, HF.out.1, fun k r hk => by rw [HDe.out]; exact HF.out.2 k r hk, by rw [HN.out]; exact HBw.out _ HG.out⟩

end Go.Proofs.YtbhildmalcfhiaaGreatDoor
