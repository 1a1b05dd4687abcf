/-
  Addresses: page.partsOf, mastref1.IsAddress, page.address.
-/
import Derived.Test.YtebhbgamdhjdkaaDoorAddrPlain
import Derived.Test.YtebhbgamdhjdkaaDoorOwn
namespace Go.Proofs.YtebhbgamdhjdkaaDoor
open Go.RowKit Go.Deep

/-- strings as cells -/
def pstrs (l : List ByteArray) : List Value := l.map Value.string
theorem pstrs_get {l : List ByteArray} {i : Nat} {p : ByteArray} (h : l[i]? = some p) : (pstrs l)[i]? = some (.string p) := by simp [pstrs, h]

/-- a list of strings that is read; nil is let in -/
def PL (w : World) (v : Value) (l : List ByteArray) : Prop :=
  ∃ (A : Option Addr) (c b o : Nat), v = .slice A l.length c ∧ l.length ≤ c ∧ c ≤ maxLen ∧ ((A = none ∧ c = 0) ∨ A = some ⟨b, o, none⟩) ∧ ∀ i s, l[i]? = some s → w.cell? ⟨b, o + i, none⟩ = some (.string s)
theorem PL.keep {w w' : World} {v : Value} {l : List ByteArray} (h : PL w v l) (k : Keeps w w') : PL w' v l := by
  obtain ⟨A, c, b, o, h1, h2, h3, h4, h5⟩ := h
  exact ⟨A, c, b, o, h1, h2, h3, h4, fun i s hi => k _ _ (h5 i s hi)⟩
theorem PL.nil (w : World) : PL w (.slice none 0 0) [] := ⟨none, 0, 0, 0, rfl, Nat.le_refl _, by simp [maxLen], Or.inl ⟨rfl, rfl⟩, fun i s h => by simp at h⟩
theorem PL.laid (w : World) (l : List ByteArray) (hl : l.length ≤ maxLen) : PL (w.alloc (.cells (l.map Value.string).toArray 9)) (.slice (some ⟨w.heap.size, 0, none⟩) l.length l.length) l :=
  ⟨_, _, w.heap.size, 0, rfl, Nat.le_refl _, hl, Or.inr rfl, fun i s hi => by rw [Nat.zero_add]; exact cell_new w (l.map Value.string) 9 w.heap.size rfl i _ (by rw [List.getElem?_map, hi]; rfl)⟩
theorem PL.of_own {w : World} {B : Nat} {v : Value} {n : Nat} {l : List ByteArray} (h : w.ownsRow B 9 1 v n (pstrs l)) : PL w v l := by
  obtain ⟨A, c, b, o, h1, h2, h3, h4, h5⟩ := OnesAt.of_own h
  have hl : (pstrs l).length = l.length := by simp [pstrs]
  rw [hl] at h1 h2
  rcases h.2 with ⟨rfl, h0⟩ | ⟨g, cap, cur, rfl, hB, hg, hnc, hm, hsz, htake⟩
  · have hn : n = l.length := by have := h.1; omega
    have : l = [] := List.eq_nil_of_length_eq_zero (by omega)
    subst this
    exact PL.nil w
  · cases h1
    refine ⟨_, _, g, 0, rfl, h2, h3, Or.inr rfl, fun i s hi => ?_⟩
    have hne : pstrs l ≠ [] := by
      intro e
      have hl0 : l = [] := List.eq_nil_of_length_eq_zero (by have := congrArg List.length e; rw [hl] at this; simpa using this)
      rw [hl0] at hi
      simp at hi
    have := h4 hne
    cases this
    exact h5 i _ (pstrs_get hi)
/-- the same without the last -/
theorem PL.init {w : World} {A : Option Addr} {m c : Nat} {l : List ByteArray} (h : PL w (.slice A m c) l) : PL w (.slice A (m - 1) c) l.dropLast := by
  obtain ⟨A', c', b, o, h1, h2, h3, h4, h5⟩ := h
  cases h1
  refine ⟨_, _, b, o, by simp, by simp; omega, h3, h4, fun i s hi => h5 i s ?_⟩
  rw [List.dropLast_eq_take, List.getElem?_take] at hi
  split at hi
  · exact hi
  · cases hi

/-- the cell that strings.Split wants -/
def MaxCell (w : World) : Prop := ∃ m : Int, w.cell? ⟨0, 0, none⟩ = some (.int .i64 m)
theorem MaxCell.keep {w w' : World} (h : MaxCell w) (k : Keeps w w') : MaxCell w' := h.elim fun m hm => ⟨m, k _ _ hm⟩

/-- a string cut at strokes -/
def CutPost (s : ByteArray) (w : World) (e : Ending) (w' : World) : Prop := ∃ A, e = .returned (.slice A (cutS s).length (cutS s).length) ∧ PL w' (.slice A (cutS s).length (cutS s).length) (cutS s) ∧ Below w.heap.size w w'
theorem split_q (s : ByteArray) (w : World) (hm : MaxCell w) (hs : s.size ≤ 1048576) : Calls Tryd.prog 61 #[.string s, .string ⟨#[47]⟩] w (CutPost s w) := by
  obtain ⟨m, hm⟩ := hm
  refine (Tryd.strings_Split s ⟨#[47]⟩ m w (by omega) hm (by decide)).mono fun e w' ⟨h1, h2⟩ => ?_
  subst h1 h2
  have hl := cut_le s
  rw [← cut_len]
  exact ⟨_, rfl, PL.laid w (cutS s) (by unfold maxLen; omega), (Below.refl _ _).alloc (Nat.le_refl _) _⟩

theorem joinAt (u p : ByteArray) : (u ++ (p ++ ⟨#[47]⟩)).data.toList = u.data.toList ++ (p.data.toList ++ [47]) := by simp

set_option maxHeartbeats 2000000 in
theorem address_q (l : List ByteArray) (v : Value) (w : World) (h : PL w v l) (hb : (addrB l).length ≤ 1048576) : Calls Tryd.prog 63 #[v] w fun e w' => ∃ z : ByteArray, e = .returned (.string z) ∧ z.data.toList = addrB l ∧ w = w' := by
  obtain ⟨A, c, b, o, rfl, hlc, hc, hA, hcell⟩ := h
  unfold maxLen at hc
  have HC := Lib.hid hcell; clear hcell
  have HA := Lib.hid hA; clear hA
  have hll := addrB_len l
  go_enter Tryd.func63, Tryd.ntmps63
  go_wp2_with fail
  go_loopw [3, 8] (fun t3 t wr => ∃ (k : Nat) (u : ByteArray), k ≤ l.length ∧ t3 = .string u ∧ t = .int .i64 k ∧ EqW wr w ∧ Hid (u.data.toList = addrB (l.take k))) (fun _ t _ => l.length - (intOf t).toNat)
  case atStart => exact ⟨0, ⟨#[47]⟩, Nat.zero_le _, rfl, rfl, EqW.refl _, (show _ = _ by simp [addrB, joinL])⟩
  case round =>
    obtain ⟨k, u, hk, rfl, rfl, hww, hu⟩ := hrel
    unfold EqW at hww
    subst hww
    have hus : u.size ≤ 1048576 := by rw [← size_toList, hu.out]; have := addrB_take_le l k; omega
    by_cases hlt : k < l.length
    · obtain ⟨p, hp⟩ : ∃ p, l[k]? = some p := ⟨_, List.getElem?_eq_getElem hlt⟩
      have hA2 : A = some ⟨b, o, none⟩ := HA.out.elim (fun h => by have := h.2; omega) id
      subst hA2
      have p0 := HC.out k p hp
      have hps : p.size ≤ 1048576 := by have := addrB_mem (List.mem_of_getElem? hp); omega
      have HT := Lib.hid (addrB_take hp)
      clear hp
      go_wp2_with fail
      go_roundw
      case rel => exact ⟨k + 1, u ++ (p ++ ⟨#[47]⟩), by omega, rfl, by go_num, EqW.refl _, Lib.hid (by rw [joinAt, hu.out, HT.out])⟩
      case measure => simp [intOf]; omega
    · have hke : l.take k = l := List.take_of_length_le (by omega)
      have HU := Lib.hid (show u.data.toList = addrB l by rw [hu.out, hke])
      clear hke
      go_wp2_with fail
      go_ret
      exact ⟨u, rfl, HU.out, rfl⟩

-- THE FORM
theorem form_bad {s : ByteArray} (h0 : ¬ s.data.toList = [47]) (h : s.size < 2 ∨ 200 < s.size ∨ (∃ c, s.data.toList[0]? = some c ∧ ¬ (c.toNat : Int) = 47) ∨ (∃ c, s.data.toList[s.size - 1]? = some c ∧ ¬ (c.toNat : Int) = 47)) : addrOk s = none := by
  refine addrOk_none h0 fun ⟨a, b, c, d, _⟩ => ?_
  rcases h with h | h | ⟨x, h1, h2⟩ | ⟨x, h1, h2⟩
  · omega
  · omega
  · rw [h1] at c; cases c; exact h2 rfl
  · rw [h1] at d; cases d; exact h2 rfl
theorem form_part {s p : ByteArray} {k : Nat} (h0 : ¬ s.data.toList = [47]) (hp : (cutS (s.extract 1 (s.size - 1)))[k]? = some p) (hb : partS p.data.toList = false) : addrOk s = none := by
  refine addrOk_none h0 fun ⟨_, _, _, _, e⟩ => ?_
  rw [e p (List.mem_of_getElem? hp)] at hb
  cases hb
theorem u47 {c : UInt8} (h : (c.toNat : Int) = 47) : c = 47 := UInt8.toNat.inj (by have : (47 : UInt8).toNat = 47 := rfl; omega)
theorem form_good {s : ByteArray} (h0 : ¬ s.data.toList = [47]) (h2 : 2 ≤ s.size) (h3 : s.size ≤ 200) {c d : UInt8} (hc : s.data.toList[0]? = some c) (hc2 : (c.toNat : Int) = 47) (hd : s.data.toList[s.size - 1]? = some d) (hd2 : (d.toNat : Int) = 47)
    (ha : ∀ (k : Nat) (p : ByteArray), (cutS (s.extract 1 (s.size - 1)))[k]? = some p → partS p.data.toList = true) : addrOk s = some (cutS (s.extract 1 (s.size - 1))) :=
  addrOk_some h0 ⟨h2, h3, by rw [hc, u47 hc2], by rw [hd, u47 hd2], fun p hp => by obtain ⟨k, hk⟩ := List.getElem?_of_mem hp; exact ha k p hk⟩

/-- the parts of an address, or none -/
def PartsPost (s : ByteArray) (w : World) (e : Ending) (w' : World) : Prop :=
  ∃ (v : Value) (b : Bool), e = .returned (.tuple #[v, .bool b]) ∧ Below w.heap.size w w' ∧ ((b = true ∧ ∃ L, addrOk s = some L ∧ PL w' v L) ∨ (b = false ∧ addrOk s = none ∧ v = .slice none 0 0))

set_option maxRecDepth 100000 in
set_option maxHeartbeats 4000000 in
theorem partsOf_q (s : ByteArray) (w : World) (hm : MaxCell w) : Calls Tryd.prog 60 #[.string s] w ((PartsPost s w)) := by
  by_cases hr : s.data.toList = [47]
  · have HX := Lib.hid (addrOk_root hr)
    have f1 : s.toList = [47] := by rw [Go.ByteArray.toList_eq]; exact hr
    have f2 : s.size = 1 := by rw [← size_toList, hr]; rfl
    have f3 : (s[0].toNat : Int) = 47 := by
      have h := byteQ (s := s) (k := 0) (by omega)
      rw [hr] at h
      have h2 : (47 : UInt8) = s[0] := by simpa using h
      rw [← h2]; rfl
    clear hr
    go_enter Tryd.func60, Tryd.ntmps60
    go_wp2_with fail
    all_goals first
      | (exfalso; omega)
      | skip
    go_ret2
    exact ⟨_, _, rfl, Below.refl _ _, Or.inl ⟨rfl, [], HX.out, PL.nil _⟩⟩
  have HR := Lib.hid hr
  have f1 : (s.toList == [47]) = false := by rw [Go.ByteArray.toList_eq]; simpa using hr
  by_cases hs1 : s.size < 1
  · have HX := Lib.hid (form_bad hr (Or.inl (by omega)))
    clear hr
    go_enter Tryd.func60, Tryd.ntmps60
    go_wp2_with fail
    all_goals first
      | (exfalso; omega)
      | skip
    go_ret2
    exact ⟨_, _, rfl, Below.refl _ _, Or.inr ⟨rfl, HX.out, rfl⟩⟩
  have h0 : 0 < s.size := by omega
  by_cases hs2 : 200 < s.size
  · have HX := Lib.hid (form_bad hr (Or.inr (Or.inl hs2)))
    clear hr
    go_enter Tryd.func60, Tryd.ntmps60
    go_wp2_with fail
    all_goals first
      | (exfalso; omega)
      | skip
    go_ret2
    exact ⟨_, _, rfl, Below.refl _ _, Or.inr ⟨rfl, HX.out, rfl⟩⟩
  by_cases hs3 : s.size < 2
  · have HX := Lib.hid (form_bad hr (Or.inl hs3))
    clear hr
    go_enter Tryd.func60, Tryd.ntmps60
    go_wp2_with fail
    all_goals first
      | (exfalso; omega)
      | skip
    go_ret2
    exact ⟨_, _, rfl, Below.refl _ _, Or.inr ⟨rfl, HX.out, rfl⟩⟩
  by_cases hc : (s[0].toNat : Int) = 47
  case neg =>
    have HX := Lib.hid (form_bad hr (Or.inr (Or.inr (Or.inl ⟨_, byteQ h0, hc⟩))))
    have hc1 : ((s[0].toNat : Int) != 47) = true := by simpa using hc
    clear hr hc
    go_enter Tryd.func60, Tryd.ntmps60
    go_wp2_with fail
    all_goals first
      | (exfalso; omega)
      | skip
    go_ret2
    exact ⟨_, _, rfl, Below.refl _ _, Or.inr ⟨rfl, HX.out, rfl⟩⟩
  obtain ⟨q, hq⟩ : ∃ q, s.size = q + 1 := ⟨s.size - 1, by omega⟩
  have hqs : q < s.size := by omega
  have hq1 : s.size - 1 = q := by omega
  by_cases hd : (s[q].toNat : Int) = 47
  case neg =>
    have HX := Lib.hid (form_bad hr (Or.inr (Or.inr (Or.inr ⟨_, by rw [hq1]; exact byteQ hqs, hd⟩))))
    have hc1 : ((s[q].toNat : Int) != 47) = true := by simpa using hd
    clear hr hd hq1
    go_enter Tryd.func60, Tryd.ntmps60
    go_wp2_with fail
    all_goals first
      | (exfalso; omega)
      | skip
    go_ret2
    exact ⟨_, _, rfl, Below.refl _ _, Or.inr ⟨rfl, HX.out, rfl⟩⟩
  have HGood := Lib.hid (fun ha => form_good (s := s) hr (by omega) (by omega) (byteQ h0) hc (by rw [hq1]; exact byteQ hqs) hd ha)
  have HBad := Lib.hid (fun (k : Nat) (p : ByteArray) hp hb => form_part (s := s) (k := k) (p := p) hr hp hb)
  rw [hq1] at HGood HBad
  obtain ⟨mid, hmid⟩ : ∃ mid, s.extract 1 q = mid := ⟨_, rfl⟩
  rw [hmid] at HGood HBad
  have hms : mid.size ≤ 200 := by rw [← hmid, ByteArray.size_extract]; omega
  have hI1 : (1 : Int) ≤ (q : Int) := by omega
  have hI2 : (q : Int) ≤ (s.size : Int) := by omega
  have HM := Lib.hid hm
  clear hr hm hq1
  go_enter Tryd.func60, Tryd.ntmps60
  go_wp2_with fail
  all_goals first
    | (exfalso; omega)
    | skip
  refine (split_q mid _ HM.out (by omega)).mono ?_
  rintro e w1 ⟨A, rfl, hp1, hb1⟩
  obtain ⟨l, hl⟩ : ∃ l, cutS mid = l := ⟨_, rfl⟩
  rw [hl] at HGood HBad hp1
  rw [hl]
  have hll : l.length ≤ 201 := by rw [← hl]; have := cut_le mid; omega
  clear hl
  have HP1 := Lib.hid hp1
  have HB1 := Lib.hid hb1
  obtain ⟨A', c', b, o, hv, hlc, hcm, hA, hcell⟩ := hp1
  cases hv
  have HA := Lib.hid hA
  have HC := Lib.hid hcell
  clear hb1 hA hcell hcm
  go_wp2_with fail
  go_loopw [38] (fun t wr => ∃ k : Nat, k ≤ l.length ∧ t = .int .i64 k ∧ EqW wr w1 ∧ Hid (∀ (j : Nat) (p : ByteArray), l[j]? = some p → j < k → partS p.data.toList = true)) (fun t _ => l.length - (intOf t).toNat)
  case atStart => exact ⟨0, Nat.zero_le _, rfl, EqW.refl _, fun j c _ h => absurd h (by omega)⟩
  case round =>
    obtain ⟨k, hk, rfl, hww, hall⟩ := hrel
    unfold EqW at hww
    subst hww
    by_cases hlt : k < l.length
    · obtain ⟨p, hp⟩ : ∃ p, l[k]? = some p := ⟨_, List.getElem?_eq_getElem hlt⟩
      have hA2 : A = some ⟨b, o, none⟩ := HA.out.elim (fun h => by have := h.2; omega) id
      subst hA2
      have p0 := HC.out k p hp
      have HPp := Lib.hid hp
      cases hpp : partS p.data.toList
      · have HX := Lib.hid (HBad.out k p hp hpp)
        clear hp
        go_wp2_with (go_at_call 62; go_must (refine (isPart_q _ _).mono ?_); rintro e w3 ⟨rfl, rfl⟩)
        go_ret2
        exact ⟨_, _, rfl, HB1.out, Or.inr ⟨rfl, HX.out, rfl⟩⟩
      · have HPP := Lib.hid hpp
        clear hp
        go_wp2_with (go_at_call 62; go_must (refine (isPart_q _ _).mono ?_); rintro e w3 ⟨rfl, rfl⟩)
        go_roundw
        case rel =>
          refine ⟨k + 1, by omega, by go_num, EqW.refl _, fun j c h3 h4 => ?_⟩
          rcases Nat.lt_succ_iff_lt_or_eq.1 h4 with h5 | rfl
          · exact hall.out j c h3 h5
          · rw [HPp.out] at h3
            cases h3
            exact HPP.out
        case measure => simp [intOf]; omega
    · have HX := Lib.hid (HGood.out (fun j p h3 => hall.out j p h3 (by have := (List.getElem?_eq_some_iff.1 h3).1; omega)))
      clear hall
      go_wp2_with fail
      go_ret2
      exact ⟨_, _, rfl, HB1.out, Or.inl ⟨rfl, _, HX.out, HP1.out⟩⟩

set_option maxRecDepth 100000 in
set_option maxHeartbeats 4000000 in
theorem isAddress_q (s : ByteArray) (w : World) (hm : MaxCell w) : Calls Tryd.prog 64 #[.string s] w (fun e w' => e = .returned (.bool (addrOk s).isSome) ∧ Below w.heap.size w w') := by
  by_cases hr : s.data.toList = [47]
  · have HX := Lib.hid (addrOk_root hr)
    have f1 : s.toList = [47] := by rw [Go.ByteArray.toList_eq]; exact hr
    have f2 : s.size = 1 := by rw [← size_toList, hr]; rfl
    have f3 : (s[0].toNat : Int) = 47 := by
      have h := byteQ (s := s) (k := 0) (by omega)
      rw [hr] at h
      have h2 : (47 : UInt8) = s[0] := by simpa using h
      rw [← h2]; rfl
    clear hr
    go_enter Tryd.func64, Tryd.ntmps64
    go_wp2_with fail
    all_goals first
      | (exfalso; omega)
      | skip
    go_ret
    exact ⟨ret_bool (by rw [HX.out]; rfl), Below.refl _ _⟩
  have HR := Lib.hid hr
  have f1 : (s.toList == [47]) = false := by rw [Go.ByteArray.toList_eq]; simpa using hr
  by_cases hs1 : s.size < 1
  · have HX := Lib.hid (form_bad hr (Or.inl (by omega)))
    clear hr
    go_enter Tryd.func64, Tryd.ntmps64
    go_wp2_with fail
    all_goals first
      | (exfalso; omega)
      | skip
    go_ret
    exact ⟨ret_bool (by rw [HX.out]; rfl), Below.refl _ _⟩
  have h0 : 0 < s.size := by omega
  by_cases hs2 : 200 < s.size
  · have HX := Lib.hid (form_bad hr (Or.inr (Or.inl hs2)))
    clear hr
    go_enter Tryd.func64, Tryd.ntmps64
    go_wp2_with fail
    all_goals first
      | (exfalso; omega)
      | skip
    go_ret
    exact ⟨ret_bool (by rw [HX.out]; rfl), Below.refl _ _⟩
  by_cases hs3 : s.size < 2
  · have HX := Lib.hid (form_bad hr (Or.inl hs3))
    have hq0 : s.size = 1 := by omega
    have hcn : ¬ (s[0].toNat : Int) = 47 := fun e => hr (by
      have h1 := byteQ h0
      rw [u47 e] at h1
      cases hl : s.data.toList with
      | nil => rw [hl] at h1; simp at h1
      | cons a r =>
        have h2 := size_toList s
        rw [hl] at h1 h2
        simp at h1 h2
        have : r = [] := List.eq_nil_of_length_eq_zero (by omega)
        rw [h1, this])
    have hc1 : ((s[0].toNat : Int) != 47) = true := by simpa using hcn
    clear hr hcn
    go_enter Tryd.func64, Tryd.ntmps64
    go_wp2_with fail
    all_goals first
      | (exfalso; omega)
      | skip
    go_ret
    exact ⟨ret_bool (by rw [HX.out]; rfl), Below.refl _ _⟩
  by_cases hc : (s[0].toNat : Int) = 47
  case neg =>
    have HX := Lib.hid (form_bad hr (Or.inr (Or.inr (Or.inl ⟨_, byteQ h0, hc⟩))))
    have hc1 : ((s[0].toNat : Int) != 47) = true := by simpa using hc
    clear hr hc
    go_enter Tryd.func64, Tryd.ntmps64
    go_wp2_with fail
    all_goals first
      | (exfalso; omega)
      | skip
    go_ret
    exact ⟨ret_bool (by rw [HX.out]; rfl), Below.refl _ _⟩
  obtain ⟨q, hq⟩ : ∃ q, s.size = q + 1 := ⟨s.size - 1, by omega⟩
  have hqs : q < s.size := by omega
  have hq1 : s.size - 1 = q := by omega
  by_cases hd : (s[q].toNat : Int) = 47
  case neg =>
    have HX := Lib.hid (form_bad hr (Or.inr (Or.inr (Or.inr ⟨_, by rw [hq1]; exact byteQ hqs, hd⟩))))
    have hc1 : ((s[q].toNat : Int) != 47) = true := by simpa using hd
    clear hr hd hq1
    go_enter Tryd.func64, Tryd.ntmps64
    go_wp2_with fail
    all_goals first
      | (exfalso; omega)
      | skip
    go_ret
    exact ⟨ret_bool (by rw [HX.out]; rfl), Below.refl _ _⟩
  have HGood := Lib.hid (fun ha => form_good (s := s) hr (by omega) (by omega) (byteQ h0) hc (by rw [hq1]; exact byteQ hqs) hd ha)
  have HBad := Lib.hid (fun (k : Nat) (p : ByteArray) hp hb => form_part (s := s) (k := k) (p := p) hr hp hb)
  rw [hq1] at HGood HBad
  obtain ⟨mid, hmid⟩ : ∃ mid, s.extract 1 q = mid := ⟨_, rfl⟩
  rw [hmid] at HGood HBad
  have hms : mid.size ≤ 200 := by rw [← hmid, ByteArray.size_extract]; omega
  have hI1 : (1 : Int) ≤ (q : Int) := by omega
  have hI2 : (q : Int) ≤ (s.size : Int) := by omega
  have HM := Lib.hid hm
  clear hr hm hq1
  go_enter Tryd.func64, Tryd.ntmps64
  go_wp2_with fail
  all_goals first
    | (exfalso; omega)
    | skip
  refine (split_q mid _ HM.out (by omega)).mono ?_
  rintro e w1 ⟨A, rfl, hp1, hb1⟩
  obtain ⟨l, hl⟩ : ∃ l, cutS mid = l := ⟨_, rfl⟩
  rw [hl] at HGood HBad hp1
  rw [hl]
  have hll : l.length ≤ 201 := by rw [← hl]; have := cut_le mid; omega
  clear hl
  have HP1 := Lib.hid hp1
  have HB1 := Lib.hid hb1
  obtain ⟨A', c', b, o, hv, hlc, hcm, hA, hcell⟩ := hp1
  cases hv
  have HA := Lib.hid hA
  have HC := Lib.hid hcell
  clear hb1 hA hcell hcm
  go_wp2_with fail
  go_loopw [35] (fun t wr => ∃ k : Nat, k ≤ l.length ∧ t = .int .i64 k ∧ EqW wr w1 ∧ Hid (∀ (j : Nat) (p : ByteArray), l[j]? = some p → j < k → partS p.data.toList = true)) (fun t _ => l.length - (intOf t).toNat)
  case atStart => exact ⟨0, Nat.zero_le _, rfl, EqW.refl _, fun j c _ h => absurd h (by omega)⟩
  case round =>
    obtain ⟨k, hk, rfl, hww, hall⟩ := hrel
    unfold EqW at hww
    subst hww
    by_cases hlt : k < l.length
    · obtain ⟨p, hp⟩ : ∃ p, l[k]? = some p := ⟨_, List.getElem?_eq_getElem hlt⟩
      have hA2 : A = some ⟨b, o, none⟩ := HA.out.elim (fun h => by have := h.2; omega) id
      subst hA2
      have p0 := HC.out k p hp
      have HPp := Lib.hid hp
      cases hpp : partS p.data.toList
      · have HX := Lib.hid (HBad.out k p hp hpp)
        clear hp
        go_wp2_with (go_at_call 66; go_must (refine (pathPart_q _ _).mono ?_); rintro e w3 ⟨rfl, rfl⟩)
        go_ret
        exact ⟨ret_bool (by rw [HX.out]; rfl), HB1.out⟩
      · have HPP := Lib.hid hpp
        clear hp
        go_wp2_with (go_at_call 66; go_must (refine (pathPart_q _ _).mono ?_); rintro e w3 ⟨rfl, rfl⟩)
        go_roundw
        case rel =>
          refine ⟨k + 1, by omega, by go_num, EqW.refl _, fun j c h3 h4 => ?_⟩
          rcases Nat.lt_succ_iff_lt_or_eq.1 h4 with h5 | rfl
          · exact hall.out j c h3 h5
          · rw [HPp.out] at h3
            cases h3
            exact HPP.out
        case measure => simp [intOf]; omega
    · have HX := Lib.hid (HGood.out (fun j p h3 => hall.out j p h3 (by have := (List.getElem?_eq_some_iff.1 h3).1; omega)))
      clear hall
      go_wp2_with fail
      go_ret
      exact ⟨ret_bool (by rw [HX.out]; rfl), HB1.out⟩

end Go.Proofs.YtebhbgamdhjdkaaDoor
