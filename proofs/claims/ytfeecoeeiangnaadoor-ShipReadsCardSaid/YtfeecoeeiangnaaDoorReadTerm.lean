/-
  ship.readTerm: what is behind term.
-/
import Derived.Test.YtfeecoeeiangnaaDoorReadDoc
namespace Go.Proofs.YtfeecoeeiangnaaDoor
open Go.RowKit Go.Deep

theorem own_base {w : World} {B B' K n : Nat} {e : TypeId} {v : Value} {xs : List Value} (h : w.ownsRow B' e K v n xs) (hB : B ≤ B') : w.ownsRow B e K v n xs := by
  obtain ⟨hl, h2⟩ := h
  rcases h2 with h2 | ⟨g, cap, cur, h1, h3, h4⟩
  · exact ⟨hl, Or.inl h2⟩
  · exact ⟨hl, Or.inr ⟨g, cap, cur, h1, Nat.le_trans hB h3, h4⟩⟩
theorem own_setT {w : World} {B K n b o : Nat} {e t : TypeId} {v : Value} {xs : List Value} {cs : Array Value} (h : w.ownsRow B e K v n xs) (hc : CB w b t cs) (hne : t ≠ e) (x : Value) : (w.setCell ⟨b, o, none⟩ x).ownsRow B e K v n xs := own_rowT h (grown_setB w b o x) (RowT.cb hc hne)
def docsQ (Q : List ByteArray) : List Int := Q.map fun q => ((numV (pairA q.data.toList) : Nat) : Int)
def manyQ (Q : List ByteArray) : List Int := Q.map fun q => ((numV (pairZ q.data.toList) : Nat) : Int)
theorem take_map {α β : Type} {f : α → β} {l : List α} {k : Nat} {n : α} (h : l[k]? = some n) : (l.take (k + 1)).map f = (l.take k).map f ++ [f n] := by
  obtain ⟨hk, rfl⟩ := List.getElem?_eq_some_iff.1 h
  rw [List.take_succ_eq_append_getElem hk, List.map_append, List.map_cons, List.map_nil]

theorem splitC_mem (c : UInt8) : ∀ (l x : List UInt8), x ∈ splitC c l → x.length ≤ l.length
  | [], x, h => by simp [splitC] at h; subst h; exact Nat.le_refl _
  | b :: l, x, h => by
    have ih := splitC_mem c l
    rw [splitC] at h
    split at h
    · rcases List.mem_cons.1 h with rfl | h
      · simp
      · have := ih x h; rw [List.length_cons]; omega
    · split at h
      · simp at h; subst h; simp
      · rename_i p r hr
        rcases List.mem_cons.1 h with rfl | h
        · have := ih p (by rw [hr]; simp)
          simp only [List.length_cons]; omega
        · have := ih x (by rw [hr]; exact List.mem_cons_of_mem _ h)
          rw [List.length_cons]; omega
theorem pair_no {Q : List ByteArray} {l : List UInt8} {j : Nat} {q : ByteArray} (hQ : Q.map (·.data.toList) = (splitC 32 l).tail) (hq : Q[j]? = some q) (h : pairOk q.data.toList = false) : termOk l = false := by
  have h1 : ((splitC 32 l).tail.all pairOk) = false := by
    rw [← hQ, List.all_eq_false]
    exact ⟨q.data.toList, List.mem_map.2 ⟨q, List.mem_of_getElem? hq, rfl⟩, by simp [h]⟩
  rw [termOk, h1, Bool.and_false]
theorem splitC_len (c : UInt8) : ∀ l : List UInt8, (splitC c l).length ≤ l.length + 1
  | [] => Nat.le_refl _
  | b :: l => by
    have ih := splitC_len c l
    rw [splitC]
    split
    · rw [List.length_cons, List.length_cons]; omega
    · split
      · simp
      · rename_i h; rw [h] at ih; simp only [List.length_cons] at ih ⊢; omega
/-- the pieces of a split at one byte, in a block of the call's own -/
def SplitPost (c : UInt8) (s : ByteArray) (w : World) (e : Ending) (w' : World) : Prop :=
  ∃ (p : ByteArray) (Q : List ByteArray), e = .returned (.slice (some ⟨w.heap.size, 0, none⟩) (Q.length + 1) (Q.length + 1)) ∧ CB w' w.heap.size 9 ((p :: Q).map Value.string).toArray ∧ p.data.toList = bef c s.data.toList ∧ Q.map (·.data.toList) = (splitC c s.data.toList).tail ∧ Below w.heap.size w w' ∧ w'.heap.size = w.heap.size + 1
theorem splitC_q (s : ByteArray) (c : UInt8) (w : World) (hs : s.size ≤ 1048576) (hm : MaxAt w) : Calls Tryd.prog 25 #[.string s, .string ⟨#[c]⟩] w (SplitPost c s w) := by
  obtain ⟨m, hm⟩ := hm
  refine (Tryd.strings_Split s ⟨#[c]⟩ m w (by omega) hm (Nat.le_refl _)).mono fun e w' ⟨he, hw⟩ => ?_
  have h1 := split_map c s
  have h2 := Lib.splitB_all ⟨#[c]⟩ (Nat.le_refl _) 0 _ s rfl
  rw [splitC_eq] at h1
  cases hp : Lib.splitB ⟨#[c]⟩ 0 (Lib.countB s ⟨#[c]⟩) s with
  | nil => rw [hp] at h1; cases h1
  | cons p Q =>
    rw [hp] at h1 h2 hw
    rw [List.map_cons, List.cons.injEq] at h1
    rw [List.length_cons] at h2
    refine ⟨p, Q, by rw [he, ← h2], by rw [hw]; exact CB.new _ _ _, h1.1, ?_, ?_, ?_⟩
    · rw [h1.2, splitC_eq c s.data.toList]; rfl
    · rw [hw]; exact (Below.refl _ _).alloc (Nat.le_refl _) _
    · rw [hw, World.size_alloc]
/-- strings.Cut at one byte -/
theorem cutC_q (s a z : ByteArray) (c : UInt8) (w : World) (hs : s.size ≤ 1048576) (hm : MaxAt w) (ha : a.data.toList = bef c s.data.toList) (hz : z.data.toList = (aft c s.data.toList).tail) :
    Calls Tryd.prog 17 #[.string s, .string ⟨#[c]⟩] w fun e w' => e = .returned (.tuple #[.string a, .string z, .bool (decide (0 ≤ Lib.index s.data.toList [c]))]) ∧ Below w.heap.size w w' := by
  obtain ⟨m, hm⟩ := hm
  refine (Tryd.strings_Cut s ⟨#[c]⟩ m w (by omega) hm).mono fun e w' ⟨he, n, hw⟩ => ⟨?_, by rw [hw]; exact Below.drewN' (Below.refl _ _) n⟩
  have hcut : Lib.cut s.data.toList (⟨#[c]⟩ : ByteArray).data.toList = (a.data.toList, z.data.toList, decide (0 ≤ Lib.index s.data.toList [c])) := by
    show Lib.cut s.data.toList [c] = _
    rw [Lib.cut, ha, hz, Lib.index_one]
    rcases ib_cases c s.data.toList with ⟨h1, h2, h3⟩ | ⟨k, h1, hk, h3, h4, h5⟩
    · rw [h1, h2, h3, if_neg (by decide)]; rfl
    · rw [h1, if_pos (by omega), h3, h4, List.tail_drop]
      simp
  rw [he, hcut]

theorem termD_eq {l : List UInt8} {p : ByteArray} {Q : List ByteArray} (hp : p.data.toList = bef 32 l) (hQ : Q.map (·.data.toList) = (splitC 32 l).tail) : termD l = ⟨p, docsQ Q, manyQ Q⟩ := by
  rw [termD, ← hp, ← hQ, bs_of]
  simp [docsQ, manyQ, Function.comp_def]
theorem term_all {l : List UInt8} {p : ByteArray} {Q : List ByteArray} (hp : p.data.toList = bef 32 l) (hQ : Q.map (·.data.toList) = (splitC 32 l).tail) (hn : 1 ≤ Q.length) (hok : ∀ q ∈ Q, pairOk q.data.toList = true) : termOk l = !p.data.toList.isEmpty := by
  have h1 : (Q.map (·.data.toList)).all pairOk = true := by rw [List.all_map, List.all_eq_true]; exact hok
  have h2 : (Q.map (·.data.toList)).isEmpty = false := by cases Q with | nil => simp at hn | cons _ _ => rfl
  rw [termOk, ← hp, ← hQ, h1, h2]
  simp
theorem term_nil {l : List UInt8} (hQ : ([] : List ByteArray).map (·.data.toList) = (splitC 32 l).tail) : termOk l = false := by
  rw [termOk, ← hQ]; simp
def TermPost (B bx : Nat) (s : St) (l : List UInt8) (w : World) (e : Ending) (w' : World) : Prop := e = .returned (.bool (termOk l)) ∧ Below B w w' ∧
  (termOk l = true → ∃ (dv sv tv : Value) (L : List (TermR × Value × Value)), CB w' bx 26 #[dv, sv, tv] ∧ IdxOwn w' B dv sv tv ⟨s.D, s.S, s.T ++ [termD l]⟩ L)
theorem TermPost.no {B bx : Nat} {s : St} {l : List UInt8} {w w' : World} (h : termOk l = false) (hb : Below B w w') : TermPost B bx s l w (.returned (.bool false)) w' :=
  ⟨by rw [h], hb, fun h1 => by rw [h] at h1; cases h1⟩
theorem TermPost.yes {B bx : Nat} {s : St} {l : List UInt8} {w w' : World} (dv sv tv : Value) (L : List (TermR × Value × Value)) (h : termOk l = true) (hb : Below B w w') (hc : CB w' bx 26 #[dv, sv, tv]) (ho : IdxOwn w' B dv sv tv ⟨s.D, s.S, s.T ++ [termD l]⟩ L) : TermPost B bx s l w (.returned (.bool true)) w' :=
  ⟨by rw [h], hb, fun _ => ⟨dv, sv, tv, L, hc, ho⟩⟩
theorem TermPost.cast {B bx : Nat} {s : St} {l : List UInt8} {w w' : World} {x : Bool} (h : TermPost B bx s l w (.returned (.bool true)) w') (hx : x = true) : TermPost B bx s l w (.returned (.bool x)) w' := by rw [hx]; exact h
theorem apart_nil2 (c : Nat) (v : Value) : Apart (.slice none 0 c) v := Apart.nil v c

set_option maxRecDepth 100000 in
set_option maxHeartbeats 8000000 in
theorem readTerm_q (B bx : Nat) (s : St) (dv sv tv : Value) (L : List (TermR × Value × Value)) (l : ByteArray) (w : World) (hB : B ≤ bx) (hbx : CB w bx 26 #[dv, sv, tv]) (ho : IdxOwn w B dv sv tv s L) (hl : l.size ≤ 1048576) (hn : L.length ≤ 1048576) (hm : MaxAt w) :
    Calls Tryd.prog 20 #[.pointer (some ⟨bx, 0, none⟩), .string l] w (TermPost B bx s l.data.toList w) := by
  obtain ⟨A3, c3, rfl, _, _, _⟩ := own_form ho.ot
  have HX := Lib.hid hbx; clear hbx
  have HOw := Lib.hid ho; clear ho
  have hbxw : bx < w.heap.size := HX.out.lt
  have HMx := Lib.hid hm; clear hm
  have hBw : B ≤ w.heap.size := by have := HX.out.lt; omega
  obtain ⟨N, hN⟩ : ∃ N, w.heap.size = N := ⟨_, rfl⟩
  go_enter Tryd.func20, Tryd.ntmps20
  go_wp2_with fail
  refine (splitC_q l 32 w hl HMx.out).mono ?_
  rintro e w1 ⟨p, Q, rfl, hcp, hp, hQ, hb1, hs1⟩
  rw [hN] at hcp hs1 hBw ⊢
  have hcp0 : w1.cell? ⟨N, 0, none⟩ = some (.string p) := hcp.c 0
  have HCp := Lib.hid hcp; clear hcp
  have HP := Lib.hid hp; clear hp
  have HQ := Lib.hid hQ; clear hQ
  rw [hN] at hb1
  have HB1 := Lib.hid hb1; clear hb1
  have HN := Lib.hid hN; clear hN
  have hQl : Q.length ≤ 1048577 := by
    have h1 := congrArg List.length HQ.out
    rw [List.length_map, List.length_tail] at h1
    have h2 := splitC_len 32 l.data.toList
    rw [size_toList] at h2
    omega
  have hpos : (0 : Int) < ((Q.length : Int) + 1) := by omega
  cases Q with
  | nil =>
    go_wp2_with fail
    have HBt0 := Lib.hid (show CB (w1.alloc (.cells #[.string p, .slice none 0 0, .slice none 0 0] 61)) (N + 1) 61 #[.string p, .slice none 0 0, .slice none 0 0] by have h9 := CB.new w1 #[.string p, .slice none 0 0, .slice none 0 0] 61; rw [hs1] at h9; exact h9)
    have hN1 : N ≤ w1.heap.size := by omega
    go_loopw [25] (fun t25 wr => t25 = .int .i64 0 ∧ Hid (CB wr (N + 1) 61 #[.string p, .slice none 0 0, .slice none 0 0]) ∧ Hid (Below N w wr)) (fun _ _ => 0)
    case atStart => exact ⟨rfl, HBt0.out, HB1.out.alloc hN1 _⟩
    case round =>
      obtain ⟨rfl, HBt, HBw⟩ := hrel
      have HT := Lib.hid (term_nil HQ.out)
      have HX5 := Lib.hid (HX.out.belowB HBw.out (by have := HN.out; omega))
      have HOw5 := Lib.hid (HOw.out.below (by rw [HN.out]; exact HBw.out))
      have hbN : bx < N := by have := HN.out; omega
      have hltN : N + 1 < wr.heap.size := HBt.out.lt; have hltb : bx < wr.heap.size := HX5.out.lt
      have b0 : wr.cell? ⟨N + 1, 0, none⟩ = some (.string p) := HBt.out.c 0
      have b1 : wr.cell? ⟨N + 1, 1, none⟩ = some (.slice none 0 0) := HBt.out.c 1
      have b2 : wr.cell? ⟨N + 1, 2, none⟩ = some (.slice none 0 0) := HBt.out.c 2
      have z2 : wr.cell? ⟨bx, 2, none⟩ = some (.slice A3 L.length c3) := HX5.out.c 2
      go_wp2_with fail
      go_region_law (refine step_pushR rfl (.tmp 68) (.tmp 70) 24 rfl B 61 _ 3 64 Tryd.underlying24 info_term rfl (by omega) (.slice A3 L.length c3) L.length _ (by simp [Act.eval]) (own_alloc (own_drew HOw5.out.ot) _) [.string p, .slice none 0 0, .slice none 0 0] rfl _ (by simp [Act.eval]) (cell_new _ [.string p, .slice none 0 0, .slice none 0 0] 61 _ rfl) (by intro u hu; simp at hu; rcases hu with rfl | rfl | rfl <;> rfl) (by omega) (by unfold maxLen; omega) (by simp; omega) ?_
                     intro g6 k6 w6 own6 hg6 hgg6 hb6
                     have HX6 := Lib.hid (((HX5.out.drew).alloc (.cells #[.string p, .slice none 0 0, .slice none 0 0] 61)).push (own_alloc (own_drew HOw5.out.ot) _) (by decide) hg6)
                     have HBt6 := Lib.hid (((HBt.out.drew).alloc (.cells #[.string p, .slice none 0 0, .slice none 0 0] 61)).other hg6 (by intro he; have h9 := (own_lt HOw.out.ot _ he.symm); have h8 := HN.out; omega))
                     have u2 : w6.cell? ⟨bx, 2, none⟩ = some (.slice A3 L.length c3) := HX6.out.c 2
                     have u2f := HX6.out.f 2
                     have u2s := HX6.out.sh)
      all_goals
        clear b0 b1 b2 z2
        have HB6 := Lib.hid (show Below B w w6 from (((HBw.out.mono hBw).alloc (by omega) (.cells #[.string p, .slice none 0 0, .slice none 0 0] 61)).drew).trans hb6)
        skip
        clear own6 hg6 hgg6 hb6
        obtain ⟨w7, hw7⟩ : ∃ w7, w6.setCell ⟨bx, 2, none⟩ (.slice (some ⟨g6, 0, none⟩) (L.length + 1) k6) = w7 := ⟨_, rfl⟩
        rw [hw7]
        have hne : N + 1 ≠ bx := by omega
        have HBt7 := Lib.hid (show CB w7 (N + 1) 61 #[.string p, .slice none 0 0, .slice none 0 0] by rw [← hw7]; exact HBt6.out.set_other hne _)
        have HB7 := Lib.hid (show Below B w w7 by rw [← hw7]; exact HB6.out.setCell hB _)
        skip
        clear hw7 u2 u2f u2s
        have d0 : w7.cell? ⟨N + 1, 0, none⟩ = some (.string p) := HBt7.out.c 0
        have d1 : w7.cell? ⟨N + 1, 1, none⟩ = some (.slice none 0 0) := HBt7.out.c 1
        by_cases hp0 : p.data.toList = []
        · have e0 := isE_true hp0
          clear hp0
          go_wp2_with fail
          go_ret
          exact TermPost.no HT.out HB7.out
        · have e0 := isE_false hp0
          clear hp0
          go_wp2_with fail
          go_ret
          exact TermPost.no HT.out HB7.out
  | cons q0 Q0 =>
    obtain ⟨Q, hQe⟩ : ∃ Q, q0 :: Q0 = Q := ⟨_, rfl⟩
    rw [hQe] at HCp HQ hQl hpos ⊢
    have hlen1 : 1 ≤ Q.length := by rw [← hQe]; simp
    clear hQe
    have hq0 : ¬ Q.length = 0 := by omega
    go_wp2_with fail
    have HBt0 := Lib.hid (show CB (w1.alloc (.cells #[.string p, .slice none 0 0, .slice none 0 0] 61)) (N + 1) 61 #[.string p, .slice none 0 0, .slice none 0 0] by have h9 := CB.new w1 #[.string p, .slice none 0 0, .slice none 0 0] 61; rw [hs1] at h9; exact h9)
    have hN1 : N ≤ w1.heap.size := by omega
    go_loopw [25] (fun t25 wr => ∃ (j : Nat) (A4 : Option Addr) (c4 : Nat) (A5 : Option Addr) (c5 : Nat), j ≤ Q.length ∧ t25 = .int .i64 j ∧ Hid (CB wr N 9 ((p :: Q).map Value.string).toArray) ∧ Hid (CB wr (N + 1) 61 #[.string p, .slice A4 j c4, .slice A5 j c5]) ∧ Hid (wr.ownsRow (N + 2) 3 1 (.slice A4 j c4) j (intCells (docsQ (Q.take j)))) ∧ Hid (wr.ownsRow (N + 2) 3 1 (.slice A5 j c5) j (intCells (manyQ (Q.take j)))) ∧ Hid (Apart (.slice A4 j c4) (.slice A5 j c5)) ∧ Hid (Below N w wr) ∧ Hid (∀ q ∈ Q.take j, pairOk q.data.toList = true)) (fun t _ => Q.length - (intOf t).toNat)
    case atStart => exact ⟨0, none, 0, none, 0, Nat.zero_le _, rfl, HCp.out.alloc _, HBt0.out, World.ownsRow_nil _ _ _ _, World.ownsRow_nil _ _ _ _, Apart.nil _ _, HB1.out.alloc hN1 _, fun q hq => by simp at hq⟩
    case round =>
      obtain ⟨j, A4, c4, A5, c5, hj, rfl, HCp, HBt, HD, HM, HAp, HBw, HOk⟩ := hrel
      by_cases hlt : j < Q.length
      · obtain ⟨q, hq⟩ : ∃ q, Q[j]? = some q := ⟨_, List.getElem?_eq_getElem hlt⟩
        have c1 : wr.cell? ⟨N, 1 + j, none⟩ = some (.string q) := by
          rw [HCp.out.c (1 + j), Nat.add_comm]
          simp [hq]
        have hqs : q.size ≤ 1048576 := by
          have h1 : q.data.toList ∈ splitC 32 l.data.toList := List.mem_of_mem_tail (by rw [← HQ.out]; exact List.mem_map.2 ⟨q, List.mem_of_getElem? hq, rfl⟩)
          have h2 := splitC_mem 32 _ _ h1
          rw [size_toList, size_toList] at h2
          omega
        have HQj := Lib.hid hq; clear hq
        obtain ⟨a, ha⟩ : ∃ a : ByteArray, a.data.toList = bef 58 q.data.toList := ⟨⟨(bef 58 q.data.toList).toArray⟩, rfl⟩
        obtain ⟨z, hz⟩ : ∃ a : ByteArray, a.data.toList = (aft 58 q.data.toList).tail := ⟨⟨((aft 58 q.data.toList).tail).toArray⟩, rfl⟩
        have has : a.size ≤ 1048576 ∧ z.size ≤ 1048576 := by
          have h3 := bef_len 58 q.data.toList
          have h4 : (aft 58 q.data.toList).tail.length ≤ (aft 58 q.data.toList).length := by rw [List.length_tail]; omega
          rw [← hz, size_toList] at h4
          rw [← ha, size_toList, size_toList] at h3
          omega
        obtain ⟨has1, has2⟩ := has
        obtain ⟨va, hva⟩ : ∃ v : Int, ((numV a.data.toList : Nat) : Int) = v := ⟨_, rfl⟩
        obtain ⟨vz, hvz⟩ : ∃ v : Int, ((numV z.data.toList : Nat) : Int) = v := ⟨_, rfl⟩
        have HA := Lib.hid ha
        have HZ := Lib.hid hz
        have HVa := Lib.hid hva
        have HVz := Lib.hid hvz
        have hpk : pairOk q.data.toList = (numB a.data.toList && numB z.data.toList) := by rw [pairOk, pairA, pairZ, ha, hz]
        have HPk := Lib.hid hpk
        have HDs := Lib.hid (show docsQ (Q.take (j + 1)) = docsQ (Q.take j) ++ [va] by rw [docsQ, take_map HQj.out, ← hva, ha]; rfl)
        have HMs := Lib.hid (show manyQ (Q.take (j + 1)) = manyQ (Q.take j) ++ [vz] by rw [manyQ, take_map HQj.out, ← hvz, hz]; rfl)
        clear ha hz hva hvz hpk
        have HMx2 := Lib.hid (HMx.out.keep (Keeps.of_below (by rw [← HN.out] at HBw; exact HBw.out)))
        cases hna : numB a.data.toList
        · have HNa := Lib.hid hna; clear hna
          have HT := Lib.hid (pair_no HQ.out HQj.out (by rw [HPk.out, HNa.out]; rfl))
          obtain ⟨vb, hvb⟩ : ∃ b, numB z.data.toList = b := ⟨_, rfl⟩
          have HNz := Lib.hid hvb; clear hvb
          go_wp2_with (first | (go_at_call 17; go_must (refine (cutC_q q a z 58 _ hqs HMx2.out HA.out HZ.out).mono ?_); rintro e w5 ⟨rfl, hb⟩; have HB5 := Lib.hid (hb.mono (show N ≤ wr.heap.size from by have h8 := HCp.out.lt; omega)); have HB5w := Lib.hid hb; clear hb) | (go_at_call 45; have hsm := small_q a w5 has1; rw [HVa.out, HNa.out] at hsm; (with_reducible refine hsm.mono ?_); clear hsm; rintro e w6 ⟨rfl, rfl⟩) | (go_at_call 45; have hsm := small_q z w5 has2; rw [HVz.out, HNz.out] at hsm; (with_reducible refine hsm.mono ?_); clear hsm; rintro e w7 ⟨rfl, rfl⟩))
          go_ret
          exact TermPost.no HT.out ((HBw.out.trans (HB5.out)).mono hBw)
        · have HNa := Lib.hid hna; clear hna
          cases hnz : numB z.data.toList
          · have HNz := Lib.hid hnz; clear hnz
            have HT := Lib.hid (pair_no HQ.out HQj.out (by rw [HPk.out, HNa.out, HNz.out]; rfl))
            go_wp2_with (first | (go_at_call 17; go_must (refine (cutC_q q a z 58 _ hqs HMx2.out HA.out HZ.out).mono ?_); rintro e w5 ⟨rfl, hb⟩; have HB5 := Lib.hid (hb.mono (show N ≤ wr.heap.size from by have h8 := HCp.out.lt; omega)); have HB5w := Lib.hid hb; clear hb) | (go_at_call 45; have hsm := small_q a w5 has1; rw [HVa.out, HNa.out] at hsm; (with_reducible refine hsm.mono ?_); clear hsm; rintro e w6 ⟨rfl, rfl⟩) | (go_at_call 45; have hsm := small_q z w5 has2; rw [HVz.out, HNz.out] at hsm; (with_reducible refine hsm.mono ?_); clear hsm; rintro e w7 ⟨rfl, rfl⟩))
            go_ret
            exact TermPost.no HT.out ((HBw.out.trans (HB5.out)).mono hBw)
          · have HNz := Lib.hid hnz; clear hnz
            have HPo := Lib.hid (show pairOk q.data.toList = true by rw [HPk.out, HNa.out, HNz.out]; rfl)
            go_wp2_with (first | (go_at_call 17; go_must (refine (cutC_q q a z 58 _ hqs HMx2.out HA.out HZ.out).mono ?_); rintro e w5 ⟨rfl, hb⟩; have HB5 := Lib.hid (hb.mono (show N ≤ wr.heap.size from by have h8 := HCp.out.lt; omega)); have HB5w := Lib.hid hb; clear hb) | (go_at_call 45; have hsm := small_q a w5 has1; rw [HVa.out, HNa.out] at hsm; (with_reducible refine hsm.mono ?_); clear hsm; rintro e w6 ⟨rfl, rfl⟩) | (go_at_call 45; have hsm := small_q z w5 has2; rw [HVz.out, HNz.out] at hsm; (with_reducible refine hsm.mono ?_); clear hsm; rintro e w7 ⟨rfl, rfl⟩))
            have HBt5 := Lib.hid (HBt.out.below HB5w.out)
            have HCp5 := Lib.hid (HCp.out.below HB5w.out)
            have HD5 := Lib.hid (own_rowT HD.out (grown_none HB5w.out) (RowT.none _ _))
            have HM5 := Lib.hid (own_rowT HM.out (grown_none HB5w.out) (RowT.none _ _))
            have HBw5 := Lib.hid (HBw.out.trans HB5.out)
            clear HBt HCp HD HM HBw HB5 HB5w
            have b1 : w5.cell? ⟨N + 1, 1, none⟩ = some (.slice A4 j c4) := HBt5.out.c 1
            have b2 : w5.cell? ⟨N + 1, 2, none⟩ = some (.slice A5 j c5) := HBt5.out.c 2
            have hlt5 : N + 1 < w5.heap.size := HBt5.out.lt
            have hlt5b : N + 1 < w5.heap.size + 1 := by omega
            have hNN : N ≠ N + 1 := by omega
            have hNw5 : N ≤ w5.heap.size := by omega
            have HOk2 := Lib.hid (show ∀ q ∈ Q.take (j + 1), pairOk q.data.toList = true from fun q' hq' => by
              rw [List.take_succ_eq_append_getElem hlt] at hq'
              rcases List.mem_append.1 hq' with h1 | h1
              · exact HOk.out q' h1
              · obtain ⟨_, h2⟩ := List.getElem?_eq_some_iff.1 HQj.out
                simp only [List.mem_singleton] at h1
                rw [h1, h2]
                exact HPo.out)
            have HcA := Lib.hid (cell_new w5 [.int .i64 va] 3 _ rfl)
            have HcZ := Lib.hid (cell_new w5 [.int .i64 vz] 3 _ rfl)
            have HcAZ := Lib.hid (fun (k : Nat) (u : Value) hk => Keeps.alloc _ (.cells #[.int .i64 vz] 3) _ _ (HcA.out k u hk))
            have HcZA := Lib.hid (cell_new (w5.alloc (.cells #[.int .i64 vz] 3)) [.int .i64 va] 3 (w5.heap.size + 1) (by rw [World.size_alloc]))
            go_region_law (first
              | (refine step_pushR rfl (.tmp 52) (.tmp 54) 23 rfl (N + 2) 3 _ 1 8 Tryd.underlying23 info_intR rfl (by omega) (.slice A4 j c4) j _ (by first | (simp [Act.eval]; done) | (simp [Act.eval, Act.put]; done)) (by first | exact own_drew (own_alloc HD5.out _) | exact own_drew (own_alloc (own_alloc HD5.out _) _)) [.int .i64 va] rfl _ (by first | (simp [Act.eval] <;> rfl) | (simp [Act.eval, Act.put] <;> rfl)) (by first | exact HcA.out | exact HcAZ.out | exact HcZA.out) (one_int _ _) (by omega) (by unfold maxLen; omega) (by first | omega | (simp; omega)) ?_
                 intro g7 k7 w7 own7 hg7 hgg7 hb7
                 have HBt7 := Lib.hid (CB.push (by first | exact (HBt5.out.alloc _).drew | exact ((HBt5.out.alloc _).alloc _).drew) (by first | exact own_drew (own_alloc HD5.out _) | exact own_drew (own_alloc (own_alloc HD5.out _) _)) (by decide) hg7)
                 have HM7 := Lib.hid (World.ownsRow.kept (by first | exact own_drew (own_alloc HM5.out _) | exact own_drew (own_alloc (own_alloc HM5.out _) _)) hg7 HAp.out.symm.or)
                 have HCp7 := Lib.hid (CB.push (by first | exact (HCp5.out.alloc _).drew | exact ((HCp5.out.alloc _).alloc _).drew) (by first | exact own_drew (own_alloc HD5.out _) | exact own_drew (own_alloc (own_alloc HD5.out _) _)) (by decide) hg7)
                 have HAp7 := Lib.hid (Apart.push (n := j + 1) (cap := k7) HAp.out hgg7 (own_lt (by first | exact own_drew (own_alloc HM5.out _) | exact own_drew (own_alloc (own_alloc HM5.out _) _))))
                 have HBw7 := Lib.hid (show Below N w w7 from Below.trans (by first | exact (HBw5.out.alloc (by omega) _).drew | exact ((HBw5.out.alloc (by omega) _).alloc (by rw [World.size_alloc]; omega) _).drew) (hb7.mono (by omega)))
                 have d2 : w7.cell? ⟨N + 1, 2, none⟩ = some (.slice A5 j c5) := HBt7.out.c 2
                 have hlt7 : N + 1 < w7.heap.size := HBt7.out.lt
                 first
                   | (have HZ7 := Lib.hid (show CB w7 (w5.heap.size + 1) 3 #[.int .i64 vz] from CB.other (CB.drew (by have h8 := CB.new (w5.alloc (.cells #[.int .i64 va] 3)) #[.int .i64 vz] 3; rw [World.size_alloc] at h8; exact h8)) hg7 (by intro he; have := own_lt HD5.out _ he.symm; omega)))
                   | (have HZ7 := Lib.hid (show CB w7 w5.heap.size 3 #[.int .i64 vz] from CB.other (CB.drew (CB.alloc (CB.new w5 #[.int .i64 vz] 3) (.cells #[.int .i64 va] 3))) hg7 (by intro he; have := own_lt HD5.out _ he.symm; omega)))
                   | skip)
              | (refine step_pushR rfl (.tmp 57) (.tmp 59) 23 rfl (N + 2) 3 _ 1 8 Tryd.underlying23 info_intR rfl (by omega) (.slice A5 j c5) j _ (by first | (simp [Act.eval]; done) | (simp [Act.eval, Act.put]; done)) (by first | exact HM7.out | exact own_alloc HM7.out _) [.int .i64 vz] rfl _ (by first | (simp [Act.eval] <;> rfl) | (simp [Act.eval, Act.put] <;> rfl)) (by first | exact (fun k u hk => (HZ7.out.c k).trans (by simpa using hk)) | exact cell_new w7 [.int .i64 vz] 3 _ rfl) (one_int _ _) (by omega) (by unfold maxLen; omega) (by first | omega | (simp; omega)) ?_
                 intro g9 k9 w9 own9 hg9 hgg9 hb9
                 have HBt9 := Lib.hid (CB.push (by first | exact HBt7.out | exact HBt7.out.alloc _) (by first | exact HM7.out | exact own_alloc HM7.out _) (by decide) hg9)
                 have HCp9 := Lib.hid (CB.push (by first | exact HCp7.out | exact HCp7.out.alloc _) (by first | exact HM7.out | exact own_alloc HM7.out _) (by decide) hg9)
                 have HD9 := Lib.hid (World.ownsRow.kept (by first | exact own7 | exact own_alloc own7 _) hg9 HAp7.out.or)
                 have HAp9 := Lib.hid (Apart.symm (Apart.push (n := j + 1) (cap := k9) HAp7.out.symm hgg9 (own_lt (by first | exact own7 | exact own_alloc own7 _))))
                 have HBw9 := Lib.hid (show Below N w w9 from Below.trans (by first | exact HBw7.out | exact HBw7.out.alloc (by omega) _) (hb9.mono (by omega)))
                 have e1 : w9.cell? ⟨N + 1, 1, none⟩ = some (.slice A4 j c4) := HBt9.out.c 1
                 have e2 : w9.cell? ⟨N + 1, 2, none⟩ = some (.slice A5 j c5) := HBt9.out.c 2
                 have e1f := HBt9.out.f 1
                 have e2f := HBt9.out.f 2
                 have esh := HBt9.out.sh))
            all_goals
              (try go_wp2_with fail)
              go_roundw
              case rel =>
                exact ⟨j + 1, _, _, _, _, by omega, by go_num, (HCp9.out.set_other hNN _).set_other hNN _, (HBt9.out.put 1 _).put 2 _,
                  by rw [HDs.out, intCells_snoc]; exact own_setT (own_setT HD9.out HBt9.out (by decide) _) (HBt9.out.put 1 _) (by decide) _,
                  by rw [HMs.out, intCells_snoc]; exact own_setT (own_setT own9 HBt9.out (by decide) _) (HBt9.out.put 1 _) (by decide) _,
                  HAp9.out, (HBw9.out.setCell (p := ⟨N + 1, 1, none⟩) (show N ≤ N + 1 by omega) _).setCell (p := ⟨N + 1, 2, none⟩) (show N ≤ N + 1 by omega) _, HOk2.out⟩
              case measure => simp [intOf]; omega
      · obtain rfl : j = Q.length := by omega
        have hok := HOk.out
        rw [List.take_length] at hok
        have HT := Lib.hid (term_all HP.out HQ.out hlen1 hok)
        have HTd := Lib.hid (termD_eq HP.out HQ.out)
        have hD := HD.out
        have hM := HM.out
        rw [List.take_length] at hD hM
        have HD2 := Lib.hid (show wr.ownsRow B 3 1 (.slice A4 Q.length c4) (docsQ Q).length (intCells (docsQ Q)) by rw [show (docsQ Q).length = Q.length by simp [docsQ]]; exact own_base hD (by omega))
        have HM2 := Lib.hid (show wr.ownsRow B 3 1 (.slice A5 Q.length c5) (manyQ Q).length (intCells (manyQ Q)) by rw [show (manyQ Q).length = Q.length by simp [manyQ]]; exact own_base hM (by omega))
        have hI : (∀ n ∈ docsQ Q, I64 n) ∧ ∀ n ∈ manyQ Q, I64 n := ⟨fun n hn => by obtain ⟨q, _, rfl⟩ := List.mem_map.1 hn; exact num_i64 _, fun n hn => by obtain ⟨q, _, rfl⟩ := List.mem_map.1 hn; exact num_i64 _⟩
        have HI := Lib.hid hI
        clear hI hD hM hok
        have HX5 := Lib.hid (HX.out.belowB HBw.out (by have := HN.out; omega))
        have HOw5 := Lib.hid (HOw.out.below (by rw [HN.out]; exact HBw.out))
        have hbN : bx < N := by have := HN.out; omega
        have hltN : N + 1 < wr.heap.size := HBt.out.lt; have hltb : bx < wr.heap.size := HX5.out.lt
        have b0 : wr.cell? ⟨N + 1, 0, none⟩ = some (.string p) := HBt.out.c 0
        have b1 : wr.cell? ⟨N + 1, 1, none⟩ = some (.slice A4 Q.length c4) := HBt.out.c 1
        have b2 : wr.cell? ⟨N + 1, 2, none⟩ = some (.slice A5 Q.length c5) := HBt.out.c 2
        have z2 : wr.cell? ⟨bx, 2, none⟩ = some (.slice A3 L.length c3) := HX5.out.c 2
        go_wp2_with fail
        go_region_law (refine step_pushR rfl (.tmp 68) (.tmp 70) 24 rfl B 61 _ 3 64 Tryd.underlying24 info_term rfl (by omega) (.slice A3 L.length c3) L.length _ (by simp [Act.eval]) (own_alloc (own_drew HOw5.out.ot) _) [.string p, .slice A4 Q.length c4, .slice A5 Q.length c5] rfl _ (by simp [Act.eval]) (cell_new _ [.string p, .slice A4 Q.length c4, .slice A5 Q.length c5] 61 _ rfl) (by intro u hu; simp at hu; rcases hu with rfl | rfl | rfl <;> rfl) (by omega) (by unfold maxLen; omega) (by simp; omega) ?_
                       intro g6 k6 w6 own6 hg6 hgg6 hb6
                       have HX6 := Lib.hid (((HX5.out.drew).alloc (.cells #[.string p, .slice A4 Q.length c4, .slice A5 Q.length c5] 61)).push (own_alloc (own_drew HOw5.out.ot) _) (by decide) hg6)
                       have HBt6 := Lib.hid (((HBt.out.drew).alloc (.cells #[.string p, .slice A4 Q.length c4, .slice A5 Q.length c5] 61)).other hg6 (by intro he; have h9 := (own_lt HOw.out.ot _ he.symm); have h8 := HN.out; omega))
                       have u2 : w6.cell? ⟨bx, 2, none⟩ = some (.slice A3 L.length c3) := HX6.out.c 2
                       have u2f := HX6.out.f 2
                       have u2s := HX6.out.sh)
        all_goals
          clear b0 b1 b2 z2
          have HB6 := Lib.hid (show Below B w w6 from (((HBw.out.mono hBw).alloc (by omega) (.cells #[.string p, .slice A4 Q.length c4, .slice A5 Q.length c5] 61)).drew).trans hb6)
          have HOw6 := Lib.hid (IdxOwn.pushT ((HOw5.out.alloc (.cells #[.string p, .slice A4 Q.length c4, .slice A5 Q.length c5] 61)).drew) (⟨p, docsQ Q, manyQ Q⟩, .slice A4 Q.length c4, .slice A5 Q.length c5) (own_drew (own_alloc HD2.out _)) (own_drew (own_alloc HM2.out _)) HI.out hg6 own6)
          clear own6 hg6 hgg6 hb6
          obtain ⟨w7, hw7⟩ : ∃ w7, w6.setCell ⟨bx, 2, none⟩ (.slice (some ⟨g6, 0, none⟩) (L.length + 1) k6) = w7 := ⟨_, rfl⟩
          rw [hw7]
          have hne : N + 1 ≠ bx := by omega
          have HBt7 := Lib.hid (show CB w7 (N + 1) 61 #[.string p, .slice A4 Q.length c4, .slice A5 Q.length c5] by rw [← hw7]; exact HBt6.out.set_other hne _)
          have HB7 := Lib.hid (show Below B w w7 by rw [← hw7]; exact HB6.out.setCell hB _)
          have HX7 := Lib.hid (show CB w7 bx 26 #[dv, sv, .slice (some ⟨g6, 0, none⟩) (L.length + 1) k6] by rw [← hw7]; exact HX6.out.put 2 _)
          have HOw7 := Lib.hid (show IdxOwn w7 B dv sv (.slice (some ⟨g6, 0, none⟩) (L.length + 1) k6) ⟨s.D, s.S, s.T ++ [termD l.data.toList]⟩ (L ++ [(⟨p, docsQ Q, manyQ Q⟩, .slice A4 Q.length c4, .slice A5 Q.length c5)]) by rw [← hw7, HTd.out]; exact HOw6.out.box HX6.out (by decide) (by decide) (by decide) _)
          clear hw7 u2 u2f u2s
          have d0 : w7.cell? ⟨N + 1, 0, none⟩ = some (.string p) := HBt7.out.c 0
          have d1 : w7.cell? ⟨N + 1, 1, none⟩ = some (.slice A4 Q.length c4) := HBt7.out.c 1
          by_cases hp0 : p.data.toList = []
          · have e0 := isE_true hp0
            have e0' : p.data.toList.isEmpty = true := by rw [hp0]; rfl
            clear hp0
            go_wp2_with fail
            go_ret
            exact TermPost.no (by rw [HT.out, e0']; rfl) HB7.out
          · have e0 := isE_false hp0
            have e0' : p.data.toList.isEmpty = false := isNE hp0
            clear hp0
            go_wp2_with fail
            go_ret
            refine (TermPost.yes _ _ _ _ (by rw [HT.out, e0']; rfl) HB7.out HX7.out HOw7.out : TermPost _ _ _ _ _ (.returned (.bool true)) _).cast (by simp; omega)

end Go.Proofs.YtfeecoeeiangnaaDoor
