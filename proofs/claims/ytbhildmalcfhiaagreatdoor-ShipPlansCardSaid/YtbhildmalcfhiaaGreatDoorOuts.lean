/-
  The error of outputs: ship.CheckOuts and mastref1.OutsError.
-/
import Derived.Test.YtbhildmalcfhiaaGreatDoorAddresses
import Derived.BigQuiet
import Derived.Deep.QuietTactic
import Derived.RegionTactic
namespace Go.Proofs.YtbhildmalcfhiaaGreatDoor
open Go.RowKit Go.ChangeShapes Go.WideShapes Go.Deep

structure OutV where
  path : ByteArray
  body : ByteArray

structure OutCells (w : World) (b o : Nat) (n : OutV) : Prop where
  c0 : w.cell? ⟨b, o, none⟩ = some (.string n.path)
  c1 : w.cell? ⟨b, o + 1, none⟩ = some (.string n.body)

theorem OutCells.keep {w w' : World} {b o : Nat} {n : OutV} (h : OutCells w b o n) (k : Keeps w w') : OutCells w' b o n := ⟨k _ _ h.c0, k _ _ h.c1⟩

def OutsAt (w : World) (v : Value) (l : List OutV) : Prop :=
  ∃ (A : Option Addr) (c b o : Nat), v = .slice A l.length c ∧ l.length ≤ c ∧ c ≤ maxLen ∧ (l ≠ [] → A = some ⟨b, o, none⟩) ∧ ∀ i n, l[i]? = some n → OutCells w b (o + i * 2) n

theorem OutsAt.keep {w w' : World} {v : Value} {l : List OutV} (h : OutsAt w v l) (k : Keeps w w') : OutsAt w' v l := by
  obtain ⟨A, c, b, o, h1, h2, h3, h4, h5⟩ := h
  exact ⟨A, c, b, o, h1, h2, h3, h4, fun i n hn => (h5 i n hn).keep k⟩

section
variable {H : Type} {enc : TypeId × Value → H} {w : World} {base : Nat} {spare : Nat → Bool} {held : Bool}
theorem open_outs (fuel : Nat) (cs : List Value) (x : DataW H × List MemPlace) (h : DataW.trod enc Tryz.prog w base spare held fuel 22 cs = some x) :
    ∃ (v : Value) (l : List OutV), cs = [v] ∧ OutsAt w v l := by
  obtain ⟨A, len, cap, m, b, o, hm, rfl, hlc, hc, hA, hD, hel⟩ := open_cells Tryz.underlying22 (K := 2) (by kernel_rfl) (by omega) h
  have key : ∀ i, i < len → ∃ n : OutV, OutCells w b (o + i * 2) n ∧ True := by
    intro i hi
    obtain ⟨cs', y, hl', hat, hdi, hy⟩ := hel i hi
    obtain ⟨m', ys, hm', hyl, hyd, _, hf⟩ := open_fields Tryz.underlying62 (by kernel_rfl) (by kernel_rfl) hy
    obtain ⟨v0, y0, hv0, hy0, t0⟩ := hf 0 _ rfl
    obtain ⟨v1, y1, hv1, hy1, t1⟩ := hf 1 _ rfl
    obtain ⟨p, e0, _, _⟩ := DataW.trod_string Tryz.underlying9 t0
    obtain ⟨q, e1, _, _⟩ := DataW.trod_string Tryz.underlying9 t1
    simp only [List.cons.injEq, and_true] at e0 e1
    subst e0 e1
    exact ⟨⟨p, q⟩, ⟨(hat 0 (by omega)).trans hv0, (hat 1 (by omega)).trans hv1⟩, trivial⟩
  obtain ⟨l, hll, hp⟩ := exists_list key
  refine ⟨_, l, rfl, ⟨A, cap, b, o, by rw [hll], by omega, hc, fun hne => hA ?_, fun i n hn => (hp i n hn).1⟩⟩
  rcases Nat.eq_zero_or_pos len with h0 | h0
  · exact absurd (List.eq_nil_of_length_eq_zero (by omega)) hne
  · exact h0
end

/-- does a path come after another -/
def leB (x y : ByteArray) : Bool := Op.bytesLess x.toList y.toList || (x.toList == y.toList)
def under (x y : OutV) : Bool := Lib.hasPrefix y.path.data.toList (x.path ++ ⟨#[47]⟩).data.toList
def prevBad (l : List OutV) (x : ByteArray) : Nat → Bool
  | 0 => false
  | j + 1 => match l[j]? with | none => false | some p => leB x p.path
theorem prevBad_succ {l : List OutV} {x : ByteArray} {j : Nat} {p : OutV} (h : l[j]? = some p) : prevBad l x (j + 1) = leB x p.path := by simp [prevBad, h]
/-- the error of the output at place k, if those ahead have none; the rest -/
def outsFrom (l : List OutV) : Nat → Nat → Int
  | 0, _ => 0
  | f + 1, k =>
    match l[k]? with
    | none => 0
    | some x =>
      if pathB x.path = false then 3
      else if prevBad l x.path k = true then 5
      else if (l.drop (k + 1)).any (under x) = true then 6
      else if 200000 < x.body.size then 4
      else outsFrom l f (k + 1)
def outsE (l : List OutV) : Int := if 480 < l.length then 4 else outsFrom l l.length 0

theorem outs_at {l : List OutV} {k : Nat} {x : OutV} (h : l[k]? = some x) : outsFrom l (l.length - k) k =
    (if pathB x.path = false then 3
      else if prevBad l x.path k = true then 5
      else if (l.drop (k + 1)).any (under x) = true then 6
      else if 200000 < x.body.size then 4
      else outsFrom l (l.length - (k + 1)) (k + 1)) := by
  have hk := (List.getElem?_eq_some_iff.1 h).1
  rw [show l.length - k = (l.length - (k + 1)) + 1 by omega, outsFrom, h]

theorem any_yes {l : List OutV} {f : OutV → Bool} {m j : Nat} {y : OutV} (h : l[m + j]? = some y) (hf : f y = true) : (l.drop m).any f = true := by
  rw [List.any_eq_true]
  exact ⟨y, List.mem_of_getElem? (i := j) (by rw [List.getElem?_drop]; exact h), hf⟩
theorem any_no {l : List OutV} {f : OutV → Bool} {m : Nat} (h : ∀ (j : Nat) (y : OutV), l[m + j]? = some y → f y = false) : (l.drop m).any f = false := by
  rw [List.any_eq_false]
  intro y hy
  obtain ⟨j, hj⟩ := List.mem_iff_getElem?.1 hy
  rw [List.getElem?_drop] at hj
  simp [h j y hj]

set_option maxRecDepth 100000 in
set_option maxHeartbeats 4000000 in
theorem checkOuts_any (l : List OutV) (v : Value) (m : Int) (w : World) (h : OutsAt w v l) (hm : w.cell? ⟨2, 0, none⟩ = some (.int .i64 m)) :
    Calls Tryz.prog 24 #[v] w fun e w' => e = .returned (.int .i64 (outsE l)) ∧ Below w.heap.size w w' := by
  obtain ⟨A, c, b, o, rfl, hlc, hc, hA, hcell⟩ := h
  unfold maxLen at hc
  have hg := World.block_lt_of_cell? _ _ hm
  simp only at hg
  have KP := Lib.hid (show ∀ w' : World, Below w.heap.size w w' → w'.cell? ⟨2, 0, none⟩ = some (.int .i64 m) from fun w' hb => ((bcell hb).1 _ _ hg).trans hm)
  clear hm hg
  have HCell := Lib.hid hcell; clear hcell
  by_cases hbig : 480 < l.length
  · have HR := Lib.hid (show outsE l = 4 by rw [outsE, if_pos hbig])
    go_enter Tryz.func24, Tryz.ntmps24
    go_wp2_with fail
    go_ret
    exact ⟨ret_int HR.out.symm, Below.refl _ _⟩
  have HE := Lib.hid (show outsE l = outsFrom l (l.length - 0) 0 by rw [outsE, if_neg hbig]; rfl)
  go_enter Tryz.func24, Tryz.ntmps24
  go_wp2_with fail
  go_loopw [12] (fun t wr => ∃ k : Nat, k ≤ l.length ∧ t = .int .i64 k ∧ Below w.heap.size w wr ∧ outsE l = outsFrom l (l.length - k) k) (fun t _ => l.length - (intOf t).toNat)
  case atStart => exact ⟨0, Nat.zero_le _, rfl, Below.refl _ _, HE.out⟩
  case round =>
    obtain ⟨k, hk, rfl, hB, hE⟩ := hrel
    clear HE
    obtain ⟨wo, rfl⟩ : ∃ wo : World, wo = wr := ⟨_, rfl⟩
    by_cases hlt : k < l.length
    · have hA' := hA (by rintro rfl; simp at hlt)
      subst hA'
      obtain ⟨⟨path, body⟩, hn⟩ : ∃ n, l[k]? = some n := ⟨_, List.getElem?_eq_getElem hlt⟩
      rw [outs_at hn] at hE
      simp only at hE
      obtain ⟨p0, p1⟩ := (HCell.out k _ hn).keep (Keeps.of_below hB)
      simp only at p0 p1
      have bb := World.block_lt_of_cell? _ _ p0
      simp only at bb
      have HN := Lib.hid hn; clear hn
      have HE := Lib.hid hE; clear hE
      obtain ⟨W1, hW1⟩ : ∃ W1, wo.alloc (.cells #[.string path, .string body] 62) = W1 := ⟨_, rfl⟩
      have HB1 := Lib.hid (show Below w.heap.size w W1 from hW1 ▸ hB.trans ((Below.refl _ _).alloc hB.size _))
      have q0 : W1.cell? ⟨wo.heap.size, 0, none⟩ = some (.string path) := hW1 ▸ cell_new wo [.string path, .string body] 62 wo.heap.size rfl 0 _ rfl
      have q1 : W1.cell? ⟨wo.heap.size, 1, none⟩ = some (.string body) := hW1 ▸ cell_new wo [.string path, .string body] 62 wo.heap.size rfl 1 _ rfl
      have HQ := Lib.hid (And.intro q0 q1); clear q0 q1
      have hz1 : W1.heap.size = wo.heap.size + 1 := by rw [← hW1, World.size_alloc]
      have HW1 := Lib.hid hW1; clear hW1
      have hBs := hB.size
      have HB := Lib.hid hB; clear hB
      obtain ⟨pv, hpv⟩ : ∃ pv, pathB path = pv := ⟨_, rfl⟩
      have HPV := Lib.hid hpv; clear hpv
      clear hA
      cases pv
      · go_wp2_with (go_at_call 53; rw [HW1.out]; go_must (refine (shipPath_any path false m _ (KP.out _ HB1.out) HPV.out).mono ?_); rintro e w1 ⟨rfl, hb⟩; have HB2 := Lib.hid (HB1.out.trans (hb.mono HB1.out.size)); clear hb)
        go_ret
        exact ⟨ret_int (by rw [HE.out, if_pos HPV.out]), HB2.out⟩
      have HE := Lib.hid (HE.out.trans (if_neg (by rw [HPV.out]; simp)))
      have hps := path_size HPV.out
      go_wp2_with (go_at_call 53; rw [HW1.out]; go_must (refine (shipPath_any path true m _ (KP.out _ HB1.out) HPV.out).mono ?_); rintro e w1 ⟨rfl, hb⟩; have r0 := ((bcell hb).1 wo.heap.size 0 (by omega)).trans HQ.out.1; have r1 := ((bcell hb).1 wo.heap.size 1 (by omega)).trans HQ.out.2; have HB2 := Lib.hid (HB1.out.trans (hb.mono HB1.out.size)); have hz2 := hb.size; clear hb)
      rcases Nat.eq_zero_or_pos k with hk0 | hk0
      · have hk3 : ¬ (0 : Int) < k := by omega
        have HE := Lib.hid (HE.out.trans (if_neg (by rw [hk0]; simp [prevBad])))
        have hk0 := Lib.hid hk0
        go_quiet (fail)
        go_wp2_with fail
        all_goals
          (obtain ⟨w2, hw2⟩ : ∃ w2, w1.drewN nq = w2 := ⟨_, rfl⟩
           have R0 := Lib.hid (show w2.cell? ⟨wo.heap.size, 0, none⟩ = some (.string path) by rw [← hw2]; simpa using r0)
           have R1 := Lib.hid (show w2.cell? ⟨wo.heap.size, 1, none⟩ = some (.string body) by rw [← hw2]; simpa using r1)
           have HB3 := Lib.hid (show Below w.heap.size w w2 from hw2 ▸ Below.drewN' HB2.out _)
           have hz3 : W1.heap.size ≤ w2.heap.size := by rw [← hw2]; simpa using hz2
           rw [hw2]
           clear hw2 r0 r1)
        · subst h
          go_loopw [41] (fun t wr2 => ∃ j2 : Nat, j2 ≤ l.length - (k + 1) ∧ t = .int .i64 j2 ∧ Below w2.heap.size w2 wr2) (fun t _ => (l.length - (k + 1)) - (intOf t).toNat)
          case atStart => exact ⟨0, Nat.zero_le _, rfl, Below.refl _ _⟩
          case round =>
            obtain ⟨j2, hj2, rfl, hBi⟩ := hrel
            have hzi := hBi.size
            have hbo : wo.heap.size < wr.heap.size := by omega
            have hlt2 : ¬ j2 < l.length - (k + 1) := by have := hk0.out; omega
            have u0 := ((bcell hBi).1 wo.heap.size 0 (by omega)).trans R0.out
            have u1 := ((bcell hBi).1 wo.heap.size 1 (by omega)).trans R1.out
            have HBi := Lib.hid hBi; clear hBi
            have hlast : l.length = k + 1 := by have := hk0.out; omega
            have HE := Lib.hid (HE.out.trans (if_neg (by rw [any_no (fun i y h4 => by have := (List.getElem?_eq_some_iff.1 h4).1; omega)]; simp)))
            clear hlast
            by_cases hbody : 200000 < body.size
            · go_wp2_with fail
              go_ret
              exact ⟨ret_int (HE.out.trans (if_pos hbody)).symm, HB3.out.trans (HBi.out.mono HB3.out.size)⟩
            · go_wp2_with fail
              go_roundw
              case rel => exact ⟨k + 1, by omega, by go_num, HB3.out.trans (HBi.out.mono HB3.out.size), HE.out.trans (if_neg hbody)⟩
              case measure => simp [intOf]; omega
        · go_loopw [41] (fun t wr2 => ∃ j2 : Nat, j2 ≤ l.length - (k + 1) ∧ t = .int .i64 j2 ∧ Below w2.heap.size w2 wr2 ∧ ∀ (i : Nat) (y : OutV), i < j2 → l[k + 1 + i]? = some y → under ⟨path, body⟩ y = false) (fun t _ => (l.length - (k + 1)) - (intOf t).toNat)
          case atStart => exact ⟨0, Nat.zero_le _, rfl, Below.refl _ _, fun i y h => absurd h (by omega)⟩
          case round =>
            obtain ⟨j2, hj2, rfl, hBi, hno⟩ := hrel
            have HNo := Lib.hid hno; clear hno
            have hzi := hBi.size
            have hbo : wo.heap.size < wr.heap.size := by omega
            by_cases hlt2 : j2 < l.length - (k + 1)
            · obtain ⟨⟨yp, yb⟩, hy⟩ : ∃ n, l[k + 1 + j2]? = some n := ⟨_, List.getElem?_eq_getElem (by omega)⟩
              obtain ⟨t0, t1⟩ := (HCell.out _ _ hy).keep (Keeps.of_below (HB3.out.trans (hBi.mono HB3.out.size)))
              simp only at t0 t1
              rw [show o + (k + 1 + j2) * 2 = o + 2 + j2 * 2 by have := hk0.out; omega] at t0 t1
              have bb3 := World.block_lt_of_cell? _ _ t0
              simp only at bb3
              have u0 := ((bcell hBi).1 wo.heap.size 0 (by omega)).trans R0.out
              have u1 := ((bcell hBi).1 wo.heap.size 1 (by omega)).trans R1.out
              have HY := Lib.hid hy; clear hy
              have HBi := Lib.hid hBi; clear hBi
              cases hpre : under ⟨path, body⟩ ⟨yp, yb⟩
              · have HPre := Lib.hid (show Lib.hasPrefix yp.data.toList (path ++ ⟨#[47]⟩).data.toList = false from hpre)
                have HPr2 := Lib.hid hpre; clear hpre
                go_wp2_with (go_at_call 28; go_must (refine (hasPrefix_v _ _ false _ HPre.out).mono ?_); rintro e w4 ⟨rfl, rfl⟩)
                go_roundw
                case rel =>
                  refine ⟨j2 + 1, by omega, by go_num, HBi.out.trans ((Below.refl _ _).alloc HBi.out.size _), fun i y h3 h4 => ?_⟩
                  rcases Nat.lt_succ_iff_lt_or_eq.1 h3 with h5 | rfl
                  · exact HNo.out i y h5 h4
                  · rw [HY.out] at h4
                    cases h4
                    exact HPr2.out
                case measure => simp [intOf]; omega
              · have HPre := Lib.hid (show Lib.hasPrefix yp.data.toList (path ++ ⟨#[47]⟩).data.toList = true from hpre)
                have HPr2 := Lib.hid hpre; clear hpre
                go_wp2_with (go_at_call 28; go_must (refine (hasPrefix_v _ _ true _ HPre.out).mono ?_); rintro e w4 ⟨rfl, rfl⟩)
                go_ret
                exact ⟨ret_int (HE.out.trans (if_pos (any_yes HY.out HPr2.out))).symm, HB3.out.trans ((HBi.out.trans ((Below.refl _ _).alloc HBi.out.size _)).mono HB3.out.size)⟩
            · have u0 := ((bcell hBi).1 wo.heap.size 0 (by omega)).trans R0.out
              have u1 := ((bcell hBi).1 wo.heap.size 1 (by omega)).trans R1.out
              have HBi := Lib.hid hBi; clear hBi
              have HE := Lib.hid (HE.out.trans (if_neg (by rw [any_no (fun i y h4 => HNo.out i y (by have := (List.getElem?_eq_some_iff.1 h4).1; omega) h4)]; simp)))
              by_cases hbody : 200000 < body.size
              · go_wp2_with fail
                go_ret
                exact ⟨ret_int (HE.out.trans (if_pos hbody)).symm, HB3.out.trans (HBi.out.mono HB3.out.size)⟩
              · go_wp2_with fail
                go_roundw
                case rel => exact ⟨k + 1, by omega, by go_num, HB3.out.trans (HBi.out.mono HB3.out.size), HE.out.trans (if_neg hbody)⟩
                case measure => simp [intOf]; omega
      · obtain ⟨j, hj⟩ : ∃ j, k = j + 1 := ⟨k - 1, by omega⟩
        obtain ⟨⟨pp, pq⟩, hpn⟩ : ∃ n, l[j]? = some n := ⟨_, List.getElem?_eq_getElem (by omega)⟩
        obtain ⟨s0, s1⟩ := (HCell.out j _ hpn).keep (Keeps.of_below HB2.out)
        simp only at s0 s1
        have HPB := Lib.hid (show prevBad l path k = leB path pp by rw [hj]; exact prevBad_succ (x := path) hpn); clear hpn
        have hwr : IntKind.i64.wrap ((k : Int) - 1) = (j : Int) := by rw [show (k : Int) - 1 = (j : Int) by omega]; rw [IntKind.wrap_i64]; omega
        have hjl : j < l.length := by omega
        have hk3 : (0 : Int) < k := by omega
        have HJ := Lib.hid hj; clear hj
        have bb2 := World.block_lt_of_cell? _ _ s0
        simp only at bb2
        have hleq : ∀ W : World, Sem.run Tryz.prog (binOp BinOp.leq 9 (Value.string path) (Value.string pp)) W = Result.ok (Value.bool (Op.bytesLess path.toList pp.toList || (path.toList == pp.toList))) W := fun W => rfl
        cases hlt1 : Op.bytesLess path.toList pp.toList
        · cases heq1 : path.toList == pp.toList
          · have HE := Lib.hid (HE.out.trans (if_neg (by rw [HPB.out, leB, hlt1, heq1]; simp)))
            go_quiet (fail)
            go_wp2_with fail
            all_goals
              (obtain ⟨w2, hw2⟩ : ∃ w2, w1.drewN nq = w2 := ⟨_, rfl⟩
               have R0 := Lib.hid (show w2.cell? ⟨wo.heap.size, 0, none⟩ = some (.string path) by rw [← hw2]; simpa using r0)
               have R1 := Lib.hid (show w2.cell? ⟨wo.heap.size, 1, none⟩ = some (.string body) by rw [← hw2]; simpa using r1)
               have HB3 := Lib.hid (show Below w.heap.size w w2 from hw2 ▸ Below.drewN' HB2.out _)
               have hz3 : W1.heap.size ≤ w2.heap.size := by rw [← hw2]; simpa using hz2
               rw [hw2]
               clear hw2 r0 r1)
            · subst h
              go_loopw [41] (fun t wr2 => ∃ j2 : Nat, j2 ≤ l.length - (k + 1) ∧ t = .int .i64 j2 ∧ Below w2.heap.size w2 wr2) (fun t _ => (l.length - (k + 1)) - (intOf t).toNat)
              case atStart => exact ⟨0, Nat.zero_le _, rfl, Below.refl _ _⟩
              case round =>
                obtain ⟨j2, hj2, rfl, hBi⟩ := hrel
                have hzi := hBi.size
                have hbo : wo.heap.size < wr.heap.size := by omega
                have hlt2 : ¬ j2 < l.length - (k + 1) := by omega
                have u0 := ((bcell hBi).1 wo.heap.size 0 (by omega)).trans R0.out
                have u1 := ((bcell hBi).1 wo.heap.size 1 (by omega)).trans R1.out
                have HBi := Lib.hid hBi; clear hBi
                have hlast : l.length = k + 1 := by omega
                have HE := Lib.hid (HE.out.trans (if_neg (by rw [any_no (fun i y h4 => by have := (List.getElem?_eq_some_iff.1 h4).1; omega)]; simp)))
                clear hlast
                by_cases hbody : 200000 < body.size
                · go_wp2_with fail
                  go_ret
                  exact ⟨ret_int (HE.out.trans (if_pos hbody)).symm, HB3.out.trans (HBi.out.mono HB3.out.size)⟩
                · go_wp2_with fail
                  go_roundw
                  case rel => exact ⟨k + 1, by omega, by go_num, HB3.out.trans (HBi.out.mono HB3.out.size), HE.out.trans (if_neg hbody)⟩
                  case measure => simp [intOf]; omega
            · go_loopw [41] (fun t wr2 => ∃ j2 : Nat, j2 ≤ l.length - (k + 1) ∧ t = .int .i64 j2 ∧ Below w2.heap.size w2 wr2 ∧ ∀ (i : Nat) (y : OutV), i < j2 → l[k + 1 + i]? = some y → under ⟨path, body⟩ y = false) (fun t _ => (l.length - (k + 1)) - (intOf t).toNat)
              case atStart => exact ⟨0, Nat.zero_le _, rfl, Below.refl _ _, fun i y h => absurd h (by omega)⟩
              case round =>
                obtain ⟨j2, hj2, rfl, hBi, hno⟩ := hrel
                have HNo := Lib.hid hno; clear hno
                have hzi := hBi.size
                have hbo : wo.heap.size < wr.heap.size := by omega
                by_cases hlt2 : j2 < l.length - (k + 1)
                · obtain ⟨⟨yp, yb⟩, hy⟩ : ∃ n, l[k + 1 + j2]? = some n := ⟨_, List.getElem?_eq_getElem (by omega)⟩
                  obtain ⟨t0, t1⟩ := (HCell.out _ _ hy).keep (Keeps.of_below (HB3.out.trans (hBi.mono HB3.out.size)))
                  simp only at t0 t1
                  rw [show o + (k + 1 + j2) * 2 = o + (k + 1) * 2 + j2 * 2 by omega] at t0 t1
                  have bb3 := World.block_lt_of_cell? _ _ t0
                  simp only at bb3
                  have u0 := ((bcell hBi).1 wo.heap.size 0 (by omega)).trans R0.out
                  have u1 := ((bcell hBi).1 wo.heap.size 1 (by omega)).trans R1.out
                  have HY := Lib.hid hy; clear hy
                  have HBi := Lib.hid hBi; clear hBi
                  cases hpre : under ⟨path, body⟩ ⟨yp, yb⟩
                  · have HPre := Lib.hid (show Lib.hasPrefix yp.data.toList (path ++ ⟨#[47]⟩).data.toList = false from hpre)
                    have HPr2 := Lib.hid hpre; clear hpre
                    go_wp2_with (go_at_call 28; go_must (refine (hasPrefix_v _ _ false _ HPre.out).mono ?_); rintro e w4 ⟨rfl, rfl⟩)
                    go_roundw
                    case rel =>
                      refine ⟨j2 + 1, by omega, by go_num, HBi.out.trans ((Below.refl _ _).alloc HBi.out.size _), fun i y h3 h4 => ?_⟩
                      rcases Nat.lt_succ_iff_lt_or_eq.1 h3 with h5 | rfl
                      · exact HNo.out i y h5 h4
                      · rw [HY.out] at h4
                        cases h4
                        exact HPr2.out
                    case measure => simp [intOf]; omega
                  · have HPre := Lib.hid (show Lib.hasPrefix yp.data.toList (path ++ ⟨#[47]⟩).data.toList = true from hpre)
                    have HPr2 := Lib.hid hpre; clear hpre
                    go_wp2_with (go_at_call 28; go_must (refine (hasPrefix_v _ _ true _ HPre.out).mono ?_); rintro e w4 ⟨rfl, rfl⟩)
                    go_ret
                    exact ⟨ret_int (HE.out.trans (if_pos (any_yes HY.out HPr2.out))).symm, HB3.out.trans ((HBi.out.trans ((Below.refl _ _).alloc HBi.out.size _)).mono HB3.out.size)⟩
                · have u0 := ((bcell hBi).1 wo.heap.size 0 (by omega)).trans R0.out
                  have u1 := ((bcell hBi).1 wo.heap.size 1 (by omega)).trans R1.out
                  have HBi := Lib.hid hBi; clear hBi
                  have HE := Lib.hid (HE.out.trans (if_neg (by rw [any_no (fun i y h4 => HNo.out i y (by have := (List.getElem?_eq_some_iff.1 h4).1; omega) h4)]; simp)))
                  by_cases hbody : 200000 < body.size
                  · go_wp2_with fail
                    go_ret
                    exact ⟨ret_int (HE.out.trans (if_pos hbody)).symm, HB3.out.trans (HBi.out.mono HB3.out.size)⟩
                  · go_wp2_with fail
                    go_roundw
                    case rel => exact ⟨k + 1, by omega, by go_num, HB3.out.trans (HBi.out.mono HB3.out.size), HE.out.trans (if_neg hbody)⟩
                    case measure => simp [intOf]; omega
          · have HE := Lib.hid (HE.out.trans (if_pos (by rw [HPB.out, leB, hlt1, heq1]; simp)))
            go_quiet (fail)
            go_wp2_with fail
            go_ret
            exact ⟨ret_int HE.out.symm, Below.drewN' HB2.out _⟩
        · have HE := Lib.hid (HE.out.trans (if_pos (by rw [HPB.out, leB, hlt1]; simp)))
          go_quiet (fail)
          go_wp2_with fail
          go_ret
          exact ⟨ret_int HE.out.symm, Below.drewN' HB2.out _⟩
    · have HR := Lib.hid hE; clear hE
      have HB := Lib.hid hB; clear hB
      have hke : l.length - k = 0 := by omega
      go_wp2_with fail
      go_ret
      exact ⟨ret_int (by rw [HR.out, hke]; rfl), HB.out⟩

set_option maxRecDepth 100000 in
set_option maxHeartbeats 4000000 in
theorem outsError_any (l : List OutV) (v : Value) (m : Int) (w : World) (h : OutsAt w v l) (hm : w.cell? ⟨2, 0, none⟩ = some (.int .i64 m)) :
    Calls Tryz.prog 10 #[v] w fun e w' => e = .returned (.int .i64 (outsE l)) ∧ Below w.heap.size w w' := by
  obtain ⟨A, c, b, o, rfl, hlc, hc, hA, hcell⟩ := h
  unfold maxLen at hc
  have hg := World.block_lt_of_cell? _ _ hm
  simp only at hg
  have KP := Lib.hid (show ∀ w' : World, Below w.heap.size w w' → w'.cell? ⟨2, 0, none⟩ = some (.int .i64 m) from fun w' hb => ((bcell hb).1 _ _ hg).trans hm)
  clear hm hg
  have HCell := Lib.hid hcell; clear hcell
  by_cases hbig : 480 < l.length
  · have HR := Lib.hid (show outsE l = 4 by rw [outsE, if_pos hbig])
    go_enter Tryz.func10, Tryz.ntmps10
    go_wp2_with fail
    go_ret
    exact ⟨ret_int HR.out.symm, Below.refl _ _⟩
  have HE := Lib.hid (show outsE l = outsFrom l (l.length - 0) 0 by rw [outsE, if_neg hbig]; rfl)
  go_enter Tryz.func10, Tryz.ntmps10
  go_wp2_with fail
  go_loopw [12] (fun t wr => ∃ k : Nat, k ≤ l.length ∧ t = .int .i64 k ∧ Below w.heap.size w wr ∧ outsE l = outsFrom l (l.length - k) k) (fun t _ => l.length - (intOf t).toNat)
  case atStart => exact ⟨0, Nat.zero_le _, rfl, Below.refl _ _, HE.out⟩
  case round =>
    obtain ⟨k, hk, rfl, hB, hE⟩ := hrel
    clear HE
    obtain ⟨wo, rfl⟩ : ∃ wo : World, wo = wr := ⟨_, rfl⟩
    by_cases hlt : k < l.length
    · have hA' := hA (by rintro rfl; simp at hlt)
      subst hA'
      obtain ⟨⟨path, body⟩, hn⟩ : ∃ n, l[k]? = some n := ⟨_, List.getElem?_eq_getElem hlt⟩
      rw [outs_at hn] at hE
      simp only at hE
      obtain ⟨p0, p1⟩ := (HCell.out k _ hn).keep (Keeps.of_below hB)
      simp only at p0 p1
      have bb := World.block_lt_of_cell? _ _ p0
      simp only at bb
      have HN := Lib.hid hn; clear hn
      have HE := Lib.hid hE; clear hE
      obtain ⟨W1, hW1⟩ : ∃ W1, wo.alloc (.cells #[.string path, .string body] 62) = W1 := ⟨_, rfl⟩
      have HB1 := Lib.hid (show Below w.heap.size w W1 from hW1 ▸ hB.trans ((Below.refl _ _).alloc hB.size _))
      have q0 : W1.cell? ⟨wo.heap.size, 0, none⟩ = some (.string path) := hW1 ▸ cell_new wo [.string path, .string body] 62 wo.heap.size rfl 0 _ rfl
      have q1 : W1.cell? ⟨wo.heap.size, 1, none⟩ = some (.string body) := hW1 ▸ cell_new wo [.string path, .string body] 62 wo.heap.size rfl 1 _ rfl
      have HQ := Lib.hid (And.intro q0 q1); clear q0 q1
      have hz1 : W1.heap.size = wo.heap.size + 1 := by rw [← hW1, World.size_alloc]
      have HW1 := Lib.hid hW1; clear hW1
      have hBs := hB.size
      have HB := Lib.hid hB; clear hB
      obtain ⟨pv, hpv⟩ : ∃ pv, pathB path = pv := ⟨_, rfl⟩
      have HPV := Lib.hid hpv; clear hpv
      clear hA
      cases pv
      · go_wp2_with (go_at_call 27; rw [HW1.out]; go_must (refine (refPath_any path false m _ (KP.out _ HB1.out) HPV.out).mono ?_); rintro e w1 ⟨rfl, hb⟩; have HB2 := Lib.hid (HB1.out.trans (hb.mono HB1.out.size)); clear hb)
        go_ret
        exact ⟨ret_int (by rw [HE.out, if_pos HPV.out]), HB2.out⟩
      have HE := Lib.hid (HE.out.trans (if_neg (by rw [HPV.out]; simp)))
      have hps := path_size HPV.out
      go_wp2_with (go_at_call 27; rw [HW1.out]; go_must (refine (refPath_any path true m _ (KP.out _ HB1.out) HPV.out).mono ?_); rintro e w1 ⟨rfl, hb⟩; have r0 := ((bcell hb).1 wo.heap.size 0 (by omega)).trans HQ.out.1; have r1 := ((bcell hb).1 wo.heap.size 1 (by omega)).trans HQ.out.2; have HB2 := Lib.hid (HB1.out.trans (hb.mono HB1.out.size)); have hz2 := hb.size; clear hb)
      rcases Nat.eq_zero_or_pos k with hk0 | hk0
      · have hk3 : ¬ (0 : Int) < k := by omega
        have HE := Lib.hid (HE.out.trans (if_neg (by rw [hk0]; simp [prevBad])))
        have hk0 := Lib.hid hk0
        go_quiet (fail)
        go_wp2_with fail
        all_goals
          (obtain ⟨w2, hw2⟩ : ∃ w2, w1.drewN nq = w2 := ⟨_, rfl⟩
           have R0 := Lib.hid (show w2.cell? ⟨wo.heap.size, 0, none⟩ = some (.string path) by rw [← hw2]; simpa using r0)
           have R1 := Lib.hid (show w2.cell? ⟨wo.heap.size, 1, none⟩ = some (.string body) by rw [← hw2]; simpa using r1)
           have HB3 := Lib.hid (show Below w.heap.size w w2 from hw2 ▸ Below.drewN' HB2.out _)
           have hz3 : W1.heap.size ≤ w2.heap.size := by rw [← hw2]; simpa using hz2
           rw [hw2]
           clear hw2 r0 r1)
        · subst h
          go_loopw [39] (fun t wr2 => ∃ j2 : Nat, j2 ≤ l.length - (k + 1) ∧ t = .int .i64 j2 ∧ Below w2.heap.size w2 wr2) (fun t _ => (l.length - (k + 1)) - (intOf t).toNat)
          case atStart => exact ⟨0, Nat.zero_le _, rfl, Below.refl _ _⟩
          case round =>
            obtain ⟨j2, hj2, rfl, hBi⟩ := hrel
            have hzi := hBi.size
            have hbo : wo.heap.size < wr.heap.size := by omega
            have hlt2 : ¬ j2 < l.length - (k + 1) := by have := hk0.out; omega
            have u0 := ((bcell hBi).1 wo.heap.size 0 (by omega)).trans R0.out
            have u1 := ((bcell hBi).1 wo.heap.size 1 (by omega)).trans R1.out
            have HBi := Lib.hid hBi; clear hBi
            have hlast : l.length = k + 1 := by have := hk0.out; omega
            have HE := Lib.hid (HE.out.trans (if_neg (by rw [any_no (fun i y h4 => by have := (List.getElem?_eq_some_iff.1 h4).1; omega)]; simp)))
            clear hlast
            by_cases hbody : 200000 < body.size
            · go_wp2_with fail
              go_ret
              exact ⟨ret_int (HE.out.trans (if_pos hbody)).symm, HB3.out.trans (HBi.out.mono HB3.out.size)⟩
            · go_wp2_with fail
              go_roundw
              case rel => exact ⟨k + 1, by omega, by go_num, HB3.out.trans (HBi.out.mono HB3.out.size), HE.out.trans (if_neg hbody)⟩
              case measure => simp [intOf]; omega
        · go_loopw [39] (fun t wr2 => ∃ j2 : Nat, j2 ≤ l.length - (k + 1) ∧ t = .int .i64 j2 ∧ Below w2.heap.size w2 wr2 ∧ ∀ (i : Nat) (y : OutV), i < j2 → l[k + 1 + i]? = some y → under ⟨path, body⟩ y = false) (fun t _ => (l.length - (k + 1)) - (intOf t).toNat)
          case atStart => exact ⟨0, Nat.zero_le _, rfl, Below.refl _ _, fun i y h => absurd h (by omega)⟩
          case round =>
            obtain ⟨j2, hj2, rfl, hBi, hno⟩ := hrel
            have HNo := Lib.hid hno; clear hno
            have hzi := hBi.size
            have hbo : wo.heap.size < wr.heap.size := by omega
            by_cases hlt2 : j2 < l.length - (k + 1)
            · obtain ⟨⟨yp, yb⟩, hy⟩ : ∃ n, l[k + 1 + j2]? = some n := ⟨_, List.getElem?_eq_getElem (by omega)⟩
              obtain ⟨t0, t1⟩ := (HCell.out _ _ hy).keep (Keeps.of_below (HB3.out.trans (hBi.mono HB3.out.size)))
              simp only at t0 t1
              rw [show o + (k + 1 + j2) * 2 = o + 2 + j2 * 2 by have := hk0.out; omega] at t0 t1
              have bb3 := World.block_lt_of_cell? _ _ t0
              simp only at bb3
              have u0 := ((bcell hBi).1 wo.heap.size 0 (by omega)).trans R0.out
              have u1 := ((bcell hBi).1 wo.heap.size 1 (by omega)).trans R1.out
              have HY := Lib.hid hy; clear hy
              have HBi := Lib.hid hBi; clear hBi
              cases hpre : under ⟨path, body⟩ ⟨yp, yb⟩
              · have HPre := Lib.hid (show Lib.hasPrefix yp.data.toList (path ++ ⟨#[47]⟩).data.toList = false from hpre)
                have HPr2 := Lib.hid hpre; clear hpre
                go_wp2_with (go_at_call 28; go_must (refine (hasPrefix_v _ _ false _ HPre.out).mono ?_); rintro e w4 ⟨rfl, rfl⟩)
                go_roundw
                case rel =>
                  refine ⟨j2 + 1, by omega, by go_num, HBi.out.trans ((Below.refl _ _).alloc HBi.out.size _), fun i y h3 h4 => ?_⟩
                  rcases Nat.lt_succ_iff_lt_or_eq.1 h3 with h5 | rfl
                  · exact HNo.out i y h5 h4
                  · rw [HY.out] at h4
                    cases h4
                    exact HPr2.out
                case measure => simp [intOf]; omega
              · have HPre := Lib.hid (show Lib.hasPrefix yp.data.toList (path ++ ⟨#[47]⟩).data.toList = true from hpre)
                have HPr2 := Lib.hid hpre; clear hpre
                go_wp2_with (go_at_call 28; go_must (refine (hasPrefix_v _ _ true _ HPre.out).mono ?_); rintro e w4 ⟨rfl, rfl⟩)
                go_ret
                exact ⟨ret_int (HE.out.trans (if_pos (any_yes HY.out HPr2.out))).symm, HB3.out.trans ((HBi.out.trans ((Below.refl _ _).alloc HBi.out.size _)).mono HB3.out.size)⟩
            · have u0 := ((bcell hBi).1 wo.heap.size 0 (by omega)).trans R0.out
              have u1 := ((bcell hBi).1 wo.heap.size 1 (by omega)).trans R1.out
              have HBi := Lib.hid hBi; clear hBi
              have HE := Lib.hid (HE.out.trans (if_neg (by rw [any_no (fun i y h4 => HNo.out i y (by have := (List.getElem?_eq_some_iff.1 h4).1; omega) h4)]; simp)))
              by_cases hbody : 200000 < body.size
              · go_wp2_with fail
                go_ret
                exact ⟨ret_int (HE.out.trans (if_pos hbody)).symm, HB3.out.trans (HBi.out.mono HB3.out.size)⟩
              · go_wp2_with fail
                go_roundw
                case rel => exact ⟨k + 1, by omega, by go_num, HB3.out.trans (HBi.out.mono HB3.out.size), HE.out.trans (if_neg hbody)⟩
                case measure => simp [intOf]; omega
      · obtain ⟨j, hj⟩ : ∃ j, k = j + 1 := ⟨k - 1, by omega⟩
        obtain ⟨⟨pp, pq⟩, hpn⟩ : ∃ n, l[j]? = some n := ⟨_, List.getElem?_eq_getElem (by omega)⟩
        obtain ⟨s0, s1⟩ := (HCell.out j _ hpn).keep (Keeps.of_below HB2.out)
        simp only at s0 s1
        have HPB := Lib.hid (show prevBad l path k = leB path pp by rw [hj]; exact prevBad_succ (x := path) hpn); clear hpn
        have hwr : IntKind.i64.wrap ((k : Int) - 1) = (j : Int) := by rw [show (k : Int) - 1 = (j : Int) by omega]; rw [IntKind.wrap_i64]; omega
        have hjl : j < l.length := by omega
        have hk3 : (0 : Int) < k := by omega
        have HJ := Lib.hid hj; clear hj
        have bb2 := World.block_lt_of_cell? _ _ s0
        simp only at bb2
        have hleq : ∀ W : World, Sem.run Tryz.prog (binOp BinOp.leq 9 (Value.string path) (Value.string pp)) W = Result.ok (Value.bool (Op.bytesLess path.toList pp.toList || (path.toList == pp.toList))) W := fun W => rfl
        cases hlt1 : Op.bytesLess path.toList pp.toList
        · cases heq1 : path.toList == pp.toList
          · have HE := Lib.hid (HE.out.trans (if_neg (by rw [HPB.out, leB, hlt1, heq1]; simp)))
            go_quiet (fail)
            go_wp2_with fail
            all_goals
              (obtain ⟨w2, hw2⟩ : ∃ w2, w1.drewN nq = w2 := ⟨_, rfl⟩
               have R0 := Lib.hid (show w2.cell? ⟨wo.heap.size, 0, none⟩ = some (.string path) by rw [← hw2]; simpa using r0)
               have R1 := Lib.hid (show w2.cell? ⟨wo.heap.size, 1, none⟩ = some (.string body) by rw [← hw2]; simpa using r1)
               have HB3 := Lib.hid (show Below w.heap.size w w2 from hw2 ▸ Below.drewN' HB2.out _)
               have hz3 : W1.heap.size ≤ w2.heap.size := by rw [← hw2]; simpa using hz2
               rw [hw2]
               clear hw2 r0 r1)
            · subst h
              go_loopw [39] (fun t wr2 => ∃ j2 : Nat, j2 ≤ l.length - (k + 1) ∧ t = .int .i64 j2 ∧ Below w2.heap.size w2 wr2) (fun t _ => (l.length - (k + 1)) - (intOf t).toNat)
              case atStart => exact ⟨0, Nat.zero_le _, rfl, Below.refl _ _⟩
              case round =>
                obtain ⟨j2, hj2, rfl, hBi⟩ := hrel
                have hzi := hBi.size
                have hbo : wo.heap.size < wr.heap.size := by omega
                have hlt2 : ¬ j2 < l.length - (k + 1) := by omega
                have u0 := ((bcell hBi).1 wo.heap.size 0 (by omega)).trans R0.out
                have u1 := ((bcell hBi).1 wo.heap.size 1 (by omega)).trans R1.out
                have HBi := Lib.hid hBi; clear hBi
                have hlast : l.length = k + 1 := by omega
                have HE := Lib.hid (HE.out.trans (if_neg (by rw [any_no (fun i y h4 => by have := (List.getElem?_eq_some_iff.1 h4).1; omega)]; simp)))
                clear hlast
                by_cases hbody : 200000 < body.size
                · go_wp2_with fail
                  go_ret
                  exact ⟨ret_int (HE.out.trans (if_pos hbody)).symm, HB3.out.trans (HBi.out.mono HB3.out.size)⟩
                · go_wp2_with fail
                  go_roundw
                  case rel => exact ⟨k + 1, by omega, by go_num, HB3.out.trans (HBi.out.mono HB3.out.size), HE.out.trans (if_neg hbody)⟩
                  case measure => simp [intOf]; omega
            · go_loopw [39] (fun t wr2 => ∃ j2 : Nat, j2 ≤ l.length - (k + 1) ∧ t = .int .i64 j2 ∧ Below w2.heap.size w2 wr2 ∧ ∀ (i : Nat) (y : OutV), i < j2 → l[k + 1 + i]? = some y → under ⟨path, body⟩ y = false) (fun t _ => (l.length - (k + 1)) - (intOf t).toNat)
              case atStart => exact ⟨0, Nat.zero_le _, rfl, Below.refl _ _, fun i y h => absurd h (by omega)⟩
              case round =>
                obtain ⟨j2, hj2, rfl, hBi, hno⟩ := hrel
                have HNo := Lib.hid hno; clear hno
                have hzi := hBi.size
                have hbo : wo.heap.size < wr.heap.size := by omega
                by_cases hlt2 : j2 < l.length - (k + 1)
                · obtain ⟨⟨yp, yb⟩, hy⟩ : ∃ n, l[k + 1 + j2]? = some n := ⟨_, List.getElem?_eq_getElem (by omega)⟩
                  obtain ⟨t0, t1⟩ := (HCell.out _ _ hy).keep (Keeps.of_below (HB3.out.trans (hBi.mono HB3.out.size)))
                  simp only at t0 t1
                  rw [show o + (k + 1 + j2) * 2 = o + (k + 1) * 2 + j2 * 2 by omega] at t0 t1
                  have bb3 := World.block_lt_of_cell? _ _ t0
                  simp only at bb3
                  have u0 := ((bcell hBi).1 wo.heap.size 0 (by omega)).trans R0.out
                  have u1 := ((bcell hBi).1 wo.heap.size 1 (by omega)).trans R1.out
                  have HY := Lib.hid hy; clear hy
                  have HBi := Lib.hid hBi; clear hBi
                  cases hpre : under ⟨path, body⟩ ⟨yp, yb⟩
                  · have HPre := Lib.hid (show Lib.hasPrefix yp.data.toList (path ++ ⟨#[47]⟩).data.toList = false from hpre)
                    have HPr2 := Lib.hid hpre; clear hpre
                    go_wp2_with (go_at_call 28; go_must (refine (hasPrefix_v _ _ false _ HPre.out).mono ?_); rintro e w4 ⟨rfl, rfl⟩)
                    go_roundw
                    case rel =>
                      refine ⟨j2 + 1, by omega, by go_num, HBi.out.trans ((Below.refl _ _).alloc HBi.out.size _), fun i y h3 h4 => ?_⟩
                      rcases Nat.lt_succ_iff_lt_or_eq.1 h3 with h5 | rfl
                      · exact HNo.out i y h5 h4
                      · rw [HY.out] at h4
                        cases h4
                        exact HPr2.out
                    case measure => simp [intOf]; omega
                  · have HPre := Lib.hid (show Lib.hasPrefix yp.data.toList (path ++ ⟨#[47]⟩).data.toList = true from hpre)
                    have HPr2 := Lib.hid hpre; clear hpre
                    go_wp2_with (go_at_call 28; go_must (refine (hasPrefix_v _ _ true _ HPre.out).mono ?_); rintro e w4 ⟨rfl, rfl⟩)
                    go_ret
                    exact ⟨ret_int (HE.out.trans (if_pos (any_yes HY.out HPr2.out))).symm, HB3.out.trans ((HBi.out.trans ((Below.refl _ _).alloc HBi.out.size _)).mono HB3.out.size)⟩
                · have u0 := ((bcell hBi).1 wo.heap.size 0 (by omega)).trans R0.out
                  have u1 := ((bcell hBi).1 wo.heap.size 1 (by omega)).trans R1.out
                  have HBi := Lib.hid hBi; clear hBi
                  have HE := Lib.hid (HE.out.trans (if_neg (by rw [any_no (fun i y h4 => HNo.out i y (by have := (List.getElem?_eq_some_iff.1 h4).1; omega) h4)]; simp)))
                  by_cases hbody : 200000 < body.size
                  · go_wp2_with fail
                    go_ret
                    exact ⟨ret_int (HE.out.trans (if_pos hbody)).symm, HB3.out.trans (HBi.out.mono HB3.out.size)⟩
                  · go_wp2_with fail
                    go_roundw
                    case rel => exact ⟨k + 1, by omega, by go_num, HB3.out.trans (HBi.out.mono HB3.out.size), HE.out.trans (if_neg hbody)⟩
                    case measure => simp [intOf]; omega
          · have HE := Lib.hid (HE.out.trans (if_pos (by rw [HPB.out, leB, hlt1, heq1]; simp)))
            go_quiet (fail)
            go_wp2_with fail
            go_ret
            exact ⟨ret_int HE.out.symm, Below.drewN' HB2.out _⟩
        · have HE := Lib.hid (HE.out.trans (if_pos (by rw [HPB.out, leB, hlt1]; simp)))
          go_quiet (fail)
          go_wp2_with fail
          go_ret
          exact ⟨ret_int HE.out.symm, Below.drewN' HB2.out _⟩
    · have HR := Lib.hid hE; clear hE
      have HB := Lib.hid hB; clear hB
      have hke : l.length - k = 0 := by omega
      go_wp2_with fail
      go_ret
      exact ⟨ret_int (by rw [HR.out, hke]; rfl), HB.out⟩

end Go.Proofs.YtbhildmalcfhiaaGreatDoor
