/-
  Facts looked up: page.fact, mastref1.FactOf; items of a table: page.item, mastref1.ItemOf.
-/
import Derived.Test.YtebhbgamdhjdkaaDoorNameds
import Derived.Test.YtebhbgamdhjdkaaDoorPagePart
import Derived.Laws.Rows
namespace Go.Proofs.YtebhbgamdhjdkaaDoor
open Go.RowKit Go.Deep

theorem grown_setB (W : World) (g o : Nat) (v : Value) : W.grownBy (W.setCell ⟨g, o, none⟩ v) (some g) :=
  ⟨rfl, rfl, rfl, by simp [World.setCell], fun k _ hk => Below.heap_setCell _ _ _ k (fun e => hk (by rw [e]))⟩
/-- a block of cells -/
def CB (w : World) (n : Nat) (t : TypeId) (cs : Array Value) : Prop := w.heap[n]? = some (.cells cs t (0, 0))
section
variable {w w' : World} {n : Nat} {t : TypeId} {cs : Array Value}
theorem CB.lt (h : CB w n t cs) : n < w.heap.size := (Array.getElem?_eq_some_iff.1 h).1
theorem CB.c (h : CB w n t cs) (i : Nat) : w.cell? ⟨n, i, none⟩ = cs[i]? := cell_of_row w n i cs t (0, 0) h
theorem CB.f (h : CB w n t cs) (i : Nat) : w.frozen? ⟨n, i, none⟩ = false := frozen_of_row w n i cs t h
theorem CB.sh (h : CB w n t cs) : w.shape? n = some (t, cs.size) := by simp [World.shape?, show w.heap[n]? = _ from h]
theorem CB.put (h : CB w n t cs) (i : Nat) (v : Value) : CB (w.setCell ⟨n, i, none⟩ v) n t (cs.setIfInBounds i v) := heap_setCell_same w n i cs t v h
theorem CB.other {row : Option Nat} (h : CB w n t cs) (hg : w.grownBy w' row) (hne : some n ≠ row) : CB w' n t cs := (hg.block n h.lt hne).trans h
theorem CB.alloc (h : CB w n t cs) (o : Obj) : CB (w.alloc o) n t cs := h.other (World.grownBy_alloc w o none) (by simp)
theorem CB.below (h : CB w n t cs) (hb : Below w.heap.size w w') : CB w' n t cs := (hb.block n h.lt).trans h
theorem CB.new (w : World) (cs : Array Value) (t : TypeId) : CB (w.alloc (.cells cs t)) w.heap.size t cs := heap_alloc_new w _
end

/-- nothing -/
def valZ : Val := .mk 0 false 0 ⟨#[]⟩ [] []
theorem valZ_in (w : World) : ValIn w AnyB (valAgg valZ (.slice none 0 0) (.slice none 0 0)) valZ :=
  ⟨_, _, rfl, ⟨⟨by decide, by decide⟩, ⟨by decide, by decide⟩, Nat.zero_le _⟩, ValsIn.nil _ _, StrsIn.nil _ _⟩
/-- a value's cells -/
def valC (n : Val) (iv kv : Value) : Array Value := #[.int .i64 n.kind, .bool n.flag, .int .i64 n.num, .string n.text, iv, kv]

/-- the value of a fact -/
def factO (l : List (ByteArray × Val)) (name : ByteArray) : Val := match l.find? (fun x => x.1.toList == name.toList) with
  | some x => x.2
  | none => valZ
theorem factO_at {l : List (ByteArray × Val)} {name : ByteArray} {k : Nat} {x : ByteArray × Val} (h : l[k]? = some x) (hx : (x.1.toList == name.toList) = true)
    (hb : ∀ (j : Nat) (y : ByteArray × Val), l[j]? = some y → j < k → (y.1.toList == name.toList) = false) : factO l name = x.2 := by
  unfold factO
  have : l.find? (fun x => x.1.toList == name.toList) = some x := by
    rw [List.find?_eq_some_iff_getElem]
    obtain ⟨hk, he⟩ := List.getElem?_eq_some_iff.1 h
    exact ⟨hx, k, hk, he, fun j hj => by
      have := hb j _ (List.getElem?_eq_getElem (by omega)) hj
      simp [this]⟩
  rw [this]
theorem factO_none {l : List (ByteArray × Val)} {name : ByteArray} (hb : ∀ (j : Nat) (y : ByteArray × Val), l[j]? = some y → (y.1.toList == name.toList) = false) : factO l name = valZ := by
  unfold factO
  have : l.find? (fun x => x.1.toList == name.toList) = none := by
    rw [List.find?_eq_none]
    intro y hy
    obtain ⟨j, hj⟩ := List.getElem?_of_mem hy
    simp [hb j y hj]
  rw [this]

/-- a value is returned -/
def ValPostF (n : Val) (w : World) (e : Ending) (w' : World) : Prop := ∃ (A1 : Option Addr) (n1 c1 : Nat) (A2 : Option Addr) (n2 c2 : Nat), e = .returned (valAgg n (.slice A1 n1 c1) (.slice A2 n2 c2)) ∧ ValIn w' AnyB (valAgg n (.slice A1 n1 c1) (.slice A2 n2 c2)) n ∧ Below w.heap.size w w'

theorem ValIn.form {w : World} {n : Val} {iv kv : Value} (h : ValIn w AnyB (valAgg n iv kv) n) : (∃ A c, iv = .slice A n.items.length c) ∧ ∃ A c, kv = .slice A n.keys.length c := by
  obtain ⟨iv', kv', he, _, h3, h4⟩ := h
  have : iv = iv' ∧ kv = kv' := by unfold valAgg at he; simp at he; exact he
  obtain ⟨rfl, rfl⟩ := this
  obtain ⟨A, c, _, _, _, _, h1, _⟩ := h3.inv
  obtain ⟨A2, c2, _, _, h2, _⟩ := h4
  exact ⟨⟨A, c, h1⟩, ⟨A2, c2, h2⟩⟩

theorem val_done {fn : Func} {a : Act} {W : World} {Post : Ending → World → Prop} {n p : Nat} {cs : Array Value} (hfn : fn.results = #[.cell p 35]) (hb : CB W n 35 cs) (hs : cs.size = 6)
    (hp : a.tmps.getD p undef = .pointer (some ⟨n, 0, none⟩)) (hd : a.defers = []) (h : Post (.returned (.agg cs)) W) : bodyPost Tryd.prog fn Post .ret a W :=
  bodyPost_ret (results_cell_row (P := Tryd.prog) (p := p) (ty := 35) hfn _ W n 35 _ (0, 0) _ hp hb Tryd.underlying35 rfl (by rw [hs]; kernel_rfl)) hd h

/-- the value is returned out of a block -/
theorem val_fin {fn : Func} {a : Act} {w W : World} {n p : Nat} {x : Val} {A1 A2 : Option Addr} {n1 c1 n2 c2 : Nat} (hfn : fn.results = #[.cell p 35]) (hb : CB W n 35 (valC x (.slice A1 n1 c1) (.slice A2 n2 c2)))
    (hp : a.tmps.getD p undef = .pointer (some ⟨n, 0, none⟩)) (hd : a.defers = []) (hB : Below w.heap.size w W) (hv : ValIn w AnyB (valAgg x (.slice A1 n1 c1) (.slice A2 n2 c2)) x) : bodyPost Tryd.prog fn (ValPostF x w) .ret a W :=
  val_done hfn hb rfl hp hd ⟨A1, n1, c1, A2, n2, c2, rfl, hv.keeps (Keeps.of_below hB), hB⟩

/-- a value is returned that lay in memory before -/
def ValPostG (n : Val) (wa w : World) (e : Ending) (w' : World) : Prop := ∃ (A1 : Option Addr) (n1 c1 : Nat) (A2 : Option Addr) (n2 c2 : Nat), e = .returned (valAgg n (.slice A1 n1 c1) (.slice A2 n2 c2)) ∧ ValIn w' AnyB (valAgg n (.slice A1 n1 c1) (.slice A2 n2 c2)) n ∧ Below w.heap.size w w' ∧ ValIn wa AnyB (valAgg n (.slice A1 n1 c1) (.slice A2 n2 c2)) n
theorem val_fin0 {fn : Func} {a : Act} {wa w W : World} (hk : Keeps wa w) {n p : Nat} {x : Val} {A1 A2 : Option Addr} {n1 c1 n2 c2 : Nat} (hfn : fn.results = #[.cell p 35]) (hb : CB W n 35 (valC x (.slice A1 n1 c1) (.slice A2 n2 c2)))
    (hp : a.tmps.getD p undef = .pointer (some ⟨n, 0, none⟩)) (hd : a.defers = []) (hB : Below w.heap.size w W) (hv : ValIn wa AnyB (valAgg x (.slice A1 n1 c1) (.slice A2 n2 c2)) x) : bodyPost Tryd.prog fn (ValPostG x wa w) .ret a W :=
  val_done hfn hb rfl hp hd ⟨A1, n1, c1, A2, n2, c2, rfl, (hv.keeps hk).keeps (Keeps.of_below hB), hB, hv⟩

-- THE WALKS
set_option maxRecDepth 100000 in
set_option maxHeartbeats 4000000 in
theorem fact_q0 (l : List (ByteArray × Val)) (v : Value) (nm : ByteArray) (r : Val) (wa w : World) (hwa : Keeps wa w) (h : NamedsAt wa v l) (hr : (if (factO l nm).kind = 8 then valZ else factO l nm) = r) : Calls Tryd.prog 26 #[v, .string nm] w (ValPostG r wa w) := by
  obtain ⟨A, c, b, o, iv, kv, rfl, hlc, hc, hA, hcell⟩ := h
  unfold maxLen at hc
  have HC := Lib.hid hcell; clear hcell
  have HA := Lib.hid hA; clear hA
  have HR := Lib.hid hr; clear hr
  have HK := Lib.hid hwa; clear hwa
  go_enter Tryd.func26, Tryd.ntmps26
  go_wp2_with fail
  obtain ⟨w2, hw2⟩ : ∃ w2, w.alloc (.cells #[.int .i64 0, .bool false, .int .i64 0, .string ⟨#[]⟩, .slice none 0 0, .slice none 0 0] 35) = w2 := ⟨_, rfl⟩
  have HZ2 := Lib.hid (show CB w2 w.heap.size 35 (valC valZ (.slice none 0 0) (.slice none 0 0)) by rw [← hw2]; exact CB.new w _ _)
  have HB2 := Lib.hid (show Below w.heap.size w w2 by rw [← hw2]; exact (Below.refl _ _).alloc (Nat.le_refl _) _)
  rw [hw2]
  clear hw2
  obtain ⟨n, hn⟩ : ∃ n, w.heap.size = n := ⟨_, rfl⟩
  rw [hn] at HZ2
  rw [hn]
  have hnw : w.heap.size ≤ n := by omega
  clear hn
  go_loopw [9] (fun t wr => ∃ k : Nat, k ≤ l.length ∧ t = .int .i64 k ∧ Hid (CB wr n 35 (valC valZ (.slice none 0 0) (.slice none 0 0))) ∧ Hid (Below w.heap.size w wr) ∧ Hid (∀ (j : Nat) (y : ByteArray × Val), l[j]? = some y → j < k → (y.1.toList == nm.toList) = false)) (fun t _ => l.length - (intOf t).toNat)
  case atStart => exact ⟨0, Nat.zero_le _, rfl, HZ2, HB2, fun j y _ h => absurd h (by omega)⟩
  case round =>
    clear HZ2 HB2
    obtain ⟨k, hk, rfl, HZ, HB, HAll⟩ := hrel
    have hnl := HZ.out.lt
    have hbs := HB.out.size
    by_cases hlt : k < l.length
    · have hA2 := HA.out (by rintro rfl; simp at hlt)
      subst hA2
      obtain ⟨x, hx⟩ : ∃ x, l[k]? = some x := ⟨_, List.getElem?_eq_getElem hlt⟩
      obtain ⟨q0, q1, q2⟩ := HC.out k x hx
      obtain ⟨⟨A1, c1, e1⟩, ⟨A2, c2, e2⟩⟩ := q2.form
      rw [e1, e2] at q1 q2
      have kp := HK.out.trans (Keeps.of_below HB.out)
      have x0 := kp _ _ q0
      obtain ⟨x1, x2, x3, x4, x5, x6⟩ := q1.keep kp
      have HQ := Lib.hid q2
      have HX0 := Lib.hid hx
      clear q0 q1 q2 e1 e2 kp hx
      cases hq : (x.1.toList == nm.toList)
      · have HAll2 := Lib.hid (show ∀ (j : Nat) (y : ByteArray × Val), l[j]? = some y → j < k + 1 → (y.1.toList == nm.toList) = false by
          intro j y h3 h4
          rcases Nat.lt_succ_iff_lt_or_eq.1 h4 with h5 | rfl
          · exact HAll.out j y h3 h5
          · rw [HX0.out] at h3
            cases h3
            exact hq)
        go_wp2_with fail
        go_roundw
        case rel => exact ⟨k + 1, by omega, by go_num, Lib.hid (HZ.out.alloc _), Lib.hid (HB.out.alloc hbs _), HAll2⟩
        case measure => simp [intOf]; omega
      · have HF := Lib.hid (factO_at HX0.out hq HAll.out)
        by_cases h8 : x.2.kind = 8
        · have HX := Lib.hid (HR.out.symm.trans (by rw [HF.out, if_pos h8]))
          have zc0 := HZ.out.c 0
          have zf0 := HZ.out.f 0
          have zc1 := HZ.out.c 1
          have zf1 := HZ.out.f 1
          have zc2 := HZ.out.c 2
          have zf2 := HZ.out.f 2
          have zc3 := HZ.out.c 3
          have zf3 := HZ.out.f 3
          have zc4 := HZ.out.c 4
          have zf4 := HZ.out.f 4
          have zc5 := HZ.out.c 5
          have zf5 := HZ.out.f 5
          have zsh := HZ.out.sh
          simp only [valC, valZ, Val.kind, Val.flag, Val.num, Val.text] at zc0 zc1 zc2 zc3 zc4 zc5 zsh
          go_wp2_with fail
          (try simp only [Exit.inBlock, Exit.then])
          rw [HX.out]
          exact val_fin0 HK.out (n := n) rfl (CB.alloc ((((((HZ.out.put 0 _).put 1 _).put 2 _).put 3 _).put 4 _).put 5 _) _) rfl rfl ((((((((HB.out).setCell (p := ⟨n, _, none⟩) hnw _).setCell (p := ⟨n, _, none⟩) hnw _).setCell (p := ⟨n, _, none⟩) hnw _).setCell (p := ⟨n, _, none⟩) hnw _).setCell (p := ⟨n, _, none⟩) hnw _).setCell (p := ⟨n, _, none⟩) hnw _).alloc (by simp [World.setCell]; omega) _) (valZ_in _)
        · have HX := Lib.hid (HR.out.symm.trans (by rw [HF.out, if_neg h8]))
          have hb8 : (x.2.kind == 8) = false := by simpa using h8
          clear h8
          have zc0 := HZ.out.c 0
          have zf0 := HZ.out.f 0
          have zc1 := HZ.out.c 1
          have zf1 := HZ.out.f 1
          have zc2 := HZ.out.c 2
          have zf2 := HZ.out.f 2
          have zc3 := HZ.out.c 3
          have zf3 := HZ.out.f 3
          have zc4 := HZ.out.c 4
          have zf4 := HZ.out.f 4
          have zc5 := HZ.out.c 5
          have zf5 := HZ.out.f 5
          have zsh := HZ.out.sh
          simp only [valC, valZ, Val.kind, Val.flag, Val.num, Val.text] at zc0 zc1 zc2 zc3 zc4 zc5 zsh
          go_wp2_with fail
          (try simp only [Exit.inBlock, Exit.then])
          rw [HX.out]
          exact val_fin0 HK.out (n := n) rfl (CB.alloc ((((((HZ.out.put 0 _).put 1 _).put 2 _).put 3 _).put 4 _).put 5 _) _) rfl rfl ((((((((HB.out).setCell (p := ⟨n, _, none⟩) hnw _).setCell (p := ⟨n, _, none⟩) hnw _).setCell (p := ⟨n, _, none⟩) hnw _).setCell (p := ⟨n, _, none⟩) hnw _).setCell (p := ⟨n, _, none⟩) hnw _).setCell (p := ⟨n, _, none⟩) hnw _).alloc (by simp [World.setCell]; omega) _) (HQ.out)
    · have HX := Lib.hid (HR.out.symm.trans (by rw [factO_none (fun j y h3 => HAll.out j y h3 (by have := (List.getElem?_eq_some_iff.1 h3).1; omega))]))
      have zc0 := HZ.out.c 0
      have zf0 := HZ.out.f 0
      have zc1 := HZ.out.c 1
      have zf1 := HZ.out.f 1
      have zc2 := HZ.out.c 2
      have zf2 := HZ.out.f 2
      have zc3 := HZ.out.c 3
      have zf3 := HZ.out.f 3
      have zc4 := HZ.out.c 4
      have zf4 := HZ.out.f 4
      have zc5 := HZ.out.c 5
      have zf5 := HZ.out.f 5
      have zsh := HZ.out.sh
      simp only [valC, valZ, Val.kind, Val.flag, Val.num, Val.text] at zc0 zc1 zc2 zc3 zc4 zc5 zsh
      go_wp2_with fail
      (try simp only [Exit.inBlock, Exit.then])
      rw [HX.out]
      exact val_fin0 HK.out (n := n) rfl ((((((HZ.out.put 0 _).put 1 _).put 2 _).put 3 _).put 4 _).put 5 _) rfl rfl (((((((HB.out).setCell (p := ⟨n, _, none⟩) hnw _).setCell (p := ⟨n, _, none⟩) hnw _).setCell (p := ⟨n, _, none⟩) hnw _).setCell (p := ⟨n, _, none⟩) hnw _).setCell (p := ⟨n, _, none⟩) hnw _).setCell (p := ⟨n, _, none⟩) hnw _) (valZ_in _)

set_option maxRecDepth 100000 in
set_option maxHeartbeats 4000000 in
theorem factOf_q0 (l : List (ByteArray × Val)) (v : Value) (nm : ByteArray) (r : Val) (wa w : World) (hwa : Keeps wa w) (h : NamedsAt wa v l) (hr : (factO l nm) = r) : Calls Tryd.prog 29 #[v, .string nm] w (ValPostG r wa w) := by
  obtain ⟨A, c, b, o, iv, kv, rfl, hlc, hc, hA, hcell⟩ := h
  unfold maxLen at hc
  have HC := Lib.hid hcell; clear hcell
  have HA := Lib.hid hA; clear hA
  have HR := Lib.hid hr; clear hr
  have HK := Lib.hid hwa; clear hwa
  go_enter Tryd.func29, Tryd.ntmps29
  go_wp2_with fail
  obtain ⟨w2, hw2⟩ : ∃ w2, w.alloc (.cells #[.int .i64 0, .bool false, .int .i64 0, .string ⟨#[]⟩, .slice none 0 0, .slice none 0 0] 35) = w2 := ⟨_, rfl⟩
  have HZ2 := Lib.hid (show CB w2 w.heap.size 35 (valC valZ (.slice none 0 0) (.slice none 0 0)) by rw [← hw2]; exact CB.new w _ _)
  have HB2 := Lib.hid (show Below w.heap.size w w2 by rw [← hw2]; exact (Below.refl _ _).alloc (Nat.le_refl _) _)
  rw [hw2]
  clear hw2
  obtain ⟨n, hn⟩ : ∃ n, w.heap.size = n := ⟨_, rfl⟩
  rw [hn] at HZ2
  rw [hn]
  have hnw : w.heap.size ≤ n := by omega
  clear hn
  go_loopw [9] (fun t wr => ∃ k : Nat, k ≤ l.length ∧ t = .int .i64 k ∧ Hid (CB wr n 35 (valC valZ (.slice none 0 0) (.slice none 0 0))) ∧ Hid (Below w.heap.size w wr) ∧ Hid (∀ (j : Nat) (y : ByteArray × Val), l[j]? = some y → j < k → (y.1.toList == nm.toList) = false)) (fun t _ => l.length - (intOf t).toNat)
  case atStart => exact ⟨0, Nat.zero_le _, rfl, HZ2, HB2, fun j y _ h => absurd h (by omega)⟩
  case round =>
    clear HZ2 HB2
    obtain ⟨k, hk, rfl, HZ, HB, HAll⟩ := hrel
    have hnl := HZ.out.lt
    have hbs := HB.out.size
    by_cases hlt : k < l.length
    · have hA2 := HA.out (by rintro rfl; simp at hlt)
      subst hA2
      obtain ⟨x, hx⟩ : ∃ x, l[k]? = some x := ⟨_, List.getElem?_eq_getElem hlt⟩
      obtain ⟨q0, q1, q2⟩ := HC.out k x hx
      obtain ⟨⟨A1, c1, e1⟩, ⟨A2, c2, e2⟩⟩ := q2.form
      rw [e1, e2] at q1 q2
      have kp := HK.out.trans (Keeps.of_below HB.out)
      have x0 := kp _ _ q0
      obtain ⟨x1, x2, x3, x4, x5, x6⟩ := q1.keep kp
      have HQ := Lib.hid q2
      have HX0 := Lib.hid hx
      clear q0 q1 q2 e1 e2 kp hx
      cases hq : (x.1.toList == nm.toList)
      · have HAll2 := Lib.hid (show ∀ (j : Nat) (y : ByteArray × Val), l[j]? = some y → j < k + 1 → (y.1.toList == nm.toList) = false by
          intro j y h3 h4
          rcases Nat.lt_succ_iff_lt_or_eq.1 h4 with h5 | rfl
          · exact HAll.out j y h3 h5
          · rw [HX0.out] at h3
            cases h3
            exact hq)
        go_wp2_with fail
        go_roundw
        case rel => exact ⟨k + 1, by omega, by go_num, Lib.hid (HZ.out.alloc _), Lib.hid (HB.out.alloc hbs _), HAll2⟩
        case measure => simp [intOf]; omega
      · have HF := Lib.hid (factO_at HX0.out hq HAll.out)
        have HX := Lib.hid (HR.out.symm.trans HF.out)
        have zc0 := HZ.out.c 0
        have zf0 := HZ.out.f 0
        have zc1 := HZ.out.c 1
        have zf1 := HZ.out.f 1
        have zc2 := HZ.out.c 2
        have zf2 := HZ.out.f 2
        have zc3 := HZ.out.c 3
        have zf3 := HZ.out.f 3
        have zc4 := HZ.out.c 4
        have zf4 := HZ.out.f 4
        have zc5 := HZ.out.c 5
        have zf5 := HZ.out.f 5
        have zsh := HZ.out.sh
        simp only [valC, valZ, Val.kind, Val.flag, Val.num, Val.text] at zc0 zc1 zc2 zc3 zc4 zc5 zsh
        go_wp2_with fail
        (try simp only [Exit.inBlock, Exit.then])
        rw [HX.out]
        exact val_fin0 HK.out (n := n) rfl (CB.alloc ((((((HZ.out.put 0 _).put 1 _).put 2 _).put 3 _).put 4 _).put 5 _) _) rfl rfl ((((((((HB.out).setCell (p := ⟨n, _, none⟩) hnw _).setCell (p := ⟨n, _, none⟩) hnw _).setCell (p := ⟨n, _, none⟩) hnw _).setCell (p := ⟨n, _, none⟩) hnw _).setCell (p := ⟨n, _, none⟩) hnw _).setCell (p := ⟨n, _, none⟩) hnw _).alloc (by simp [World.setCell]; omega) _) (HQ.out)
    · have HX := Lib.hid (HR.out.symm.trans (by rw [factO_none (fun j y h3 => HAll.out j y h3 (by have := (List.getElem?_eq_some_iff.1 h3).1; omega))]))
      have zc0 := HZ.out.c 0
      have zf0 := HZ.out.f 0
      have zc1 := HZ.out.c 1
      have zf1 := HZ.out.f 1
      have zc2 := HZ.out.c 2
      have zf2 := HZ.out.f 2
      have zc3 := HZ.out.c 3
      have zf3 := HZ.out.f 3
      have zc4 := HZ.out.c 4
      have zf4 := HZ.out.f 4
      have zc5 := HZ.out.c 5
      have zf5 := HZ.out.f 5
      have zsh := HZ.out.sh
      simp only [valC, valZ, Val.kind, Val.flag, Val.num, Val.text] at zc0 zc1 zc2 zc3 zc4 zc5 zsh
      go_wp2_with fail
      (try simp only [Exit.inBlock, Exit.then])
      rw [HX.out]
      exact val_fin0 HK.out (n := n) rfl ((((((HZ.out.put 0 _).put 1 _).put 2 _).put 3 _).put 4 _).put 5 _) rfl rfl (((((((HB.out).setCell (p := ⟨n, _, none⟩) hnw _).setCell (p := ⟨n, _, none⟩) hnw _).setCell (p := ⟨n, _, none⟩) hnw _).setCell (p := ⟨n, _, none⟩) hnw _).setCell (p := ⟨n, _, none⟩) hnw _).setCell (p := ⟨n, _, none⟩) hnw _) (valZ_in _)

theorem fact_q (l : List (ByteArray × Val)) (v : Value) (nm : ByteArray) (r : Val) (w : World) (h : NamedsAt w v l) (hr : (if (factO l nm).kind = 8 then valZ else factO l nm) = r) : Calls Tryd.prog 26 #[v, .string nm] w (ValPostF r w) :=
  (fact_q0 l v nm r w w (Keeps.refl _) h hr).mono fun _ _ ⟨A1, n1, c1, A2, n2, c2, h1, h2, h3, _⟩ => ⟨A1, n1, c1, A2, n2, c2, h1, h2, h3⟩
theorem factOf_q (l : List (ByteArray × Val)) (v : Value) (nm : ByteArray) (r : Val) (w : World) (h : NamedsAt w v l) (hr : (factO l nm) = r) : Calls Tryd.prog 29 #[v, .string nm] w (ValPostF r w) :=
  (factOf_q0 l v nm r w w (Keeps.refl _) h hr).mono fun _ _ ⟨A1, n1, c1, A2, n2, c2, h1, h2, h3, _⟩ => ⟨A1, n1, c1, A2, n2, c2, h1, h2, h3⟩
end Go.Proofs.YtebhbgamdhjdkaaDoor
