/-
  The reader of a shortcode's line: a name of an argument, and an argument.
-/
import Derived.Test.YtgbmlpidaeefoaaReader
import Derived.Test.YtgbmlpidaeefoaaConv
import Derived.Test.YtgbmlpidaeefoaaArgsPlain
namespace Go.Proofs.Ytgbmlpidaeefoaa
open Go.RowKit Go.Deep

theorem argName_bad {l : List UInt8} {k : Nat} {c : UInt8} (hk : 1 ≤ k) (h : l[k]? = some c) (hc : argC c = false) : argNameL l = false := by
  cases l with
  | nil => rfl
  | cons a r =>
    have h2 : r[k - 1]? = some c := by
      obtain ⟨j, rfl⟩ : ∃ j, k = j + 1 := ⟨k - 1, by omega⟩
      simpa using h
    have : r.all argC = false := by
      rw [List.all_eq_false]
      exact ⟨c, List.mem_of_getElem? h2, by simp [hc]⟩
    simp only [argNameL, this, Bool.and_false]
theorem argName_first {l : List UInt8} {c : UInt8} (h : l[0]? = some c) (hc : smallC c = false) : argNameL l = false := by
  cases l with
  | nil => rfl
  | cons a r =>
    simp at h
    subst h
    simp only [argNameL, hc, Bool.false_and]
theorem argName_long {l : List UInt8} (h : 20 < l.length) : argNameL l = false := by
  cases l with
  | nil => rfl
  | cons a r =>
    simp at h
    have : decide (r.length + 1 ≤ 20) = false := by simp; omega
    simp only [argNameL, this, Bool.and_false, Bool.false_and]
theorem argName_good {l : List UInt8} {c : UInt8} (h : l[0]? = some c) (hc : smallC c = true) (hl : l.length ≤ 20) (ha : ∀ (j : Nat) (c : UInt8), l[j]? = some c → 1 ≤ j → argC c = true) : argNameL l = true := by
  cases l with
  | nil => simp at h
  | cons a r =>
    simp at h
    subst h
    simp only [argNameL, hc, Bool.true_and, Bool.and_eq_true, decide_eq_true_eq, List.all_eq_true]
    refine ⟨by simpa using hl, fun x hx => ?_⟩
    obtain ⟨j, hj⟩ := List.getElem?_of_mem hx
    exact ha (j + 1) x (by simpa using hj) (by omega)

set_option maxHeartbeats 2000000 in
theorem isArg_p (s : ByteArray) (w : World) (hs : s.size ≤ 1073741824) : Calls Try.prog 53 #[.string s] w fun e w' => e = .returned (.bool (argNameL s.data.toList)) ∧ w = w' := by
  by_cases h0 : s.size = 0
  · have hnil : s.data.toList = [] := List.eq_nil_of_length_eq_zero (by rw [size_toList]; exact h0)
    have e0 : s.toList = [] := by rw [Go.ByteArray.toList_eq]; exact hnil
    have HR := Lib.hid (show argNameL s.data.toList = false by rw [hnil]; rfl)
    clear hnil
    go_enter Try.func53, Try.ntmps53
    go_wp2_with fail
    go_ret
    exact ⟨ret_bool HR.out.symm, rfl⟩
  have e0 : s.toList.isEmpty = false := by
    have hne : ¬ s.data.toList = [] := by intro hs; exact absurd (by rw [← size_toList, hs]; rfl) h0
    have h2 : ¬ s.toList = [] := by rw [Go.ByteArray.toList_eq]; exact hne
    cases hs : s.toList with | nil => exact absurd hs h2 | cons a r => rfl
  have h1 : 0 < s.size := by omega
  by_cases hl : 20 < s.size
  · have HR := Lib.hid (argName_long (l := s.data.toList) (by rw [size_toList]; exact hl))
    go_enter Try.func53, Try.ntmps53
    go_wp2_with fail
    all_goals first
      | (exfalso; omega)
      | (go_ret
         exact ⟨ret_bool HR.out.symm, rfl⟩)
  have HB0 := Lib.hid (byteR h1)
  go_enter Try.func53, Try.ntmps53
  cases hsm : smallC s[0]
  · have HR := Lib.hid (argName_first HB0.out hsm)
    go_wp2_with (go_at_call 50; go_must (refine (isSmall_p _ _).mono ?_); rintro e w1 ⟨rfl, rfl⟩)
    all_goals first
      | (exfalso; omega)
      | (go_ret
         exact ⟨ret_bool HR.out.symm, rfl⟩)
  have HSm := Lib.hid hsm
  go_wp2_with (go_at_call 50; go_must (refine (isSmall_p _ _).mono ?_); rintro e w1 ⟨rfl, rfl⟩)
  all_goals first
    | (exfalso; omega)
    | skip
  go_loopw [3] (fun t wr => ∃ k : Nat, 1 ≤ k ∧ k ≤ s.size ∧ t = .int .i64 k ∧ EqW wr w ∧ Hid (∀ (j : Nat) (c : UInt8), s.data.toList[j]? = some c → 1 ≤ j → j < k → argC c = true)) (fun t _ => s.size - (intOf t).toNat)
  case atStart => exact ⟨1, Nat.le_refl _, by omega, rfl, EqW.refl _, fun j c _ h h2 => absurd h (by omega)⟩
  case round =>
    obtain ⟨k, hk1, hk, rfl, hww, hall⟩ := hrel
    unfold EqW at hww
    subst hww
    by_cases hlt : k < s.size
    · have HB := Lib.hid (byteR hlt)
      have HN := Lib.hid (show argC s[k] = (smallC s[k] || digitC s[k] || decide ((s[k].toNat : Int) = 95)) by unfold argC; congr 1; simp; omega)
      go_wp2_with (first
        | (go_at_call 50; go_must (refine (isSmall_p _ _).mono ?_); rintro e w1 ⟨rfl, rfl⟩)
        | (go_at_call 51; go_must (refine (isDigit_p _ _).mono ?_); rintro e w1 ⟨rfl, rfl⟩))
      all_goals first
        | (go_roundw
           case rel =>
             have hn : argC s[k] = true := by rw [HN.out]; first | (simp_all; done) | (simp_all; omega)
             refine ⟨k + 1, by omega, by omega, by go_num, EqW.refl _, fun j c h3 h4 h5 => ?_⟩
             rcases Nat.lt_succ_iff_lt_or_eq.1 h5 with h6 | rfl
             · exact hall.out j c h3 h4 h6
             · rw [HB.out] at h3
               cases h3
               exact hn
           case measure => simp [intOf]; omega)
        | (go_ret
           have hn : argC s[k] = false := by rw [HN.out]; first | (simp_all; done) | (simp_all; omega)
           exact ⟨ret_bool (argName_bad hk1 HB.out hn).symm, rfl⟩)
    · have HR := Lib.hid (argName_good (l := s.data.toList) HB0.out HSm.out (by rw [size_toList]; omega) (fun j c h3 h4 => hall.out j c h3 h4 (by have := (List.getElem?_eq_some_iff.1 h3).1; rw [size_toList] at this; omega)))
      go_wp2_with fail
      go_ret
      exact ⟨ret_bool HR.out.symm, rfl⟩

/-- an argument read -/
def ArgPost (g : Nat) (s : ByteArray) (w : World) (e : Ending) (w' : World) : Prop :=
  ∃ (a1 a2 z : ByteArray) (b : Bool), e = .returned (.agg #[.string a1, .string a2]) ∧ RD w' g z b ∧ w.grownBy w' (some g) ∧
    ((b = true ∧ argF s.data.toList = none) ∨ (b = false ∧ argF s.data.toList = some ((a1.data.toList, a2.data.toList), z.data.toList)))

/-- a box of two strings -/
def BX (w : World) (g : Nat) (a b : ByteArray) : Prop := w.heap[g]? = some (.cells #[.string a, .string b] 49 (0, 0))
section
variable {w w' : World} {g : Nat} {a b : ByteArray}
theorem BX.lt (h : BX w g a b) : g < w.heap.size := (Array.getElem?_eq_some_iff.1 h).1
theorem BX.c0 (h : BX w g a b) : w.cell? ⟨g, 0, none⟩ = some (.string a) := by simp [World.cell?, show w.heap[g]? = _ from h]
theorem BX.c1 (h : BX w g a b) : w.cell? ⟨g, 1, none⟩ = some (.string b) := by simp [World.cell?, show w.heap[g]? = _ from h]
theorem BX.f0 (h : BX w g a b) : w.frozen? ⟨g, 0, none⟩ = false := by simp [World.frozen?, show w.heap[g]? = _ from h]
theorem BX.f1 (h : BX w g a b) : w.frozen? ⟨g, 1, none⟩ = false := by simp [World.frozen?, show w.heap[g]? = _ from h]
theorem BX.sh (h : BX w g a b) : w.shape? g = some (49, 2) := by simp [World.shape?, show w.heap[g]? = _ from h]
theorem BX.set0 (h : BX w g a b) (z : ByteArray) : BX (w.setCell ⟨g, 0, none⟩ (.string z)) g z b := by
  obtain ⟨hlt, hk⟩ := Array.getElem?_eq_some_iff.1 h
  show (w.heap.modify g _)[g]? = _
  rw [Array.getElem?_eq_getElem (by rw [Array.size_modify]; exact hlt), Array.getElem_modify_self, hk]
  rfl
theorem BX.set1 (h : BX w g a b) (z : ByteArray) : BX (w.setCell ⟨g, 1, none⟩ (.string z)) g a z := by
  obtain ⟨hlt, hk⟩ := Array.getElem?_eq_some_iff.1 h
  show (w.heap.modify g _)[g]? = _
  rw [Array.getElem?_eq_getElem (by rw [Array.size_modify]; exact hlt), Array.getElem_modify_self, hk]
  rfl
theorem BX.other {row : Option Nat} (h : BX w g a b) (hg : w.grownBy w' row) (hne : some g ≠ row) : BX w' g a b := (hg.block g h.lt hne).trans h
theorem BX.set {n o : Nat} (h : BX w g a b) (hne : g ≠ n) (v : Value) : BX (w.setCell ⟨n, o, none⟩ v) g a b := h.other (grown_set w n o v) (fun e => hne (Option.some.inj e))
end
theorem RD.set {w : World} {g n o : Nat} {s : ByteArray} {b : Bool} (h : RD w g s b) (hne : g ≠ n) (v : Value) : RD (w.setCell ⟨n, o, none⟩ v) g s b := h.other (grown_set w n o v) (fun e => hne (Option.some.inj e))
/-- a store to a block that is new -/
theorem grown_new {w w1 : World} {g n o : Nat} (h : w.grownBy w1 (some g)) (hn : w.heap.size ≤ n) (v : Value) : w.grownBy (w1.setCell ⟨n, o, none⟩ v) (some g) :=
  ⟨h.os, h.tape, h.output, by simpa [World.setCell] using h.size, fun k hk hne => (Below.heap_setCell _ _ _ k (by simp only; omega)).trans (h.block k hk hne)⟩
theorem grown_g {w w1 : World} {g o : Nat} (h : w.grownBy w1 (some g)) (v : Value) : w.grownBy (w1.setCell ⟨g, o, none⟩ v) (some g) := h.trans (grown_set w1 g o v)

theorem take_r (g : Nat) (s : ByteArray) (b : Bool) (x : UInt8) (w : World) (h : RD w g s b) :
    Calls Try.prog 22 #[.pointer (some ⟨g, 0, none⟩), .string ⟨#[x]⟩] w fun e w' =>
      (e = .returned (.bool false) ∧ take1 x s.data.toList = none ∧ w = w') ∨ (∃ z : ByteArray, e = .returned (.bool true) ∧ take1 x s.data.toList = some z.data.toList ∧ RD w' g z b ∧ w.grownBy w' (some g)) := by
  refine (take_any g s b x w h).mono fun e w' hh => ?_
  rcases hh with hh | ⟨z, h1, h2, rfl⟩
  · exact Or.inl hh
  · exact Or.inr ⟨z, h1, h2, h.set0 z, grown_set _ _ _ _⟩

/-- the size of the reader's string -/
def sizeAt (w : World) (g : Nat) : Nat := match w.cell? ⟨g, 0, none⟩ with
  | some (.string s) => s.size
  | _ => 0
theorem sizeAt_of {w : World} {g : Nat} {s : ByteArray} {b : Bool} (h : RD w g s b) : sizeAt w g = s.size := by unfold sizeAt; rw [h.c0]

theorem take1_len {x : UInt8} {s z : ByteArray} (h : take1 x s.data.toList = some z.data.toList) : z.size + 1 = s.size := by
  have := congrArg List.length (take1_some h)
  rw [List.length_cons, size_toList, size_toList] at this
  omega
theorem drop_len {p : UInt8 → Bool} {s z : ByteArray} (h : z.data.toList = s.data.toList.dropWhile p) : z.size ≤ s.size := by
  rw [← size_toList, ← size_toList, h]
  exact (List.dropWhile_suffix _).length_le

/-- the first byte and the rest -/
theorem split1 {z : ByteArray} (h : 0 < z.size) : z.data.toList = z[0] :: (z.extract 1 z.size).data.toList := by
  have h1 : z.data.toList ≠ [] := by intro e; have := size_toList z; rw [e] at this; simp at this; omega
  cases hz : z.data.toList with
  | nil => exact absurd hz h1
  | cons c r =>
    have h2 := byteR h
    rw [hz] at h2
    simp at h2
    rw [ext_list, List.take_of_length_le (by rw [size_toList]; omega), hz, h2]
    rfl
theorem size1 {z : ByteArray} : (z.extract 1 z.size).size = z.size - 1 := by rw [ByteArray.size_extract]; omega

theorem pre1 {y : ByteArray} (x : UInt8) (h : 0 < y.size) : Lib.hasPrefix y.data.toList (⟨#[x]⟩ : ByteArray).data.toList = (y[0] == x) := by
  rw [split1 h]
  show (x == y[0] && List.isPrefixOf [] _) = _
  rw [Bool.eq_iff_iff]
  simp
  exact ⟨fun h => h.symm, fun h => h.symm⟩
theorem pre0 {y : ByteArray} (x : UInt8) (h : y.size = 0) : Lib.hasPrefix y.data.toList (⟨#[x]⟩ : ByteArray).data.toList = false := by
  have : y.data.toList = [] := List.eq_nil_of_length_eq_zero (by rw [size_toList]; exact h)
  rw [this]
  rfl

theorem toNat_inj {a b : UInt8} (h : (a.toNat : Int) = (b.toNat : Int)) : a = b := UInt8.toNat.inj (by omega)

/-- what the reader of a quotation does at a byte -/
theorem quote_empty {z : ByteArray} (h : z.size = 0) : quoteF z.data.toList = none := by
  have : z.data.toList = [] := List.eq_nil_of_length_eq_zero (by rw [size_toList]; exact h)
  rw [this]; rfl
theorem quote_low {z : ByteArray} (h : 0 < z.size) (hc : (z[0].toNat : Int) < 32) : quoteF z.data.toList = none := by
  rw [split1 h, quoteF_cons, if_pos (by omega)]
theorem quote_end {z : ByteArray} (h : 0 < z.size) (hc : (z[0].toNat : Int) = 34) : quoteF z.data.toList = some ([], (z.extract 1 z.size).data.toList) := by
  have : z[0] = 34 := toNat_inj hc
  rw [split1 h, quoteF_cons, if_neg (by omega), if_pos this]
theorem quote_plain {z : ByteArray} (h : 0 < z.size) (h0 : ¬ (z[0].toNat : Int) < 32) (h1 : ¬ (z[0].toNat : Int) = 34) (h2 : ¬ (z[0].toNat : Int) = 92) : quoteF z.data.toList = (quoteF (z.extract 1 z.size).data.toList).map fun x => (z[0] :: x.1, x.2) := by
  rw [split1 h, quoteF_cons, if_neg (by omega), if_neg (fun e => h1 (by rw [e]; rfl)), if_neg (fun e => h2 (by rw [e]; rfl))]
theorem quote_esc0 {z : ByteArray} (h : 0 < z.size) (hc : (z[0].toNat : Int) = 92) (h1 : (z.extract 1 z.size).size = 0) : quoteF z.data.toList = none := by
  have h9 : z[0] = 92 := toNat_inj hc
  have : (z.extract 1 z.size).data.toList = [] := List.eq_nil_of_length_eq_zero (by rw [size_toList]; exact h1)
  rw [split1 h, this, quoteF_cons, if_neg (by omega), if_neg (by rw [h9]; decide), if_pos h9]
theorem quote_esc {z y : ByteArray} (hy : z.extract 1 z.size = y) (h : 0 < z.size) (hc : (z[0].toNat : Int) = 92) (h1 : 0 < y.size) :
    quoteF z.data.toList = if (y[0].toNat : Int) = 34 ∨ (y[0].toNat : Int) = 92 then (quoteF (y.extract 1 y.size).data.toList).map (fun x => (y[0] :: x.1, x.2)) else none := by
  have h9 : z[0] = 92 := toNat_inj hc
  rw [split1 h, hy, split1 h1, quoteF_cons, if_neg (by omega), if_neg (by rw [h9]; decide), if_pos h9]
  simp only
  by_cases h5 : y[0] = 34 ∨ y[0] = 92
  · rw [if_pos h5, if_pos (by rcases h5 with h5 | h5 <;> rw [h5] <;> simp)]
  · rw [if_neg h5, if_neg (fun e => h5 (e.elim (fun e => Or.inl (toNat_inj e)) (fun e => Or.inr (toNat_inj e))))]

theorem own_ne {w : World} {B g : Nat} {e : TypeId} {v : Value} {n : Nat} {xs : List Value} (h : w.ownsRow (B + 2) e 1 v n xs) (hg : g < B) : v.ownBlock = none ∨ v.ownBlock ≠ some g := by
  cases hv : v.ownBlock with
  | none => exact Or.inl rfl
  | some k =>
    have := own_block_ge h k hv
    right
    intro e
    cases e
    omega
theorem own_ne2 {w : World} {B g : Nat} {e : TypeId} {v : Value} {n : Nat} {xs : List Value} (h : w.ownsRow (B + 2) e 1 v n xs) (hg : g < B + 2) : some g ≠ v.ownBlock := by
  intro e
  have := own_block_ge h g e.symm
  omega
theorem own_out {w w0 : World} {B : Nat} {e : TypeId} {v : Value} {n : Nat} {xs : List Value} (h : w.ownsRow (B + 2) e 1 v n xs) (hB : w0.heap.size ≤ B) : ∀ k, v.ownBlock = some k → w0.heap.size ≤ k := fun k hk => by
  have := own_block_ge h k hk
  omega
theorem grown_push {w w1 w2 : World} {g : Nat} {ob : Option Nat} (h : w.grownBy w1 (some g)) (k : w1.grownBy w2 ob) (ho : ∀ j, ob = some j → w.heap.size ≤ j) : w.grownBy w2 (some g) :=
  ⟨k.os.trans h.os, k.tape.trans h.tape, k.output.trans h.output, Nat.le_trans h.size k.size, fun j hj hne => by
    rw [k.block j (Nat.lt_of_lt_of_le hj h.size) (fun e => by have := ho j e.symm; omega), h.block j hj hne]⟩

theorem arg_done {a : Act} {W : World} {Post : Ending → World → Prop} {n : Nat} {x y : ByteArray} (hb : BX W n x y) (hp : a.tmps.getD 2 undef = .pointer (some ⟨n, 0, none⟩)) (hd : a.defers = [])
    (h : Post (.returned (.agg #[.string x, .string y])) W) : bodyPost Try.prog Try.f23 Post .ret a W :=
  bodyPost_ret (results_cell_row (P := Try.prog) (p := 2) (ty := 49) rfl _ W n 49 _ (0, 0) _ hp hb Try.underlying49 rfl (by kernel_rfl)) hd h

theorem argF_plain {s z z2 : List UInt8} (h1 : take1 34 s = none) (hz : z = s.takeWhile bareC) (hz2 : z2 = s.dropWhile bareC) (h2 : take1 61 z2 = none) : argF s = if bareL z then some (([], z), z2) else none := by
  subst hz hz2
  unfold argF
  simp only [h1, h2]
theorem argF_named {s z z2 z3 : List UInt8} (h1 : take1 34 s = none) (hz : z = s.takeWhile bareC) (hz2 : z2 = s.dropWhile bareC) (h2 : take1 61 z2 = some z3) :
    argF s = if argNameL z then (match take1 34 z3 with | some r' => (quoteF r').map fun x => ((z, x.1), x.2) | none => if bareL (z3.takeWhile bareC) then some ((z, z3.takeWhile bareC), z3.dropWhile bareC) else none) else none := by
  subst hz hz2
  unfold argF
  simp only [h1, h2]
  rfl
theorem bareL_empty {z : ByteArray} (h : z.size = 0) : bareL z.data.toList = false := by
  have : z.data.toList = [] := List.eq_nil_of_length_eq_zero (by rw [size_toList]; exact h)
  rw [this]; rfl
theorem bareL_colon {z : ByteArray} (h : 0 < z.size) (hc : (z[0].toNat : Int) = 58) : bareL z.data.toList = false := by
  rw [split1 h]
  have : decide (z[0].toNat ≠ 58) = false := by simp; omega
  simp only [bareL, this, Bool.false_and]
theorem bareL_good {z : ByteArray} {l : List UInt8} (h : 0 < z.size) (hc : ¬ (z[0].toNat : Int) = 58) (hz : z.data.toList = l.takeWhile bareC) : bareL z.data.toList = true := by
  have ha : ∀ c ∈ z.data.toList, bareC c = true := by rw [hz]; exact takeWhile_all l
  rw [split1 h] at ha ⊢
  have : decide (z[0].toNat ≠ 58) = true := by simp; omega
  simp only [bareL, this, Bool.true_and]
  exact List.all_eq_true.2 ha

/-- how far a quotation has been read -/
def QRel (z0 z : ByteArray) (bs : List UInt8) : Prop := quoteF z0.data.toList = (quoteF z.data.toList).map fun x => (bs ++ x.1, x.2)
theorem QRel.none {z0 z : ByteArray} {bs : List UInt8} (h : QRel z0 z bs) (h2 : quoteF z.data.toList = none) : quoteF z0.data.toList = none := by rw [show quoteF z0.data.toList = _ from h, h2]; rfl
theorem QRel.end {z0 z y : ByteArray} {bs : List UInt8} (h : QRel z0 z bs) (h2 : quoteF z.data.toList = some ([], y.data.toList)) : quoteF z0.data.toList = some (bs, y.data.toList) := by rw [show quoteF z0.data.toList = _ from h, h2]; simp
theorem QRel.step {z0 z y : ByteArray} {bs : List UInt8} {c : UInt8} (h : QRel z0 z bs) (h2 : quoteF z.data.toList = (quoteF y.data.toList).map fun x => (c :: x.1, x.2)) : QRel z0 y (bs ++ [c]) := by
  unfold QRel
  rw [show quoteF z0.data.toList = _ from h, h2]
  cases quoteF y.data.toList with
  | none => rfl
  | some x => simp


set_option maxRecDepth 100000 in
set_option maxHeartbeats 4000000 in
theorem arg_any (g : Nat) (s : ByteArray) (w : World) (h : RD w g s false) (hs : s.size ≤ 1048576) :
    Calls Try.prog 23 #[.pointer (some ⟨g, 0, none⟩)] w (ArgPost g s w) := by
  have H := Lib.hid h; clear h
  go_enter Try.func23, Try.ntmps23
  go_wp2_with fail
  have hg := H.out.lt
  obtain ⟨w2, hw2⟩ : ∃ w2, (w.alloc (.cells #[.string ⟨#[]⟩, .string ⟨#[]⟩] 49)).alloc (.cells #[.string ⟨#[]⟩, .string ⟨#[]⟩] 49) = w2 := ⟨_, rfl⟩
  have HW := Lib.hid (show w.grownBy w2 (some g) by rw [← hw2]; exact (World.grownBy_alloc w _ _).trans (World.grownBy_alloc _ _ _))
  have HR := Lib.hid (show RD w2 g s false by rw [← hw2]; exact (H.out.other (World.grownBy_alloc w _ none) (by simp)).other (World.grownBy_alloc _ _ none) (by simp))
  have HB0 := Lib.hid (show BX w2 w.heap.size ⟨#[]⟩ ⟨#[]⟩ by
    rw [← hw2]
    exact BX.other (w := w.alloc (.cells #[.string ⟨#[]⟩, .string ⟨#[]⟩] 49)) (heap_alloc_new _ _) (World.grownBy_alloc _ _ none) (by simp))
  have HB1 := Lib.hid (show BX w2 (w.heap.size + 1) ⟨#[]⟩ ⟨#[]⟩ by
    rw [← hw2]
    have := heap_alloc_new (w.alloc (.cells #[.string ⟨#[]⟩, .string ⟨#[]⟩] 49)) (.cells #[.string ⟨#[]⟩, .string ⟨#[]⟩] 49)
    simp only [World.size_alloc] at this
    exact this)
  rw [hw2]
  clear hw2
  obtain ⟨n, hn⟩ : ∃ n, w.heap.size = n := ⟨_, rfl⟩
  rw [hn] at HB0 HB1 hg
  rw [hn]
  have hnw : w.heap.size ≤ n := by omega
  have HN := Lib.hid hn; clear hn
  refine (take_r g s false 34 w2 HR.out).mono ?_
  rintro e w3 (⟨rfl, ht, rfl⟩ | ⟨z0, rfl, ht, hr3, hg3⟩)
  · have HT := Lib.hid ht; clear ht
    have hW : n + 2 ≤ w2.heap.size := HB1.out.lt
    go_wp2_with fail
    refine (plain_any g s false _ HR.out (by omega)).mono ?_
    rintro e w4 ⟨zv, z2, rfl, hz, hz2, hr4, hg4⟩
    have hr4 : RD w4 g z2 false := hr4
    have hzl2 := drop_len hz2
    have hzl : zv.size ≤ s.size := by rw [← size_toList, ← size_toList, hz]; exact (List.takeWhile_prefix _).length_le
    have HB9 := HB0
    have HB8 := HB1
    have HW9 := HW
    clear HR HB0 HB1 HW hW
    have HR := Lib.hid hr4
    have HB0 := Lib.hid (HB9.out.other hg4 (by intro e; cases e; omega))
    have HB1 := Lib.hid (HB8.out.other hg4 (by intro e; cases e; omega))
    have HW := Lib.hid (HW9.out.trans hg4)
    have HZ := Lib.hid hz
    have HZ2 := Lib.hid hz2
    clear HB9 HB8 HW9 hr4 hg4 hz hz2
    have q0c0 := HR.out.c0
    have q0c1 := HR.out.c1
    have q0f0 := HR.out.f0
    have q0f1 := HR.out.f1
    have q0sh := HR.out.sh
    have q1c0 := HB1.out.c0
    have q1c1 := HB1.out.c1
    have q1f0 := HB1.out.f0
    have q1f1 := HB1.out.f1
    have q1sh := HB1.out.sh
    go_wp2_with fail
    clear q0c0 q0c1 q0f0 q0f1 q0sh q1c0 q1c1 q1f0 q1f1 q1sh
    obtain ⟨w5, hw5⟩ : ∃ w5, w4.setCell ⟨n + 1, 1, none⟩ (.string zv) = w5 := ⟨_, rfl⟩
    have HR5 := Lib.hid (show RD w5 g z2 false by rw [← hw5]; exact HR.out.set (by omega) _)
    have HB5 := Lib.hid (show BX w5 n ⟨#[]⟩ ⟨#[]⟩ by rw [← hw5]; exact HB0.out.set (by omega) _)
    have HC5 := Lib.hid (show BX w5 (n + 1) ⟨#[]⟩ zv by rw [← hw5]; exact HB1.out.set1 _)
    have HW5 := Lib.hid (show w.grownBy w5 (some g) by rw [← hw5]; exact grown_new HW.out (by omega) _)
    rw [hw5]
    clear hw5 HR HB0 HB1 HW
    refine (take_r g z2 false 61 w5 HR5.out).mono ?_
    rintro e w6 (⟨rfl, ht, rfl⟩ | ⟨z3, rfl, ht, hr6, hg6⟩)
    · have HA := Lib.hid (argF_plain HT.out HZ.out HZ2.out ht); clear ht
      have HR := HR5
      have HB0 := HB5
      have HB1 := HC5
      have HW := HW5
      clear HR5 HB5 HC5 HW5
      have q0c0 := HR.out.c0
      have q0c1 := HR.out.c1
      have q0f0 := HR.out.f0
      have q0f1 := HR.out.f1
      have q0sh := HR.out.sh
      have q1c0 := HB0.out.c0
      have q1c1 := HB0.out.c1
      have q1f0 := HB0.out.f0
      have q1f1 := HB0.out.f1
      have q1sh := HB0.out.sh
      have q2c0 := HB1.out.c0
      have q2c1 := HB1.out.c1
      have q2f0 := HB1.out.f0
      have q2f1 := HB1.out.f1
      have q2sh := HB1.out.sh
      by_cases hz0 : zv.size = 0
      · have e0 : zv.toList = [] := by rw [Go.ByteArray.toList_eq]; exact List.eq_nil_of_length_eq_zero (by rw [size_toList]; exact hz0)
        have HX := Lib.hid (bareL_empty hz0)
        go_wp2_with fail
        (try simp only [Exit.inBlock, Exit.then])
        refine arg_done (n := n) (((HB0.out.set (by omega) _).set0 _).set1 _) rfl rfl ?_
        exact ⟨_, _, _, _, rfl, ((HR.out.set1 _).set (by omega) _).set (by omega) _, grown_new (grown_new (grown_g HW.out _) (by omega) _) (by omega) _, Or.inl ⟨rfl, by rw [HA.out, HX.out]; rfl⟩⟩
      have hz1 : 0 < zv.size := by omega
      have e0 : zv.toList.isEmpty = false := by
        have hne : ¬ zv.data.toList = [] := by intro hs; exact absurd (by rw [← size_toList, hs]; rfl) hz0
        have h2 : ¬ zv.toList = [] := by rw [Go.ByteArray.toList_eq]; exact hne
        cases hs : zv.toList with | nil => exact absurd hs h2 | cons a r => rfl
      by_cases h58 : (zv[0].toNat : Int) = 58
      · have HX := Lib.hid (bareL_colon hz1 h58)
        go_wp2_with fail
        (try simp only [Exit.inBlock, Exit.then])
        refine arg_done (n := n) (((HB0.out.set (by omega) _).set0 _).set1 _) rfl rfl ?_
        exact ⟨_, _, _, _, rfl, ((HR.out.set1 _).set (by omega) _).set (by omega) _, grown_new (grown_new (grown_g HW.out _) (by omega) _) (by omega) _, Or.inl ⟨rfl, by rw [HA.out, HX.out]; rfl⟩⟩
      · have HX := Lib.hid (bareL_good hz1 h58 HZ.out)
        have hb58 : ((zv[0].toNat : Int) == 58) = false := by simpa using h58
        go_wp2_with fail
        (try simp only [Exit.inBlock, Exit.then])
        refine arg_done (n := n) (((HB0.out.set (by omega) _).set0 _).set1 _) rfl rfl ?_
        exact ⟨_, _, _, _, rfl, ((HR.out.set1 _).set (by omega) _).set (by omega) _, grown_new (grown_new (grown_g HW.out _) (by omega) _) (by omega) _, Or.inr ⟨rfl, by rw [HA.out, if_pos HX.out]⟩⟩
    · have HA := Lib.hid (argF_named HT.out HZ.out HZ2.out ht)
      have hz3 := take1_len ht; clear ht
      have HR := Lib.hid hr6
      have HB0 := Lib.hid (HB5.out.other hg6 (by intro e; cases e; omega))
      have HB1 := Lib.hid (HC5.out.other hg6 (by intro e; cases e; omega))
      have HW := Lib.hid (HW5.out.trans hg6)
      clear HR5 HB5 HC5 HW5 hr6 hg6
      have q0c0 := HR.out.c0
      have q0c1 := HR.out.c1
      have q0f0 := HR.out.f0
      have q0f1 := HR.out.f1
      have q0sh := HR.out.sh
      have q1c0 := HB1.out.c0
      have q1c1 := HB1.out.c1
      have q1f0 := HB1.out.f0
      have q1f1 := HB1.out.f1
      have q1sh := HB1.out.sh
      cases hn : argNameL zv.data.toList
      · have HN2 := Lib.hid hn
        go_wp2_with (go_at_call 53; go_must (refine (isArg_p _ _ (by omega)).mono ?_); rintro e w1 ⟨rfl, rfl⟩)
        clear q0c0 q0c1 q0f0 q0f1 q0sh q1c0 q1c1 q1f0 q1f1 q1sh hn
        obtain ⟨w7, hw7⟩ : ∃ w7, ((w6.setCell ⟨g, 1, none⟩ (.bool true)).setCell ⟨n + 1, 0, none⟩ (.string zv)).setCell ⟨n + 1, 1, none⟩ (.string ⟨#[]⟩) = w7 := ⟨_, rfl⟩
        have HR7 := Lib.hid (show RD w7 g z3 true by rw [← hw7]; exact ((HR.out.set1 _).set (by omega) _).set (by omega) _)
        have HB7 := Lib.hid (show BX w7 n ⟨#[]⟩ ⟨#[]⟩ by rw [← hw7]; exact ((HB0.out.set (by omega) _).set (by omega) _).set (by omega) _)
        have HC7 := Lib.hid (show BX w7 (n + 1) zv ⟨#[]⟩ by rw [← hw7]; exact ((HB1.out.set (by omega) _).set0 _).set1 _)
        have HW7 := Lib.hid (show w.grownBy w7 (some g) by rw [← hw7]; exact grown_new (grown_new (grown_g HW.out _) (by omega) _) (by omega) _)
        rw [hw7]
        clear hw7 HR HB0 HB1 HW
        refine (take_r g z3 true 34 w7 HR7.out).mono ?_
        rintro e w8 (⟨rfl, ht, rfl⟩ | ⟨z4, rfl, ht, hr8, hg8⟩)
        · have HT4 := Lib.hid ht; clear ht
          go_wp2_with fail
          refine (plain_any g z3 true _ HR7.out (by omega)).mono ?_
          rintro e w9 ⟨y, y2, rfl, hy, hy2, hr9, hg9⟩
          have hr9 : RD w9 g y2 true := hr9
          have HR := Lib.hid hr9
          have HB0 := Lib.hid (HB7.out.other hg9 (by intro e; cases e; omega))
          have HB1 := Lib.hid (HC7.out.other hg9 (by intro e; cases e; omega))
          have HW := Lib.hid (HW7.out.trans hg9)
          have HY := Lib.hid hy
          have HY2 := Lib.hid hy2
          clear hr9 hg9 hy hy2 HR7 HB7 HC7 HW7
          have HV := Lib.hid (show argF s.data.toList = none by rw [HA.out, if_neg (by rw [HN2.out]; simp)])
          have q0c0 := HR.out.c0
          have q0c1 := HR.out.c1
          have q0f0 := HR.out.f0
          have q0f1 := HR.out.f1
          have q0sh := HR.out.sh
          have q1c0 := HB1.out.c0
          have q1c1 := HB1.out.c1
          have q1f0 := HB1.out.f0
          have q1f1 := HB1.out.f1
          have q1sh := HB1.out.sh
          have q2c0 := HB0.out.c0
          have q2c1 := HB0.out.c1
          have q2f0 := HB0.out.f0
          have q2f1 := HB0.out.f1
          have q2sh := HB0.out.sh
          go_wp2_with fail
          (try simp only [Exit.inBlock, Exit.then])
          refine arg_done (n := n) ((((HB0.out.set (by omega) _).set (by omega) _).set0 _).set1 _) rfl rfl ?_
          exact ⟨_, _, _, _, rfl, (((HR.out.set (by omega) _).set1 _).set (by omega) _).set (by omega) _, grown_new (grown_new (grown_g (grown_new HW.out (by omega) _) _) (by omega) _) (by omega) _, Or.inl ⟨rfl, HV.out⟩⟩
        · have HT4 := Lib.hid ht; clear ht
          have HR := Lib.hid hr8
          have HB0 := Lib.hid (HB7.out.other hg8 (by intro e; cases e; omega))
          have HB1 := Lib.hid (HC7.out.other hg8 (by intro e; cases e; omega))
          have HW := Lib.hid (HW7.out.trans hg8)
          have hW : n + 2 ≤ w8.heap.size := HB1.out.lt
          have hz4 := take1_len HT4.out
          clear hr8 hg8 HR7 HB7 HC7 HW7
          have HV := Lib.hid (show argF s.data.toList = none by rw [HA.out, if_neg (by rw [HN2.out]; simp)])
          have HNil := Lib.hid (World.ownsRow_nil w8 (n + 2) 5 1)
          have q0c0 := HR.out.c0
          have q0c1 := HR.out.c1
          have q0f0 := HR.out.f0
          have q0f1 := HR.out.f1
          have q0sh := HR.out.sh
          have q1c0 := HB0.out.c0
          have q1c1 := HB0.out.c1
          have q1f0 := HB0.out.f0
          have q1f1 := HB0.out.f1
          have q1sh := HB0.out.sh
          have q2c0 := HB1.out.c0
          have q2c1 := HB1.out.c1
          have q2f0 := HB1.out.f0
          have q2f1 := HB1.out.f1
          have q2sh := HB1.out.sh
          go_wp2_with fail
          go_loopw [4] (fun t4 wr => t4 = .slice none 0 0 ∧ EqW wr w8) (fun _ _ => 0)
          case atStart => exact ⟨rfl, EqW.refl _⟩
          case round =>
            obtain ⟨rfl, hww⟩ := hrel
            unfold EqW at hww
            subst hww
            have hcv := conv_row (bs := []) HNil.out
            go_wp2_with fail
            (try simp only [Exit.inBlock, Exit.then])
            refine arg_done (n := n) (((HB0.out.set (by omega) _).set0 _).set1 _) rfl rfl ?_
            exact ⟨_, _, _, _, rfl, ((HR.out.set (by omega) _).set (by omega) _).set (by omega) _, grown_new (grown_new (grown_new HW.out (by omega) _) (by omega) _) (by omega) _, Or.inl ⟨rfl, HV.out⟩⟩
      · have HN2 := Lib.hid hn
        go_wp2_with (go_at_call 53; go_must (refine (isArg_p _ _ (by omega)).mono ?_); rintro e w1 ⟨rfl, rfl⟩)
        clear q0c0 q0c1 q0f0 q0f1 q0sh q1c0 q1c1 q1f0 q1f1 q1sh hn
        obtain ⟨w7, hw7⟩ : ∃ w7, ((w6.setCell ⟨g, 1, none⟩ (.bool false)).setCell ⟨n + 1, 0, none⟩ (.string zv)).setCell ⟨n + 1, 1, none⟩ (.string ⟨#[]⟩) = w7 := ⟨_, rfl⟩
        have HR7 := Lib.hid (show RD w7 g z3 false by rw [← hw7]; exact ((HR.out.set1 _).set (by omega) _).set (by omega) _)
        have HB7 := Lib.hid (show BX w7 n ⟨#[]⟩ ⟨#[]⟩ by rw [← hw7]; exact ((HB0.out.set (by omega) _).set (by omega) _).set (by omega) _)
        have HC7 := Lib.hid (show BX w7 (n + 1) zv ⟨#[]⟩ by rw [← hw7]; exact ((HB1.out.set (by omega) _).set0 _).set1 _)
        have HW7 := Lib.hid (show w.grownBy w7 (some g) by rw [← hw7]; exact grown_new (grown_new (grown_g HW.out _) (by omega) _) (by omega) _)
        rw [hw7]
        clear hw7 HR HB0 HB1 HW
        refine (take_r g z3 false 34 w7 HR7.out).mono ?_
        rintro e w8 (⟨rfl, ht, rfl⟩ | ⟨z4, rfl, ht, hr8, hg8⟩)
        · have HT4 := Lib.hid ht; clear ht
          go_wp2_with fail
          refine (plain_any g z3 false _ HR7.out (by omega)).mono ?_
          rintro e w9 ⟨y, y2, rfl, hy, hy2, hr9, hg9⟩
          have hr9 : RD w9 g y2 false := hr9
          have HR := Lib.hid hr9
          have HB0 := Lib.hid (HB7.out.other hg9 (by intro e; cases e; omega))
          have HB1 := Lib.hid (HC7.out.other hg9 (by intro e; cases e; omega))
          have HW := Lib.hid (HW7.out.trans hg9)
          have HY := Lib.hid hy
          have HY2 := Lib.hid hy2
          clear hr9 hg9 hy hy2 HR7 HB7 HC7 HW7
          have HV := Lib.hid (show argF s.data.toList = if bareL y.data.toList then some ((zv.data.toList, y.data.toList), y2.data.toList) else none by rw [HA.out, if_pos HN2.out, HT4.out, HY.out, HY2.out])
          have q0c0 := HR.out.c0
          have q0c1 := HR.out.c1
          have q0f0 := HR.out.f0
          have q0f1 := HR.out.f1
          have q0sh := HR.out.sh
          have q1c0 := HB0.out.c0
          have q1c1 := HB0.out.c1
          have q1f0 := HB0.out.f0
          have q1f1 := HB0.out.f1
          have q1sh := HB0.out.sh
          have q2c0 := HB1.out.c0
          have q2c1 := HB1.out.c1
          have q2f0 := HB1.out.f0
          have q2f1 := HB1.out.f1
          have q2sh := HB1.out.sh
          by_cases hz0 : y.size = 0
          · have e0 : y.toList = [] := by rw [Go.ByteArray.toList_eq]; exact List.eq_nil_of_length_eq_zero (by rw [size_toList]; exact hz0)
            have HX := Lib.hid (bareL_empty hz0)
            go_wp2_with fail
            (try simp only [Exit.inBlock, Exit.then])
            refine arg_done (n := n) ((((HB0.out.set (by omega) _).set (by omega) _).set0 _).set1 _) rfl rfl ?_
            exact ⟨_, _, _, _, rfl, (((HR.out.set (by omega) _).set1 _).set (by omega) _).set (by omega) _, grown_new (grown_new (grown_g (grown_new HW.out (by omega) _) _) (by omega) _) (by omega) _, Or.inl ⟨rfl, by rw [HV.out, HX.out]; rfl⟩⟩
          have hz1 : 0 < y.size := by omega
          have e0 : y.toList.isEmpty = false := by
            have hne : ¬ y.data.toList = [] := by intro hs; exact absurd (by rw [← size_toList, hs]; rfl) hz0
            have h2 : ¬ y.toList = [] := by rw [Go.ByteArray.toList_eq]; exact hne
            cases hs : y.toList with | nil => exact absurd hs h2 | cons a r => rfl
          by_cases h58 : (y[0].toNat : Int) = 58
          · have HX := Lib.hid (bareL_colon hz1 h58)
            go_wp2_with fail
            (try simp only [Exit.inBlock, Exit.then])
            refine arg_done (n := n) ((((HB0.out.set (by omega) _).set (by omega) _).set0 _).set1 _) rfl rfl ?_
            exact ⟨_, _, _, _, rfl, (((HR.out.set (by omega) _).set1 _).set (by omega) _).set (by omega) _, grown_new (grown_new (grown_g (grown_new HW.out (by omega) _) _) (by omega) _) (by omega) _, Or.inl ⟨rfl, by rw [HV.out, HX.out]; rfl⟩⟩
          · have HX := Lib.hid (bareL_good hz1 h58 HY.out)
            have hb58 : ((y[0].toNat : Int) == 58) = false := by simpa using h58
            go_wp2_with fail
            (try simp only [Exit.inBlock, Exit.then])
            refine arg_done (n := n) ((((HB0.out.set (by omega) _).set (by omega) _).set0 _).set1 _) rfl rfl ?_
            exact ⟨_, _, _, _, rfl, (((HR.out.set (by omega) _).set1 _).set (by omega) _).set (by omega) _, grown_new (grown_new (grown_g (grown_new HW.out (by omega) _) _) (by omega) _) (by omega) _, Or.inr ⟨rfl, by rw [HV.out, if_pos HX.out]⟩⟩
        · have HT4 := Lib.hid ht; clear ht
          have HR := Lib.hid hr8
          have HB0 := Lib.hid (HB7.out.other hg8 (by intro e; cases e; omega))
          have HB1 := Lib.hid (HC7.out.other hg8 (by intro e; cases e; omega))
          have HW := Lib.hid (HW7.out.trans hg8)
          have hW : n + 2 ≤ w8.heap.size := HB1.out.lt
          have hz4 := take1_len HT4.out
          clear hr8 hg8 HR7 HB7 HC7 HW7
          have HF1 := Lib.hid (fun (h : quoteF z4.data.toList = none) => show argF s.data.toList = none by rw [HA.out, if_pos HN2.out, HT4.out]; simp only; rw [h]; rfl)
          have HF2 := Lib.hid (fun (v t : List UInt8) (h : quoteF z4.data.toList = some (v, t)) => show argF s.data.toList = some ((zv.data.toList, v), t) by rw [HA.out, if_pos HN2.out, HT4.out]; simp only; rw [h]; rfl)
          have q0c0 := HR.out.c0
          have q0c1 := HR.out.c1
          have q0f0 := HR.out.f0
          have q0f1 := HR.out.f1
          have q0sh := HR.out.sh
          have q1c0 := HB0.out.c0
          have q1c1 := HB0.out.c1
          have q1f0 := HB0.out.f0
          have q1f1 := HB0.out.f1
          have q1sh := HB0.out.sh
          have q2c0 := HB1.out.c0
          have q2c1 := HB1.out.c1
          have q2f0 := HB1.out.f0
          have q2f1 := HB1.out.f1
          have q2sh := HB1.out.sh
          go_wp2_with fail
          clear q0c0 q0c1 q0f0 q0f1 q0sh q1c0 q1c1 q1f0 q1f1 q1sh q2c0 q2c1 q2f0 q2f1 q2sh
          go_loopw [4] (fun t4 wr => ∃ (z : ByteArray) (m : Nat) (Ao : Option Addr) (co : Nat) (bs : List UInt8), t4 = .slice Ao m co ∧ m + z.size ≤ 1048576 ∧ Hid (QRel z4 z bs) ∧ Hid (wr.ownsRow (n + 2) 5 1 (.slice Ao m co) m (byteCells bs)) ∧ Hid (RD wr g z false) ∧ Hid (BX wr n ⟨#[]⟩ ⟨#[]⟩) ∧ Hid (BX wr (n + 1) zv ⟨#[]⟩) ∧ Hid (w.grownBy wr (some g)) ∧ n + 2 ≤ wr.heap.size) (fun _ wr => sizeAt wr g)
          case atStart => exact ⟨z4, 0, none, 0, [], rfl, by omega, (show quoteF _ = _ by cases quoteF z4.data.toList <;> simp), World.ownsRow_nil _ _ _ _, HR, HB0, HB1, HW, hW⟩
          case round =>
            clear HR HB0 HB1 HW hW
            obtain ⟨z, m, Ao, co, bs, rfl, hm, HQ, HO, HR, HB0, HB1, HW, hW⟩ := hrel
            have HNe := Lib.hid (own_ne HO.out hg)
            have q0c0 := HR.out.c0
            have q0c1 := HR.out.c1
            have q0f0 := HR.out.f0
            have q0f1 := HR.out.f1
            have q0sh := HR.out.sh
            have q1c0 := HB0.out.c0
            have q1c1 := HB0.out.c1
            have q1f0 := HB0.out.f0
            have q1f1 := HB0.out.f1
            have q1sh := HB0.out.sh
            have q2c0 := HB1.out.c0
            have q2c1 := HB1.out.c1
            have q2f0 := HB1.out.f0
            have q2f1 := HB1.out.f1
            have q2sh := HB1.out.sh
            by_cases hz : z.size = 0
            · have e0 : z.toList = [] := by rw [Go.ByteArray.toList_eq]; exact List.eq_nil_of_length_eq_zero (by rw [size_toList]; exact hz)
              have HX := Lib.hid (HF1.out (HQ.out.none (quote_empty hz)))
              have own2 := HO.out.kept (grown_set wr g 1 (.bool true)) HNe.out
              have hcv := conv_row own2
              clear own2
              go_wp2_with fail
              (try simp only [Exit.inBlock, Exit.then])
              refine arg_done (n := n) (((((HB0.out).set (by omega) _).set (by omega) _).set0 _).set1 _) rfl rfl ?_
              exact ⟨_, _, _, _, rfl, (((HR.out.set1 _).set (by omega) _).set (by omega) _).set (by omega) _, grown_new (grown_new (grown_new (grown_g (HW.out) _) (by omega) _) (by omega) _) (by omega) _, Or.inl ⟨rfl, HX.out⟩⟩
            have hz1 : 0 < z.size := by omega
            have e0 : z.toList.isEmpty = false := by
              have hne : ¬ z.data.toList = [] := by intro hs; exact absurd (by rw [← size_toList, hs]; rfl) hz
              have h2 : ¬ z.toList = [] := by rw [Go.ByteArray.toList_eq]; exact hne
              cases hs : z.toList with | nil => exact absurd hs h2 | cons a r => rfl
            by_cases hlow : (z[0].toNat : Int) < 32
            · have HX := Lib.hid (HF1.out (HQ.out.none (quote_low hz1 hlow)))
              have own2 := HO.out.kept (grown_set wr g 1 (.bool true)) HNe.out
              have hcv := conv_row own2
              clear own2
              go_wp2_with fail
              (try simp only [Exit.inBlock, Exit.then])
              refine arg_done (n := n) (((((HB0.out).set (by omega) _).set (by omega) _).set0 _).set1 _) rfl rfl ?_
              exact ⟨_, _, _, _, rfl, (((HR.out.set1 _).set (by omega) _).set (by omega) _).set (by omega) _, grown_new (grown_new (grown_new (grown_g (HW.out) _) (by omega) _) (by omega) _) (by omega) _, Or.inl ⟨rfl, HX.out⟩⟩
            obtain ⟨y, hy⟩ : ∃ y, z.extract 1 z.size = y := ⟨_, rfl⟩
            have hys : y.size + 1 = z.size := by rw [← hy, size1]; omega
            by_cases h34 : (z[0].toNat : Int) = 34
            · have HX := Lib.hid (HF2.out _ _ (HQ.out.end (y := y) (by rw [← hy]; exact quote_end hz1 h34)))
              have own2 := HO.out.kept (grown_set wr g 0 (.string y)) HNe.out
              have hcv := conv_row own2
              clear own2
              go_wp2_with fail
              (try simp only [Exit.inBlock, Exit.then])
              refine arg_done (n := n) (((((HB0.out).set (by omega) _).set (by omega) _).set0 _).set1 _) rfl rfl ?_
              exact ⟨_, _, _, _, rfl, (((HR.out.set0 _).set (by omega) _).set (by omega) _).set (by omega) _, grown_new (grown_new (grown_new (grown_g (HW.out) _) (by omega) _) (by omega) _) (by omega) _, Or.inr ⟨rfl, HX.out⟩⟩
            by_cases h92 : (z[0].toNat : Int) = 92
            · by_cases hy0 : y.size = 0
              · have HX := Lib.hid (HF1.out (HQ.out.none (quote_esc0 hz1 h92 (by rw [hy]; exact hy0))))
                have HP1 := Lib.hid (pre0 (y := y) 34 hy0)
                have HP2 := Lib.hid (pre0 (y := y) 92 hy0)
                have own2 := (HO.out.kept (grown_set wr g 0 (.string y)) HNe.out).kept (grown_set _ g 1 (.bool true)) HNe.out
                have hcv := conv_row own2
                clear own2
                go_wp2_with (first
                  | (go_at_call 20; refine (hasPrefix_r _ _ false _ HP1.out).mono ?_; rintro e w8 ⟨rfl, rfl⟩)
                  | (go_at_call 20; go_must (refine (hasPrefix_r _ _ false _ HP2.out).mono ?_); rintro e w8 ⟨rfl, rfl⟩))
                (try simp only [Exit.inBlock, Exit.then])
                refine arg_done (n := n) ((((((HB0.out).set (by omega) _).set (by omega) _).set (by omega) _).set0 _).set1 _) rfl rfl ?_
                exact ⟨_, _, _, _, rfl, ((((HR.out.set0 _).set1 _).set (by omega) _).set (by omega) _).set (by omega) _, grown_new (grown_new (grown_new (grown_g (grown_g (HW.out) _) _) (by omega) _) (by omega) _) (by omega) _, Or.inl ⟨rfl, HX.out⟩⟩
              have hy1 : 0 < y.size := by omega
              have HE := Lib.hid (quote_esc hy hz1 h92 hy1)
              obtain ⟨y2, hy2⟩ : ∃ y2, y.extract 1 y.size = y2 := ⟨_, rfl⟩
              have hys2 : y2.size + 1 = y.size := by rw [← hy2, size1]; omega
              have HP1 := Lib.hid (pre1 (y := y) 34 hy1)
              have HP2 := Lib.hid (pre1 (y := y) 92 hy1)
              by_cases hq : (y[0].toNat : Int) = 34 ∨ (y[0].toNat : Int) = 92
              · have HS := Lib.hid (HQ.out.step (y := y2) (c := y[0]) (by rw [HE.out, if_pos hq, hy2]))
                clear HE
                rcases hq with hq | hq
                · have HPa := Lib.hid (show Lib.hasPrefix y.data.toList (⟨#[34]⟩ : ByteArray).data.toList = true by rw [HP1.out, toNat_inj (b := 34) hq]; decide)
                  have HPb := Lib.hid (show Lib.hasPrefix y.data.toList (⟨#[92]⟩ : ByteArray).data.toList = false by rw [HP2.out, toNat_inj (b := 34) hq]; decide)
                  clear hq
                  go_wp2_with (first
                    | (go_at_call 20; refine (hasPrefix_r _ _ true _ HPa.out).mono ?_; rintro e w8 ⟨rfl, rfl⟩)
                    | (go_at_call 20; go_must (refine (hasPrefix_r _ _ false _ HPb.out).mono ?_); rintro e w8 ⟨rfl, rfl⟩)
                    | (at_builtin; have hh := own_alloc ((HO.out.kept (grown_set wr g 0 (.string y)) HNe.out).kept (grown_set _ g 0 (.string y2)) HNe.out) (.cells #[.int .u8 (y[0].toNat : Int)] 5); have k1 : (m + 1) * 1 ≤ 140737488355328 := (by omega); have k2 : m + 1 ≤ maxLen := (by unfold maxLen; omega); have k3 : n + 2 ≤ (((wr.setCell ⟨g, 0, none⟩ (.string y)).setCell ⟨g, 0, none⟩ (.string y2)).alloc (.cells #[.int .u8 (y[0].toNat : Int)] 5)).heap.size := (by simp [World.setCell]; omega); have k4 := cell_new ((wr.setCell ⟨g, 0, none⟩ (.string y)).setCell ⟨g, 0, none⟩ (.string y2)) [.int .u8 (y[0].toNat : Int)] 5 wr.heap.size (by simp [World.setCell]); go_must (refine wpList_push _ rfl (.tmp 144) (.tmp 146) 68 rfl (n + 2) 5 (.int .u8 0) 1 1 Try.underlying68 info_byte2 rfl (by omega) (.slice Ao m co) m _ rfl hh [.int .u8 (y[0].toNat : Int)] rfl _ rfl k4 (one_int _ _) k1 k2 k3 ?_); clear hh k1 k2 k3 k4; intro g1 c1 w9 own9 hg9 hgg hb9))
                  go_roundw
                  case rel =>
                    have hgA := (World.grownBy_alloc ((wr.setCell ⟨g, 0, none⟩ (.string y)).setCell ⟨g, 0, none⟩ (.string y2)) (.cells #[.int .u8 (y[0].toNat : Int)] 5) none)
                    exact ⟨y2, m + 1, some ⟨g1, 0, none⟩, c1, bs ++ [y[0]], rfl, by omega, HS, Lib.hid (row_more _ own9 rfl), Lib.hid ((((HR.out.set0 y).set0 y2).other hgA (by simp)).other hg9 (own_ne2 HO.out (by omega))), Lib.hid ((((HB0.out.set (by omega) _).set (by omega) _).other hgA (by simp)).other hg9 (own_ne2 HO.out (by omega))), Lib.hid ((((HB1.out.set (by omega) _).set (by omega) _).other hgA (by simp)).other hg9 (own_ne2 HO.out (by omega))),
                      Lib.hid (grown_push (((grown_g (grown_g HW.out _) _)).trans (World.grownBy_alloc _ _ _)) hg9 (own_out HO.out hnw)), Nat.le_trans hW (Nat.le_trans (by simp [World.setCell]) hg9.size)⟩
                  case measure => rw [sizeAt_of HR.out, sizeAt_of ((((HR.out.set0 y).set0 y2).other (World.grownBy_alloc ((wr.setCell ⟨g, 0, none⟩ (.string y)).setCell ⟨g, 0, none⟩ (.string y2)) (.cells #[.int .u8 (y[0].toNat : Int)] 5) none) (by simp)).other hg9 (own_ne2 HO.out (by omega)))]; omega
                · have HPa := Lib.hid (show Lib.hasPrefix y.data.toList (⟨#[34]⟩ : ByteArray).data.toList = false by rw [HP1.out, toNat_inj (b := 92) hq]; decide)
                  have HPb := Lib.hid (show Lib.hasPrefix y.data.toList (⟨#[92]⟩ : ByteArray).data.toList = true by rw [HP2.out, toNat_inj (b := 92) hq]; decide)
                  clear hq
                  go_wp2_with (first
                    | (go_at_call 20; refine (hasPrefix_r _ _ false _ HPa.out).mono ?_; rintro e w8 ⟨rfl, rfl⟩)
                    | (go_at_call 20; go_must (refine (hasPrefix_r _ _ true _ HPb.out).mono ?_); rintro e w8 ⟨rfl, rfl⟩)
                    | (at_builtin; have hh := own_alloc ((HO.out.kept (grown_set wr g 0 (.string y)) HNe.out).kept (grown_set _ g 0 (.string y2)) HNe.out) (.cells #[.int .u8 (y[0].toNat : Int)] 5); have k1 : (m + 1) * 1 ≤ 140737488355328 := (by omega); have k2 : m + 1 ≤ maxLen := (by unfold maxLen; omega); have k3 : n + 2 ≤ (((wr.setCell ⟨g, 0, none⟩ (.string y)).setCell ⟨g, 0, none⟩ (.string y2)).alloc (.cells #[.int .u8 (y[0].toNat : Int)] 5)).heap.size := (by simp [World.setCell]; omega); have k4 := cell_new ((wr.setCell ⟨g, 0, none⟩ (.string y)).setCell ⟨g, 0, none⟩ (.string y2)) [.int .u8 (y[0].toNat : Int)] 5 wr.heap.size (by simp [World.setCell]); go_must (refine wpList_push _ rfl (.tmp 144) (.tmp 146) 68 rfl (n + 2) 5 (.int .u8 0) 1 1 Try.underlying68 info_byte2 rfl (by omega) (.slice Ao m co) m _ rfl hh [.int .u8 (y[0].toNat : Int)] rfl _ rfl k4 (one_int _ _) k1 k2 k3 ?_); clear hh k1 k2 k3 k4; intro g1 c1 w9 own9 hg9 hgg hb9))
                  go_roundw
                  case rel =>
                    have hgA := (World.grownBy_alloc ((wr.setCell ⟨g, 0, none⟩ (.string y)).setCell ⟨g, 0, none⟩ (.string y2)) (.cells #[.int .u8 (y[0].toNat : Int)] 5) none)
                    exact ⟨y2, m + 1, some ⟨g1, 0, none⟩, c1, bs ++ [y[0]], rfl, by omega, HS, Lib.hid (row_more _ own9 rfl), Lib.hid ((((HR.out.set0 y).set0 y2).other hgA (by simp)).other hg9 (own_ne2 HO.out (by omega))), Lib.hid ((((HB0.out.set (by omega) _).set (by omega) _).other hgA (by simp)).other hg9 (own_ne2 HO.out (by omega))), Lib.hid ((((HB1.out.set (by omega) _).set (by omega) _).other hgA (by simp)).other hg9 (own_ne2 HO.out (by omega))),
                      Lib.hid (grown_push (((grown_g (grown_g HW.out _) _)).trans (World.grownBy_alloc _ _ _)) hg9 (own_out HO.out hnw)), Nat.le_trans hW (Nat.le_trans (by simp [World.setCell]) hg9.size)⟩
                  case measure => rw [sizeAt_of HR.out, sizeAt_of ((((HR.out.set0 y).set0 y2).other (World.grownBy_alloc ((wr.setCell ⟨g, 0, none⟩ (.string y)).setCell ⟨g, 0, none⟩ (.string y2)) (.cells #[.int .u8 (y[0].toNat : Int)] 5) none) (by simp)).other hg9 (own_ne2 HO.out (by omega)))]; omega
              · have HX := Lib.hid (HF1.out (HQ.out.none (by rw [HE.out, if_neg hq])))
                have HPa := Lib.hid (show Lib.hasPrefix y.data.toList (⟨#[34]⟩ : ByteArray).data.toList = false by rw [HP1.out]; simp; intro e; exact hq (Or.inl (by rw [e]; rfl)))
                have HPb := Lib.hid (show Lib.hasPrefix y.data.toList (⟨#[92]⟩ : ByteArray).data.toList = false by rw [HP2.out]; simp; intro e; exact hq (Or.inr (by rw [e]; rfl)))
                have own2 := (HO.out.kept (grown_set wr g 0 (.string y)) HNe.out).kept (grown_set _ g 1 (.bool true)) HNe.out
                have hcv := conv_row own2
                clear own2
                go_wp2_with (first
                  | (go_at_call 20; refine (hasPrefix_r _ _ false _ HPa.out).mono ?_; rintro e w8 ⟨rfl, rfl⟩)
                  | (go_at_call 20; go_must (refine (hasPrefix_r _ _ false _ HPb.out).mono ?_); rintro e w8 ⟨rfl, rfl⟩))
                (try simp only [Exit.inBlock, Exit.then])
                refine arg_done (n := n) ((((((HB0.out).set (by omega) _).set (by omega) _).set (by omega) _).set0 _).set1 _) rfl rfl ?_
                exact ⟨_, _, _, _, rfl, ((((HR.out.set0 _).set1 _).set (by omega) _).set (by omega) _).set (by omega) _, grown_new (grown_new (grown_new (grown_g (grown_g (HW.out) _) _) (by omega) _) (by omega) _) (by omega) _, Or.inl ⟨rfl, HX.out⟩⟩
            · have HS := Lib.hid (HQ.out.step (y := y) (c := z[0]) (by rw [quote_plain hz1 hlow h34 h92, hy]))
              go_wp2_with (first
                | fail
                | (at_builtin; have hh := own_alloc (HO.out.kept (grown_set wr g 0 (.string y)) HNe.out) (.cells #[.int .u8 (z[0].toNat : Int)] 5); have k1 : (m + 1) * 1 ≤ 140737488355328 := (by omega); have k2 : m + 1 ≤ maxLen := (by unfold maxLen; omega); have k3 : n + 2 ≤ ((wr.setCell ⟨g, 0, none⟩ (.string y)).alloc (.cells #[.int .u8 (z[0].toNat : Int)] 5)).heap.size := (by simp [World.setCell]; omega); have k4 := cell_new (wr.setCell ⟨g, 0, none⟩ (.string y)) [.int .u8 (z[0].toNat : Int)] 5 wr.heap.size (by simp [World.setCell]); go_must (refine wpList_push _ rfl (.tmp 144) (.tmp 146) 68 rfl (n + 2) 5 (.int .u8 0) 1 1 Try.underlying68 info_byte2 rfl (by omega) (.slice Ao m co) m _ rfl hh [.int .u8 (z[0].toNat : Int)] rfl _ rfl k4 (one_int _ _) k1 k2 k3 ?_); clear hh k1 k2 k3 k4; intro g1 c1 w9 own9 hg9 hgg hb9))
              go_roundw
              case rel =>
                have hgA := (World.grownBy_alloc (wr.setCell ⟨g, 0, none⟩ (.string y)) (.cells #[.int .u8 (z[0].toNat : Int)] 5) none)
                exact ⟨y, m + 1, some ⟨g1, 0, none⟩, c1, bs ++ [z[0]], rfl, by omega, HS, Lib.hid (row_more _ own9 rfl), Lib.hid (((HR.out.set0 y).other hgA (by simp)).other hg9 (own_ne2 HO.out (by omega))), Lib.hid (((HB0.out.set (by omega) _).other hgA (by simp)).other hg9 (own_ne2 HO.out (by omega))), Lib.hid (((HB1.out.set (by omega) _).other hgA (by simp)).other hg9 (own_ne2 HO.out (by omega))),
                  Lib.hid (grown_push (((grown_g HW.out _)).trans (World.grownBy_alloc _ _ _)) hg9 (own_out HO.out hnw)), Nat.le_trans hW (Nat.le_trans (by simp [World.setCell]) hg9.size)⟩
              case measure => rw [sizeAt_of HR.out, sizeAt_of (((HR.out.set0 y).other (World.grownBy_alloc (wr.setCell ⟨g, 0, none⟩ (.string y)) (.cells #[.int .u8 (z[0].toNat : Int)] 5) none) (by simp)).other hg9 (own_ne2 HO.out (by omega)))]; omega
  · have HT := Lib.hid ht
    have hz0 := take1_len ht; clear ht
    have HR9 := HR
    have HB9 := HB0
    have HB8 := HB1
    have HW9 := HW
    clear HR HB0 HB1 HW
    have HR := Lib.hid hr3
    have HB0 := Lib.hid (HB9.out.other hg3 (by intro e; cases e; omega))
    have HB1 := Lib.hid (HB8.out.other hg3 (by intro e; cases e; omega))
    have HW := Lib.hid (HW9.out.trans hg3)
    have hW : n + 2 ≤ w3.heap.size := HB1.out.lt
    have HF1 := Lib.hid (fun (h : quoteF z0.data.toList = none) => show argF s.data.toList = none by unfold argF; rw [HT.out]; simp only; rw [h]; rfl)
    have HF2 := Lib.hid (fun (v t : List UInt8) (h : quoteF z0.data.toList = some (v, t)) => show argF s.data.toList = some (([], v), t) by unfold argF; rw [HT.out]; simp only; rw [h]; rfl)
    clear HR9 HB9 HB8 HW9 hr3 hg3
    have q0c0 := HR.out.c0
    have q0c1 := HR.out.c1
    have q0f0 := HR.out.f0
    have q0f1 := HR.out.f1
    have q0sh := HR.out.sh
    have q1c0 := HB0.out.c0
    have q1c1 := HB0.out.c1
    have q1f0 := HB0.out.f0
    have q1f1 := HB0.out.f1
    have q1sh := HB0.out.sh
    have q2c0 := HB1.out.c0
    have q2c1 := HB1.out.c1
    have q2f0 := HB1.out.f0
    have q2f1 := HB1.out.f1
    have q2sh := HB1.out.sh
    go_wp2_with fail
    clear q0c0 q0c1 q0f0 q0f1 q0sh q1c0 q1c1 q1f0 q1f1 q1sh q2c0 q2c1 q2f0 q2f1 q2sh
    go_loopw [4] (fun t4 wr => ∃ (z : ByteArray) (m : Nat) (Ao : Option Addr) (co : Nat) (bs : List UInt8), t4 = .slice Ao m co ∧ m + z.size ≤ 1048576 ∧ Hid (QRel z0 z bs) ∧ Hid (wr.ownsRow (n + 2) 5 1 (.slice Ao m co) m (byteCells bs)) ∧ Hid (RD wr g z false) ∧ Hid (BX wr n ⟨#[]⟩ ⟨#[]⟩) ∧ Hid (BX wr (n + 1) ⟨#[]⟩ ⟨#[]⟩) ∧ Hid (w.grownBy wr (some g)) ∧ n + 2 ≤ wr.heap.size) (fun _ wr => sizeAt wr g)
    case atStart => exact ⟨z0, 0, none, 0, [], rfl, by omega, (show quoteF _ = _ by cases quoteF z0.data.toList <;> simp), World.ownsRow_nil _ _ _ _, HR, HB0, HB1, HW, hW⟩
    case round =>
      clear HR HB0 HB1 HW hW
      obtain ⟨z, m, Ao, co, bs, rfl, hm, HQ, HO, HR, HB0, HB1, HW, hW⟩ := hrel
      have HNe := Lib.hid (own_ne HO.out hg)
      have q0c0 := HR.out.c0
      have q0c1 := HR.out.c1
      have q0f0 := HR.out.f0
      have q0f1 := HR.out.f1
      have q0sh := HR.out.sh
      have q1c0 := HB0.out.c0
      have q1c1 := HB0.out.c1
      have q1f0 := HB0.out.f0
      have q1f1 := HB0.out.f1
      have q1sh := HB0.out.sh
      have q2c0 := HB1.out.c0
      have q2c1 := HB1.out.c1
      have q2f0 := HB1.out.f0
      have q2f1 := HB1.out.f1
      have q2sh := HB1.out.sh
      by_cases hz : z.size = 0
      · have e0 : z.toList = [] := by rw [Go.ByteArray.toList_eq]; exact List.eq_nil_of_length_eq_zero (by rw [size_toList]; exact hz)
        have HX := Lib.hid (HF1.out (HQ.out.none (quote_empty hz)))
        have own2 := HO.out.kept (grown_set wr g 1 (.bool true)) HNe.out
        have hcv := conv_row own2
        clear own2
        go_wp2_with fail
        (try simp only [Exit.inBlock, Exit.then])
        refine arg_done (n := n) (((((HB0.out).set (by omega) _).set (by omega) _).set0 _).set1 _) rfl rfl ?_
        exact ⟨_, _, _, _, rfl, (((HR.out.set1 _).set (by omega) _).set (by omega) _).set (by omega) _, grown_new (grown_new (grown_new (grown_g (HW.out) _) (by omega) _) (by omega) _) (by omega) _, Or.inl ⟨rfl, HX.out⟩⟩
      have hz1 : 0 < z.size := by omega
      have e0 : z.toList.isEmpty = false := by
        have hne : ¬ z.data.toList = [] := by intro hs; exact absurd (by rw [← size_toList, hs]; rfl) hz
        have h2 : ¬ z.toList = [] := by rw [Go.ByteArray.toList_eq]; exact hne
        cases hs : z.toList with | nil => exact absurd hs h2 | cons a r => rfl
      by_cases hlow : (z[0].toNat : Int) < 32
      · have HX := Lib.hid (HF1.out (HQ.out.none (quote_low hz1 hlow)))
        have own2 := HO.out.kept (grown_set wr g 1 (.bool true)) HNe.out
        have hcv := conv_row own2
        clear own2
        go_wp2_with fail
        (try simp only [Exit.inBlock, Exit.then])
        refine arg_done (n := n) (((((HB0.out).set (by omega) _).set (by omega) _).set0 _).set1 _) rfl rfl ?_
        exact ⟨_, _, _, _, rfl, (((HR.out.set1 _).set (by omega) _).set (by omega) _).set (by omega) _, grown_new (grown_new (grown_new (grown_g (HW.out) _) (by omega) _) (by omega) _) (by omega) _, Or.inl ⟨rfl, HX.out⟩⟩
      obtain ⟨y, hy⟩ : ∃ y, z.extract 1 z.size = y := ⟨_, rfl⟩
      have hys : y.size + 1 = z.size := by rw [← hy, size1]; omega
      by_cases h34 : (z[0].toNat : Int) = 34
      · have HX := Lib.hid (HF2.out _ _ (HQ.out.end (y := y) (by rw [← hy]; exact quote_end hz1 h34)))
        have own2 := HO.out.kept (grown_set wr g 0 (.string y)) HNe.out
        have hcv := conv_row own2
        clear own2
        go_wp2_with fail
        (try simp only [Exit.inBlock, Exit.then])
        refine arg_done (n := n) (((((HB0.out).set (by omega) _).set (by omega) _).set0 _).set1 _) rfl rfl ?_
        exact ⟨_, _, _, _, rfl, (((HR.out.set0 _).set (by omega) _).set (by omega) _).set (by omega) _, grown_new (grown_new (grown_new (grown_g (HW.out) _) (by omega) _) (by omega) _) (by omega) _, Or.inr ⟨rfl, HX.out⟩⟩
      by_cases h92 : (z[0].toNat : Int) = 92
      · by_cases hy0 : y.size = 0
        · have HX := Lib.hid (HF1.out (HQ.out.none (quote_esc0 hz1 h92 (by rw [hy]; exact hy0))))
          have HP1 := Lib.hid (pre0 (y := y) 34 hy0)
          have HP2 := Lib.hid (pre0 (y := y) 92 hy0)
          have own2 := (HO.out.kept (grown_set wr g 0 (.string y)) HNe.out).kept (grown_set _ g 1 (.bool true)) HNe.out
          have hcv := conv_row own2
          clear own2
          go_wp2_with (first
            | (go_at_call 20; refine (hasPrefix_r _ _ false _ HP1.out).mono ?_; rintro e w8 ⟨rfl, rfl⟩)
            | (go_at_call 20; go_must (refine (hasPrefix_r _ _ false _ HP2.out).mono ?_); rintro e w8 ⟨rfl, rfl⟩))
          (try simp only [Exit.inBlock, Exit.then])
          refine arg_done (n := n) ((((((HB0.out).set (by omega) _).set (by omega) _).set (by omega) _).set0 _).set1 _) rfl rfl ?_
          exact ⟨_, _, _, _, rfl, ((((HR.out.set0 _).set1 _).set (by omega) _).set (by omega) _).set (by omega) _, grown_new (grown_new (grown_new (grown_g (grown_g (HW.out) _) _) (by omega) _) (by omega) _) (by omega) _, Or.inl ⟨rfl, HX.out⟩⟩
        have hy1 : 0 < y.size := by omega
        have HE := Lib.hid (quote_esc hy hz1 h92 hy1)
        obtain ⟨y2, hy2⟩ : ∃ y2, y.extract 1 y.size = y2 := ⟨_, rfl⟩
        have hys2 : y2.size + 1 = y.size := by rw [← hy2, size1]; omega
        have HP1 := Lib.hid (pre1 (y := y) 34 hy1)
        have HP2 := Lib.hid (pre1 (y := y) 92 hy1)
        by_cases hq : (y[0].toNat : Int) = 34 ∨ (y[0].toNat : Int) = 92
        · have HS := Lib.hid (HQ.out.step (y := y2) (c := y[0]) (by rw [HE.out, if_pos hq, hy2]))
          clear HE
          rcases hq with hq | hq
          · have HPa := Lib.hid (show Lib.hasPrefix y.data.toList (⟨#[34]⟩ : ByteArray).data.toList = true by rw [HP1.out, toNat_inj (b := 34) hq]; decide)
            have HPb := Lib.hid (show Lib.hasPrefix y.data.toList (⟨#[92]⟩ : ByteArray).data.toList = false by rw [HP2.out, toNat_inj (b := 34) hq]; decide)
            clear hq
            go_wp2_with (first
              | (go_at_call 20; refine (hasPrefix_r _ _ true _ HPa.out).mono ?_; rintro e w8 ⟨rfl, rfl⟩)
              | (go_at_call 20; go_must (refine (hasPrefix_r _ _ false _ HPb.out).mono ?_); rintro e w8 ⟨rfl, rfl⟩)
              | (at_builtin; have hh := own_alloc ((HO.out.kept (grown_set wr g 0 (.string y)) HNe.out).kept (grown_set _ g 0 (.string y2)) HNe.out) (.cells #[.int .u8 (y[0].toNat : Int)] 5); have k1 : (m + 1) * 1 ≤ 140737488355328 := (by omega); have k2 : m + 1 ≤ maxLen := (by unfold maxLen; omega); have k3 : n + 2 ≤ (((wr.setCell ⟨g, 0, none⟩ (.string y)).setCell ⟨g, 0, none⟩ (.string y2)).alloc (.cells #[.int .u8 (y[0].toNat : Int)] 5)).heap.size := (by simp [World.setCell]; omega); have k4 := cell_new ((wr.setCell ⟨g, 0, none⟩ (.string y)).setCell ⟨g, 0, none⟩ (.string y2)) [.int .u8 (y[0].toNat : Int)] 5 wr.heap.size (by simp [World.setCell]); go_must (refine wpList_push _ rfl (.tmp 144) (.tmp 146) 68 rfl (n + 2) 5 (.int .u8 0) 1 1 Try.underlying68 info_byte2 rfl (by omega) (.slice Ao m co) m _ rfl hh [.int .u8 (y[0].toNat : Int)] rfl _ rfl k4 (one_int _ _) k1 k2 k3 ?_); clear hh k1 k2 k3 k4; intro g1 c1 w9 own9 hg9 hgg hb9))
            go_roundw
            case rel =>
              have hgA := (World.grownBy_alloc ((wr.setCell ⟨g, 0, none⟩ (.string y)).setCell ⟨g, 0, none⟩ (.string y2)) (.cells #[.int .u8 (y[0].toNat : Int)] 5) none)
              exact ⟨y2, m + 1, some ⟨g1, 0, none⟩, c1, bs ++ [y[0]], rfl, by omega, HS, Lib.hid (row_more _ own9 rfl), Lib.hid ((((HR.out.set0 y).set0 y2).other hgA (by simp)).other hg9 (own_ne2 HO.out (by omega))), Lib.hid ((((HB0.out.set (by omega) _).set (by omega) _).other hgA (by simp)).other hg9 (own_ne2 HO.out (by omega))), Lib.hid ((((HB1.out.set (by omega) _).set (by omega) _).other hgA (by simp)).other hg9 (own_ne2 HO.out (by omega))),
                Lib.hid (grown_push (((grown_g (grown_g HW.out _) _)).trans (World.grownBy_alloc _ _ _)) hg9 (own_out HO.out hnw)), Nat.le_trans hW (Nat.le_trans (by simp [World.setCell]) hg9.size)⟩
            case measure => rw [sizeAt_of HR.out, sizeAt_of ((((HR.out.set0 y).set0 y2).other (World.grownBy_alloc ((wr.setCell ⟨g, 0, none⟩ (.string y)).setCell ⟨g, 0, none⟩ (.string y2)) (.cells #[.int .u8 (y[0].toNat : Int)] 5) none) (by simp)).other hg9 (own_ne2 HO.out (by omega)))]; omega
          · have HPa := Lib.hid (show Lib.hasPrefix y.data.toList (⟨#[34]⟩ : ByteArray).data.toList = false by rw [HP1.out, toNat_inj (b := 92) hq]; decide)
            have HPb := Lib.hid (show Lib.hasPrefix y.data.toList (⟨#[92]⟩ : ByteArray).data.toList = true by rw [HP2.out, toNat_inj (b := 92) hq]; decide)
            clear hq
            go_wp2_with (first
              | (go_at_call 20; refine (hasPrefix_r _ _ false _ HPa.out).mono ?_; rintro e w8 ⟨rfl, rfl⟩)
              | (go_at_call 20; go_must (refine (hasPrefix_r _ _ true _ HPb.out).mono ?_); rintro e w8 ⟨rfl, rfl⟩)
              | (at_builtin; have hh := own_alloc ((HO.out.kept (grown_set wr g 0 (.string y)) HNe.out).kept (grown_set _ g 0 (.string y2)) HNe.out) (.cells #[.int .u8 (y[0].toNat : Int)] 5); have k1 : (m + 1) * 1 ≤ 140737488355328 := (by omega); have k2 : m + 1 ≤ maxLen := (by unfold maxLen; omega); have k3 : n + 2 ≤ (((wr.setCell ⟨g, 0, none⟩ (.string y)).setCell ⟨g, 0, none⟩ (.string y2)).alloc (.cells #[.int .u8 (y[0].toNat : Int)] 5)).heap.size := (by simp [World.setCell]; omega); have k4 := cell_new ((wr.setCell ⟨g, 0, none⟩ (.string y)).setCell ⟨g, 0, none⟩ (.string y2)) [.int .u8 (y[0].toNat : Int)] 5 wr.heap.size (by simp [World.setCell]); go_must (refine wpList_push _ rfl (.tmp 144) (.tmp 146) 68 rfl (n + 2) 5 (.int .u8 0) 1 1 Try.underlying68 info_byte2 rfl (by omega) (.slice Ao m co) m _ rfl hh [.int .u8 (y[0].toNat : Int)] rfl _ rfl k4 (one_int _ _) k1 k2 k3 ?_); clear hh k1 k2 k3 k4; intro g1 c1 w9 own9 hg9 hgg hb9))
            go_roundw
            case rel =>
              have hgA := (World.grownBy_alloc ((wr.setCell ⟨g, 0, none⟩ (.string y)).setCell ⟨g, 0, none⟩ (.string y2)) (.cells #[.int .u8 (y[0].toNat : Int)] 5) none)
              exact ⟨y2, m + 1, some ⟨g1, 0, none⟩, c1, bs ++ [y[0]], rfl, by omega, HS, Lib.hid (row_more _ own9 rfl), Lib.hid ((((HR.out.set0 y).set0 y2).other hgA (by simp)).other hg9 (own_ne2 HO.out (by omega))), Lib.hid ((((HB0.out.set (by omega) _).set (by omega) _).other hgA (by simp)).other hg9 (own_ne2 HO.out (by omega))), Lib.hid ((((HB1.out.set (by omega) _).set (by omega) _).other hgA (by simp)).other hg9 (own_ne2 HO.out (by omega))),
                Lib.hid (grown_push (((grown_g (grown_g HW.out _) _)).trans (World.grownBy_alloc _ _ _)) hg9 (own_out HO.out hnw)), Nat.le_trans hW (Nat.le_trans (by simp [World.setCell]) hg9.size)⟩
            case measure => rw [sizeAt_of HR.out, sizeAt_of ((((HR.out.set0 y).set0 y2).other (World.grownBy_alloc ((wr.setCell ⟨g, 0, none⟩ (.string y)).setCell ⟨g, 0, none⟩ (.string y2)) (.cells #[.int .u8 (y[0].toNat : Int)] 5) none) (by simp)).other hg9 (own_ne2 HO.out (by omega)))]; omega
        · have HX := Lib.hid (HF1.out (HQ.out.none (by rw [HE.out, if_neg hq])))
          have HPa := Lib.hid (show Lib.hasPrefix y.data.toList (⟨#[34]⟩ : ByteArray).data.toList = false by rw [HP1.out]; simp; intro e; exact hq (Or.inl (by rw [e]; rfl)))
          have HPb := Lib.hid (show Lib.hasPrefix y.data.toList (⟨#[92]⟩ : ByteArray).data.toList = false by rw [HP2.out]; simp; intro e; exact hq (Or.inr (by rw [e]; rfl)))
          have own2 := (HO.out.kept (grown_set wr g 0 (.string y)) HNe.out).kept (grown_set _ g 1 (.bool true)) HNe.out
          have hcv := conv_row own2
          clear own2
          go_wp2_with (first
            | (go_at_call 20; refine (hasPrefix_r _ _ false _ HPa.out).mono ?_; rintro e w8 ⟨rfl, rfl⟩)
            | (go_at_call 20; go_must (refine (hasPrefix_r _ _ false _ HPb.out).mono ?_); rintro e w8 ⟨rfl, rfl⟩))
          (try simp only [Exit.inBlock, Exit.then])
          refine arg_done (n := n) ((((((HB0.out).set (by omega) _).set (by omega) _).set (by omega) _).set0 _).set1 _) rfl rfl ?_
          exact ⟨_, _, _, _, rfl, ((((HR.out.set0 _).set1 _).set (by omega) _).set (by omega) _).set (by omega) _, grown_new (grown_new (grown_new (grown_g (grown_g (HW.out) _) _) (by omega) _) (by omega) _) (by omega) _, Or.inl ⟨rfl, HX.out⟩⟩
      · have HS := Lib.hid (HQ.out.step (y := y) (c := z[0]) (by rw [quote_plain hz1 hlow h34 h92, hy]))
        go_wp2_with (first
          | fail
          | (at_builtin; have hh := own_alloc (HO.out.kept (grown_set wr g 0 (.string y)) HNe.out) (.cells #[.int .u8 (z[0].toNat : Int)] 5); have k1 : (m + 1) * 1 ≤ 140737488355328 := (by omega); have k2 : m + 1 ≤ maxLen := (by unfold maxLen; omega); have k3 : n + 2 ≤ ((wr.setCell ⟨g, 0, none⟩ (.string y)).alloc (.cells #[.int .u8 (z[0].toNat : Int)] 5)).heap.size := (by simp [World.setCell]; omega); have k4 := cell_new (wr.setCell ⟨g, 0, none⟩ (.string y)) [.int .u8 (z[0].toNat : Int)] 5 wr.heap.size (by simp [World.setCell]); go_must (refine wpList_push _ rfl (.tmp 144) (.tmp 146) 68 rfl (n + 2) 5 (.int .u8 0) 1 1 Try.underlying68 info_byte2 rfl (by omega) (.slice Ao m co) m _ rfl hh [.int .u8 (z[0].toNat : Int)] rfl _ rfl k4 (one_int _ _) k1 k2 k3 ?_); clear hh k1 k2 k3 k4; intro g1 c1 w9 own9 hg9 hgg hb9))
        go_roundw
        case rel =>
          have hgA := (World.grownBy_alloc (wr.setCell ⟨g, 0, none⟩ (.string y)) (.cells #[.int .u8 (z[0].toNat : Int)] 5) none)
          exact ⟨y, m + 1, some ⟨g1, 0, none⟩, c1, bs ++ [z[0]], rfl, by omega, HS, Lib.hid (row_more _ own9 rfl), Lib.hid (((HR.out.set0 y).other hgA (by simp)).other hg9 (own_ne2 HO.out (by omega))), Lib.hid (((HB0.out.set (by omega) _).other hgA (by simp)).other hg9 (own_ne2 HO.out (by omega))), Lib.hid (((HB1.out.set (by omega) _).other hgA (by simp)).other hg9 (own_ne2 HO.out (by omega))),
            Lib.hid (grown_push (((grown_g HW.out _)).trans (World.grownBy_alloc _ _ _)) hg9 (own_out HO.out hnw)), Nat.le_trans hW (Nat.le_trans (by simp [World.setCell]) hg9.size)⟩
        case measure => rw [sizeAt_of HR.out, sizeAt_of (((HR.out.set0 y).other (World.grownBy_alloc (wr.setCell ⟨g, 0, none⟩ (.string y)) (.cells #[.int .u8 (z[0].toNat : Int)] 5) none) (by simp)).other hg9 (own_ne2 HO.out (by omega)))]; omega

end Go.Proofs.Ytgbmlpidaeefoaa
