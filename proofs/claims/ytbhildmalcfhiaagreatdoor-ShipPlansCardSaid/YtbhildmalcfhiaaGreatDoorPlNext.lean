/-
  ship.planner.next: the closure that is uploaded next.
-/
import Derived.Test.YtbhildmalcfhiaaGreatDoorOwn
import Derived.Test.YtbhildmalcfhiaaGreatDoorRowOps
import Derived.Test.YtbhildmalcfhiaaGreatDoorPlRefers
import Derived.Test.YtbhildmalcfhiaaGreatDoorShelfS
import Derived.Test.YtbhildmalcfhiaaGreatDoorEqualStrs
import Derived.Test.YtbhildmalcfhiaaGreatDoorBuilderK
import Derived.Sort.OwnSorted
import Derived.Test.YtbhildmalcfhiaaGreatDoorStrMap
import Derived.Maps.RangeWalk
import Derived.Sort.KeysCollected
import Derived.Maps.Range
import Derived.Test.YtbhildmalcfhiaaGreatDoorMapV
import Derived.BigQuiet
import Derived.Deep.QuietTactic
namespace Go.Proofs.YtbhildmalcfhiaaGreatDoor
open Go.RowKit Go.Deep

theorem own_put {w : World} {B K g cap n : Nat} {e : TypeId} {xs : List Value} (h : w.ownsRow B e K (.slice (some ⟨g, 0, none⟩) n cap) n xs) (o : Nat) (v : Value) :
    (w.setCell ⟨g, o, none⟩ v).ownsRow B e K (.slice (some ⟨g, 0, none⟩) n cap) n (xs.set o v) := by
  obtain ⟨hl, h2⟩ := h
  rcases h2 with ⟨h3, _⟩ | ⟨g', cap', cur, h3, hB, hg, hnc, hm, hsz, htake⟩
  · cases h3
  · cases h3
    refine ⟨by rw [List.length_set]; exact hl, Or.inr ⟨g, cap, cur.setIfInBounds o v, rfl, hB, ?_, hnc, hm, by simpa using hsz, ?_⟩⟩
    · exact heap_setCell_same w g o cur e v hg
    · rw [← htake]
      simp [List.take_set]
end Go.Proofs.YtbhildmalcfhiaaGreatDoor

namespace Go.Proofs.YtbhildmalcfhiaaGreatDoor
open Go.RowKit Go.Deep

def outC (o : OutV) : List Value := [.string o.path, .string o.body]
def outsC (L : List OutV) : List Value := L.flatMap outC
theorem outsC_snoc (L : List OutV) (d : OutV) : outsC (L ++ [d]) = outsC L ++ [.string d.path, .string d.body] := by simp [outsC, outC]
theorem outsC_at : ∀ (l : List OutV) (i : Nat) (a : OutV), l[i]? = some a → (outsC l)[i * 2]? = some (.string a.path) ∧ (outsC l)[i * 2 + 1]? = some (.string a.body)
  | [], i, a, h => by simp at h
  | b :: r, 0, a, h => by
    simp at h
    subst h
    exact ⟨rfl, rfl⟩
  | b :: r, i + 1, a, h => by
    have ih := outsC_at r i a (by simpa using h)
    rw [show outsC (b :: r) = outC b ++ outsC r from rfl, List.getElem?_append_right (by simp [outC]; omega), List.getElem?_append_right (by simp [outC]; omega)]
    rw [show (i + 1) * 2 - (outC b).length = i * 2 by simp [outC]; omega, show (i + 1) * 2 + 1 - (outC b).length = i * 2 + 1 by simp [outC]; omega]
    exact ih
theorem outs_own {w : World} {B : Nat} {v : Value} {L : List OutV} (h : w.ownsRow B 62 2 v L.length (outsC L)) : OutsAt w v L := by
  obtain ⟨hl, h2⟩ := h
  rcases h2 with ⟨rfl, h0⟩ | ⟨g, cap, cur, rfl, hB, hg, hnc, hm, hsz, htake⟩
  · have : L = [] := List.eq_nil_of_length_eq_zero h0
    subst this
    exact ⟨none, 0, 0, 0, rfl, Nat.le_refl _, by simp [maxLen], fun h => absurd rfl h, fun i x hx => by simp at hx⟩
  · have key : ∀ (j : Nat) (x : Value), (outsC L)[j]? = some x → w.cell? ⟨g, j, none⟩ = some x := by
      intro j x hx
      rw [cell_of_row w g j cur _ (0, 0) hg]
      rw [← htake, List.getElem?_take] at hx
      split at hx
      · simpa using hx
      · cases hx
    refine ⟨some ⟨g, 0, none⟩, cap, g, 0, rfl, hnc, hm, fun _ => rfl, fun i n hn => ?_⟩
    obtain ⟨h3, h4⟩ := outsC_at L i n hn
    rw [Nat.zero_add]
    exact ⟨key _ _ h3, key _ _ h4⟩
theorem info_out : (Tryz.prog.info? 62).map (fun i => (i.zero, i.size, i.bytes)) = some (some (.agg #[.string ⟨#[]⟩, .string ⟨#[]⟩]), 2, 32) := by kernel_rfl
theorem info_step : (Tryz.prog.info? 86).map (fun i => (i.zero, i.size, i.bytes)) = some (some (.agg #[.bool false, .slice none 0 0]), 2, 32) := by kernel_rfl

/-- a step of a plan -/
structure StepR where
  rem : Bool
  files : List OutV
def stepRow (x : StepR × Value) : List Value := [.bool x.1.rem, x.2]
def stepsC (L : List (StepR × Value)) : List Value := L.flatMap stepRow
theorem stepsC_snoc (L : List (StepR × Value)) (x : StepR × Value) : stepsC (L ++ [x]) = stepsC L ++ stepRow x := by simp [stepsC]
/-- no steps and no outputs lie there -/
def NoSt (w : World) (g : Nat) : Prop := ∀ cs fz, w.heap[g]? ≠ some (.cells cs 86 fz) ∧ w.heap[g]? ≠ some (.cells cs 62 fz)
theorem NoSt.cb {w : World} {g : Nat} {t : TypeId} {cs : Array Value} (h : CB w g t cs) (h1 : t ≠ 86) (h2 : t ≠ 62) : NoSt w g := fun cs' fz =>
  ⟨(fun e => by rw [show w.heap[g]? = _ from h] at e; cases e; exact h1 rfl), (fun e => by rw [show w.heap[g]? = _ from h] at e; cases e; exact h2 rfl)⟩
theorem NoSt.row {w : World} {B K n g : Nat} {e : TypeId} {v : Value} {xs : List Value} (h : w.ownsRow B e K v n xs) (hg : v.ownBlock = some g) (h1 : e ≠ 86) (h2 : e ≠ 62) : NoSt w g := by
  obtain ⟨cs, hc⟩ := own_type h hg
  exact .cb hc h1 h2
theorem NoSt.map {w : World} {g : Nat} {es : Array MapEntry} {c : Nat} (h : w.heap[g]? = some (.map es c)) : NoSt w g := fun cs' fz => ⟨(fun e => by rw [h] at e; cases e), (fun e => by rw [h] at e; cases e)⟩
theorem NoSt.above {w : World} {g : Nat} (h : w.heap.size ≤ g) : NoSt w g := fun cs fz => by
  rw [Array.getElem?_eq_none h]
  exact ⟨(fun e => by cases e), (fun e => by cases e)⟩
/-- steps in a row of the call's own, each with its outputs in another -/
structure StepsOwn (w : World) (B : Nat) (v : Value) (L : List (StepR × Value)) : Prop where
  row : w.ownsRow B 86 2 v L.length (stepsC L)
  file : ∀ x ∈ L, w.ownsRow B 62 2 x.2 x.1.files.length (outsC x.1.files)
section
variable {w w' : World} {B : Nat} {v : Value} {L : List (StepR × Value)}
theorem StepsOwn.start (w : World) (B : Nat) : StepsOwn w B (.slice none 0 0) [] := ⟨World.ownsRow_nil _ _ _ _, fun x hx => by cases hx⟩
theorem StepsOwn.keepN {p : Nat → Prop} (h : StepsOwn w B v L) (k : GrownX p w w') (hp : ∀ g, p g → NoSt w g) : StepsOwn w' B v L :=
  ⟨own_keepX h.row k (fun g hg hpg => by obtain ⟨cs, hc⟩ := own_type h.row hg; exact (hp g hpg cs _).1 hc),
    fun x hx => own_keepX (h.file x hx) k (fun g hg hpg => by obtain ⟨cs, hc⟩ := own_type (h.file x hx) hg; exact (hp g hpg cs _).2 hc)⟩
theorem StepsOwn.below (h : StepsOwn w B v L) (hb : Below w.heap.size w w') : StepsOwn w' B v L := h.keepN (.of_below (p := fun _ => False) hb) (fun _ e => e.elim)
theorem StepsOwn.alloc (h : StepsOwn w B v L) (o : Obj) : StepsOwn (w.alloc o) B v L := h.below ((Below.refl _ _).alloc (Nat.le_refl _) o)
theorem own_lowP {w : World} {B B' K n : Nat} {e : TypeId} {v : Value} {xs : List Value} (h : w.ownsRow B' e K v n xs) (hB : B ≤ B') : w.ownsRow B e K v n xs := by
  obtain ⟨hl, h2⟩ := h
  rcases h2 with h2 | ⟨g, cap, cur, h1, h3, h4⟩
  · exact ⟨hl, Or.inl h2⟩
  · exact ⟨hl, Or.inr ⟨g, cap, cur, h1, Nat.le_trans hB h3, h4⟩⟩
theorem StepsOwn.low {B' : Nat} (h : StepsOwn w B' v L) (hB : B ≤ B') : StepsOwn w B v L := ⟨own_lowP h.row hB, fun x hx => own_lowP (h.file x hx) hB⟩
/-- a step more -/
theorem StepsOwn.push {x : StepR × Value} {g c : Nat} (h : StepsOwn w B v L) (hf : w.ownsRow B 62 2 x.2 x.1.files.length (outsC x.1.files)) (ho : w'.ownsRow B 86 2 (.slice (some ⟨g, 0, none⟩) (L.length + 1) c) (L.length + 1) (stepsC L ++ stepRow x)) (hg : w.grownBy w' v.ownBlock) :
    StepsOwn w' B (.slice (some ⟨g, 0, none⟩) (L ++ [x]).length c) (L ++ [x]) := by
  have keep : ∀ {u : Value} {n : Nat} {xs : List Value}, w.ownsRow B 62 2 u n xs → w'.ownsRow B 62 2 u n xs := fun hu =>
    own_keepX hu (GrownX.of_grown (p := fun x => v.ownBlock = some x) hg (fun _ e => e)) (fun b hb hpb => by
      obtain ⟨cs, hc⟩ := own_type hu hb
      obtain ⟨cs2, hc2⟩ := own_type h.row hpb
      have h9 := hc.symm.trans hc2
      simp at h9)
  refine ⟨by rw [List.length_append, stepsC_snoc]; exact ho, fun y hy => ?_⟩
  rcases List.mem_append.1 hy with hy | hy
  · exact keep (h.file y hy)
  · rw [List.mem_singleton.1 hy]; exact keep hf
end

/-- the outputs at places -/
def pickL (l : List OutV) (C : List Nat) : List OutV := C.filterMap (l[·]?)
def stepsOf (l : List OutV) (Cs : List (List Nat)) : List StepR := Cs.map fun C => ⟨false, pickL l C⟩
/-- the least closure of the places before k -/
structure BestPre (tf : Nat → List Nat) (left : Nat → Bool) (k : Nat) (ob : Option (List Nat)) : Prop where
  none_ : ob = none → ∀ j, j < k → left j = false
  some_ : ∀ C, ob = some C → (∃ i, left i = true ∧ IsClo tf left i C) ∧ ∀ j D, j < k → left j = true → IsClo tf left j D → C.length < D.length ∨ (C.length = D.length ∧ C.headD 0 ≤ D.headD 0)
section
variable {tf : Nat → List Nat} {left : Nat → Bool} {k : Nat} {ob : Option (List Nat)}
theorem BestPre.start : BestPre tf left 0 none := ⟨(fun _ j hj => absurd hj (by omega)), fun C h => by cases h⟩
theorem BestPre.skip (h : BestPre tf left k ob) (hk : left k = false) : BestPre tf left (k + 1) ob :=
  ⟨fun e j hj => by
    by_cases e2 : j = k
    · rw [e2]; exact hk
    · exact h.none_ e j (by omega), fun C hC => ⟨(h.some_ C hC).1, fun j D hj hl hD => by
    by_cases e2 : j = k
    · rw [e2, hk] at hl; cases hl
    · exact (h.some_ C hC).2 j D (by omega) hl hD⟩⟩
/-- the closure of k is better -/
theorem BestPre.take (h : BestPre tf left k ob) (hk : left k = true) {C : List Nat} (hC : IsClo tf left k C) (hb : ∀ D, ob = some D → C.length < D.length ∨ (C.length = D.length ∧ C.headD 0 ≤ D.headD 0)) : BestPre tf left (k + 1) (some C) :=
  ⟨(fun e => by cases e), fun C' e => by
    cases e
    refine ⟨⟨k, hk, hC⟩, fun j D hj hl hD => ?_⟩
    by_cases e2 : j = k
    · subst e2
      rw [hC.unique hD]
      exact Or.inr ⟨rfl, Nat.le_refl _⟩
    · cases ho : ob with
      | none =>
        have := h.none_ ho j (by omega)
        rw [hl] at this; cases this
      | some E =>
        have h1 := hb E ho
        have h2 := (h.some_ E ho).2 j D (by omega) hl hD
        omega⟩
/-- it is not -/
theorem BestPre.pass {D : List Nat} (h : BestPre tf left k (some D)) {C : List Nat} (hC : IsClo tf left k C) (hb : D.length < C.length ∨ (D.length = C.length ∧ D.headD 0 ≤ C.headD 0)) : BestPre tf left (k + 1) (some D) :=
  ⟨(fun e => by cases e), fun C' e => by
    cases e
    refine ⟨(h.some_ D rfl).1, fun j E hj hl hE => ?_⟩
    by_cases e2 : j = k
    · subst e2
      rw [← hC.unique hE]; exact hb
    · exact (h.some_ D rfl).2 j E (by omega) hl hE⟩
theorem BestPre.best {C : List Nat} {n : Nat} (h : BestPre tf left n (some C)) (hn : ∀ j, left j = true → j < n) : BestC tf left C :=
  ⟨(h.some_ C rfl).1, fun j D hl hD => (h.some_ C rfl).2 j D (hn j hl) hl hD⟩
theorem BestPre.done {n : Nat} (h : BestPre tf left n none) (hn : ∀ j, left j = true → j < n) (j : Nat) : left j = false := by
  cases hj : left j with
  | false => rfl
  | true => rw [h.none_ rfl j (hn j hj)] at hj; cases hj
end
/-- what is left behind a part of a closure -/
def cutL (lf C : List Bool) (k : Nat) : List Bool := (List.range lf.length).map fun j => (lf.getD j false) && !(decide (j < k) && C.getD j false)
theorem cutL_len (lf C : List Bool) (k : Nat) : (cutL lf C k).length = lf.length := by simp [cutL]
theorem cutL_zero (lf C : List Bool) : cutL lf C 0 = lf := by
  apply List.ext_getElem?
  intro i
  by_cases h : i < lf.length
  · simp [cutL, h]
  · rw [List.getElem?_eq_none (by rw [cutL_len]; omega), List.getElem?_eq_none (by omega)]
theorem cutL_get (lf C : List Bool) (k j : Nat) : (cutL lf C k).getD j false = (lf.getD j false && !(decide (j < k) && C.getD j false)) := by
  by_cases h : j < lf.length
  · simp [cutL, List.getD_eq_getElem?_getD, h]
  · rw [List.getD_eq_getElem?_getD, List.getElem?_eq_none (by rw [cutL_len]; omega), List.getD_eq_getElem?_getD, List.getElem?_eq_none (by omega)]; simp
theorem cutL_skip {lf C : List Bool} {k : Nat} (h : C.getD k false = false) : cutL lf C (k + 1) = cutL lf C k := by
  unfold cutL
  apply List.map_congr_left
  intro j _
  by_cases e : j = k
  · subst e; rw [h]; simp
  · have : decide (j < k + 1) = decide (j < k) := by rw [Bool.eq_iff_iff, decide_eq_true_eq, decide_eq_true_eq]; omega
    rw [this]
theorem cutL_set {lf C : List Bool} {k : Nat} (h : C.getD k false = true) : cutL lf C (k + 1) = (cutL lf C k).set k false := by
  apply List.ext_getElem?
  intro j
  by_cases hj : j < lf.length
  · rw [List.getElem?_set]
    by_cases e : k = j
    · subst e
      rw [if_pos rfl, if_pos (by rw [cutL_len]; exact hj)]
      have h2 : C[k]?.getD false = true := by rw [← List.getD_eq_getElem?_getD]; exact h
      simp [cutL, hj, h2]
    · rw [if_neg e]
      have : decide (j < k + 1) = decide (j < k) := by rw [Bool.eq_iff_iff, decide_eq_true_eq, decide_eq_true_eq]; omega
      simp [cutL, hj, this]
  · rw [List.getElem?_eq_none (by rw [cutL_len]; omega), List.getElem?_eq_none (by rw [List.length_set, cutL_len]; omega)]
theorem cutL_all (lf C : List Bool) (j : Nat) : (cutL lf C lf.length).getD j false = without (fun k => lf.getD k false) (trues C) j := by
  rw [cutL_get, without]
  have e : (trues C).contains j = C.getD j false := by
    rw [Bool.eq_iff_iff, List.contains_iff_mem, mem_trues, List.getD_eq_getElem?_getD]
    cases hh : C[j]? with
    | none => simp
    | some b => cases b <;> simp
  rw [e]
  by_cases hj : j < lf.length
  · simp [hj]
  · rw [show lf.getD j false = false by rw [List.getD_eq_getElem?_getD, List.getElem?_eq_none (by omega)]; rfl]; simp
/-- the members before k -/
def pickK (l : List OutV) (C : List Bool) (k : Nat) : List OutV := pickL l ((List.range k).filter fun j => C[j]? == some true)
theorem pickK_skip {l : List OutV} {C : List Bool} {k : Nat} (h : C[k]? = some false) : pickK l C (k + 1) = pickK l C k := by
  rw [pickK, pickK, List.range_succ, List.filter_append]
  simp [h]
theorem pickK_take {l : List OutV} {C : List Bool} {k : Nat} {o : OutV} (h : C[k]? = some true) (ho : l[k]? = some o) : pickK l C (k + 1) = pickK l C k ++ [o] := by
  rw [pickK, pickK, List.range_succ, List.filter_append, pickL, pickL, List.filterMap_append]
  simp [h, ho]
theorem pickK_all (l : List OutV) (C : List Bool) : pickK l C C.length = pickL l (trues C) := rfl
end Go.Proofs.YtbhildmalcfhiaaGreatDoor

namespace Go.Proofs.YtbhildmalcfhiaaGreatDoor
open Go.RowKit Go.ChangeShapes Go.WideShapes Go.Deep

/-- a copy of a row that lies in a block: append to a row of no elements -/
theorem wpList_copyA {P : Program} {ops : Array Oper} {rest : List Oper} {o : Oper} {a : Act} {Q : Exit → Act → World → Prop} (W : World) (hgd : o.guard = none) (s x : Operand) (t : TypeId)
    (ho : o.op = .call { callee := .builtin .append, args := #[s, x], argTypes := #[t, t] })
    (e : TypeId) (z : Value) (bytes : Nat) (ht : P.underlying t = some (.slice e)) (hi : (P.info? e).map (fun i => (i.zero, i.size, i.bytes)) = some (some z, 1, bytes)) (hzs : z.cells.size = 1)
    (B : Nat) (v0 : Value) (hs : a.eval s = v0) (hown : W.ownsRow B e 1 v0 0 []) (hB : B ≤ W.heap.size) (bf n c : Nat) (xs : List Value) (hx : a.eval x = .slice (some ⟨bf, 0, none⟩) n c) (hl : xs.length = n) (hc : ∀ (j : Nat) (u : Value), xs[j]? = some u → W.cell? ⟨bf, j, none⟩ = some u) (h1 : ∀ u ∈ xs, u.oneCell' = true) (hn : n * bytes ≤ 140737488355328) (hn' : n ≤ maxLen)
    (h : ∀ A' c' w', w'.ownsRow B e 1 (.slice A' n c') n xs → Below B W w' → wpList P ops Q rest (a.put o.dst (.slice A' n c')) w') :
    wpList P ops Q (o :: rest) a W := by
  obtain ⟨i, hi1, hi2, hi3, hi4⟩ := info_parts hi
  refine wpList_append_own_at (P := P) W hgd s x t ho B e i z 1 bytes ht hi1 hi2 hi3 hi4 hzs (by omega) _ 0 [] hs hown ⟨bf, 0, none⟩ n c xs hx (by omega) ?_ h1 (by rw [Nat.zero_add]; exact hn') (by rw [Nat.zero_add]; exact hn) hB ?_
  · intro j u hj
    have hadd : (⟨bf, 0, none⟩ : Addr).add j = ⟨bf, j, none⟩ := by unfold Addr.add; split <;> simp_all
    rw [hadd]
    exact hc j u hj
  · intro v' w' h2 hg _ _
    rw [Nat.zero_add, List.nil_append] at h2
    obtain ⟨A2, c2, rfl, _, _, _⟩ := own_form h2
    exact h A2 c2 w' h2 (below_of_grown hg hB (own_block_ge hown))
/-- how many are true -/
def cT (l : List Bool) : Nat := l.countP id
theorem cT_le : ∀ (a b : List Bool), a.length = b.length → (∀ j : Nat, b.getD j false = true → a.getD j false = true) → cT b ≤ cT a
  | [], [], _, _ => Nat.le_refl _
  | x :: a, y :: b, hl, h => by
    have ih := cT_le a b (by simpa using hl) (fun j hj => by have := h (j + 1); simp at this ⊢; exact this (by simpa using hj))
    have h0 := h 0
    simp only [List.getD_cons_zero] at h0
    unfold cT at ih ⊢
    rw [List.countP_cons, List.countP_cons]
    cases x <;> cases y <;> simp at h0 ⊢ <;> omega
theorem cT_lt : ∀ (a b : List Bool), a.length = b.length → (∀ j : Nat, b.getD j false = true → a.getD j false = true) → (∃ i : Nat, a.getD i false = true ∧ b.getD i false = false) → cT b < cT a
  | [], [], _, _, ⟨i, hi, _⟩ => by simp at hi
  | x :: a, y :: b, hl, h, ⟨i, hi, hi2⟩ => by
    have hr : ∀ j : Nat, b.getD j false = true → a.getD j false = true := fun j hj => by have := h (j + 1); simp at this ⊢; exact this (by simpa using hj)
    have ih := cT_le a b (by simpa using hl) hr
    have h0 := h 0
    simp only [List.getD_cons_zero] at h0
    cases i with
    | zero =>
      simp only [List.getD_cons_zero] at hi hi2
      subst hi; subst hi2
      unfold cT at ih ⊢
      rw [List.countP_cons, List.countP_cons]
      simp; omega
    | succ i =>
      have ih2 := cT_lt a b (by simpa using hl) hr ⟨i, by simpa using hi, by simpa using hi2⟩
      unfold cT at ih2 ⊢
      rw [List.countP_cons, List.countP_cons]
      cases x <;> cases y <;> simp at h0 ⊢ <;> omega
def truesW (w : World) (A : Option Addr) (n : Nat) : Nat := match A with
  | some a => (match w.heap[a.block]? with | some (.cells cs _ _) => (cs.toList.take n).countP (fun v => match v with | .bool true => true | _ => false) | _ => 0)
  | none => 0
theorem truesW_of {w : World} {B n c : Nat} {A : Option Addr} {l : List Bool} (h : w.ownsRow B 4 1 (.slice A n c) n (l.map Value.bool)) : truesW w A n = cT l := by
  have key : ∀ l : List Bool, (l.map Value.bool).countP (fun v => match v with | .bool true => true | _ => false) = cT l := fun l => by
    induction l with
    | nil => rfl
    | cons b r ih => simp only [List.map_cons, List.countP_cons, cT] at ih ⊢; rw [ih]; cases b <;> rfl
  obtain ⟨hl, h2⟩ := h
  rcases h2 with ⟨h3, h0⟩ | ⟨g', cap', cur, h3, hB, hg, hnc, hm, hsz, htake⟩
  · cases h3
    have : l = [] := List.eq_nil_of_length_eq_zero (by simpa using hl)
    subst this
    rfl
  · cases h3
    show (match w.heap[g']? with | some (.cells cs _ _) => (cs.toList.take n).countP _ | _ => 0) = _
    rw [hg]
    simp only
    rw [← key, ← htake, Nat.mul_one]
/-- what freshSteps returns -/
def FreshPost (l : List OutV) (lf : Nat → Bool) (w : World) (e : Ending) (w' : World) : Prop :=
  ∃ (v : Value) (L : List (StepR × Value)) (Cs : List (List Nat)), e = .returned v ∧ StepsOwn w' w.heap.size v L ∧ L.map (·.1) = stepsOf l Cs ∧ StepsC (fun k => rowOf l (allLinks l) k) lf Cs ∧ L.length ≤ 480 ∧ Below w.heap.size w w'
theorem rowOf_out {l : List OutV} {D : List LinkR} {k : Nat} (h : l.length ≤ k) : rowOf l D k = [] := by
  rw [rowOf, List.filterMap_eq_nil_iff]
  intro x _
  rw [if_neg]
  intro e
  have := (outAtI_lt e).1
  omega
theorem tt_row {l : List OutV} {tt : List (List Nat)} (hl : tt.length = l.length) (h : ∀ k r, tt[k]? = some r → r = rowOf l (allLinks l) k) : (fun k => tt.getD k []) = fun k => rowOf l (allLinks l) k := by
  funext k
  by_cases hk : k < tt.length
  · rw [List.getD_eq_getElem?_getD, List.getElem?_eq_getElem hk]
    exact h k _ (List.getElem?_eq_getElem hk)
  · rw [List.getD_eq_getElem?_getD, List.getElem?_eq_none (by omega), rowOf_out (by omega)]; rfl
theorem RefsAt.keep {w w' : World} {v : Value} {tt : List (List Nat)} (h : RefsAt w v tt) (k : Keeps w w') : RefsAt w' v tt := by
  obtain ⟨A, c, b, h1, h2, h3, h4, h5⟩ := h
  exact ⟨A, c, b, h1, h2, h3, h4, fun i r hr => by obtain ⟨sv, h6, h7⟩ := h5 i r hr; exact ⟨sv, k _ _ h6, h7.keep k⟩⟩
/-- the best so far, in memory -/
def BestMem (w : World) (n M : Nat) (v : Value) (s : Nat) (ob : Option (List Bool)) : Prop :=
  (ob = none ∧ v = .slice none 0 0) ∨ ∃ (C : List Bool) (bb : Nat), ob = some C ∧ v = .slice (some ⟨bb, 0, none⟩) n n ∧ s = (trues C).length ∧ C.length = n ∧ CB w bb 4 (boC C) ∧ M ≤ bb
theorem BestMem.below {w w' : World} {n M s : Nat} {v : Value} {ob : Option (List Bool)} (h : BestMem w n M v s ob) (hb : Below w.heap.size w w') : BestMem w' n M v s ob := by
  rcases h with h | ⟨C, bb, h1, h2, h3, h4, h5, h6⟩
  · exact Or.inl h
  · exact Or.inr ⟨C, bb, h1, h2, h3, h4, h5.below hb, h6⟩
theorem bools_at {w : World} {bb n : Nat} {C : List Bool} (h : CB w bb 4 (boC C)) (hn : C.length = n) (hm : n ≤ 480) : OnesAt w (.slice (some ⟨bb, 0, none⟩) n n) (C.map Value.bool) :=
  ⟨_, n, bb, 0, by rw [List.length_map, hn], by rw [List.length_map]; omega, by unfold maxLen; omega, fun _ => rfl, fun i x hx => by
    rw [Nat.zero_add, h.c i]
    simpa [boC] using hx⟩
theorem trues_ne {C : List Bool} {tf : Nat → List Nat} {left : Nat → Bool} {i : Nat} (h : ∀ k, C[k]? = some true ↔ Reach tf left i k) : trues C ≠ [] := by
  have : i ∈ trues C := mem_trues.2 ((h i).2 .here)
  intro e
  rw [e] at this
  cases this
theorem StepsC.ext {tf : Nat → List Nat} {a b : Nat → Bool} {R : List (List Nat)} (h : StepsC tf a R) (e : ∀ k, a k = b k) : StepsC tf b R := by
  have : a = b := funext e
  rw [← this]; exact h
theorem trues_len (C : List Bool) : (trues C).length ≤ C.length := by
  have := List.length_filter_le (fun k => C[k]? == some true) (List.range C.length)
  rw [List.length_range] at this
  exact this

/-- a row where a row of another type grows -/
theorem own_keepT {w w' : World} {B K n B2 K2 n2 : Nat} {e e2 : TypeId} {v v2 : Value} {xs ys : List Value} (h : w.ownsRow B e K v n xs) (hr : w.ownsRow B2 e2 K2 v2 n2 ys) (hg : w.grownBy w' v2.ownBlock) (hne : e ≠ e2) : w'.ownsRow B e K v n xs :=
  own_keepX h (GrownX.of_grown (p := fun x => v2.ownBlock = some x) hg (fun _ e => e)) (fun b hb hpb => by
    obtain ⟨cs, hc⟩ := own_type h hb
    obtain ⟨cs2, hc2⟩ := own_type hr hpb
    have h9 := hc.symm.trans hc2
    simp at h9
    exact hne h9.2)
theorem steps_next {tf : Nat → List Nat} {lf : Nat → Bool} {lc C : List Bool} {Cs : List (List Nat)} {n : Nat} (hn : lc.length = n) (h : ∀ R, StepsC tf (fun k => lc.getD k false) R → StepsC tf lf (Cs ++ R)) (hb : BestC tf (fun k => lc.getD k false) (trues C)) : ∀ R, StepsC tf (fun k => (cutL lc C n).getD k false) R → StepsC tf lf ((Cs ++ [trues C]) ++ R) := fun R hR => by
  subst hn
  rw [List.append_assoc]
  exact h _ (.next hb (hR.ext (fun k => cutL_all lc C k)))
theorem cut_less {tf : Nat → List Nat} {lc C : List Bool} {n : Nat} (hn : lc.length = n) (hb : BestC tf (fun k => lc.getD k false) (trues C)) : cT (cutL lc C n) < cT lc := by
  subst hn
  obtain ⟨i, hi, hc⟩ := hb.ex
  refine cT_lt _ _ (cutL_len _ _ _).symm (fun j hj => ?_) ⟨i, hi, ?_⟩
  · rw [cutL_get, Bool.and_eq_true] at hj; exact hj.1
  · have h1 := mem_trues.1 ((hc.mem i).2 .here)
    have h2 : i < lc.length := by
      rcases Nat.lt_or_ge i lc.length with h | h
      · exact h
      · have hi2 : lc.getD i false = true := hi
        rw [List.getD_eq_getElem?_getD, List.getElem?_eq_none h] at hi2; cases hi2
    rw [cutL_get, show C.getD i false = true by rw [List.getD_eq_getElem?_getD, h1]; rfl]
    simp [h2]

set_option maxRecDepth 100000 in
set_option maxHeartbeats 16000000 in
theorem freshSteps_q (l : List OutV) (lf : List Bool) (v : Value) (n bf : Nat) (w : World) (h : OutsAt w v l) (hf : CB w bf 4 (boC lf)) (hn : l.length = n) (hfn : lf.length = n) (hm : MaxT w.heap.size w) (hl : n ≤ 480) (hz : ∀ x ∈ l, pathB x.path = true) (h0 : pagesE l = 0) :
    Calls Tryz.prog 45 #[v, .slice (some ⟨bf, 0, none⟩) n n] w (FreshPost l (fun k => lf.getD k false) w) := by
  have HRf := Lib.hid (refers_q l v w h hm (by omega) hz h0)
  have HL := Lib.hid h
  have HF := Lib.hid hf
  obtain ⟨Al, cl, bl, ol, rfl, hlc, hlcm, hAl, hlcell⟩ := h
  have HLn := Lib.hid hn
  have HFn := Lib.hid hfn
  rw [hn] at HL HRf hlc
  have HLc := Lib.hid hlcell
  have HAl := Lib.hid hAl
  unfold maxLen at hlcm
  obtain ⟨lfF, hlfF⟩ : ∃ f, (fun k => lf.getD k false) = f := ⟨_, rfl⟩
  have HlfF := Lib.hid hlfF
  rw [hlfF]
  clear hm hz h0 hf hlfF hlcell hAl
  obtain ⟨w0, hw0⟩ : ∃ w9, w9 = w := ⟨_, rfl⟩
  go_enter Tryz.func45, Tryz.ntmps45
  rw [hn]
  clear hn hfn
  go_upto_region 2 with (go_at_call 77; go_loud (refine HRf.out.mono ?_; rintro e w1 ⟨vt, tt, rfl, hrf, htl, htr, hb⟩; have HRA := Lib.hid hrf; have HTl := Lib.hid (htl.trans HLn.out); have HTr := Lib.hid (tt_row htl htr); have HTx := Lib.hid htr; have HB1 := Lib.hid hb; clear hrf htl htr hb))
  clear HRf
  obtain ⟨M, hM⟩ : ∃ M, w1.heap.size = M := ⟨_, rfl⟩
  have HMe := Lib.hid hM
  have HF1 := Lib.hid (HF.out.below HB1.out)
  have HN1 := Lib.hid (show ∀ (j : Nat) (u : Value), (lf.map Value.bool)[j]? = some u → (w1.alloc (.cells #[] 4)).cell? ⟨bf, j, none⟩ = some u from fun j u hj => by
    rw [(HF1.out.alloc _).c j]
    simpa [boC] using hj)
  have HB1a := Lib.hid (show Below M w1 (w1.alloc (.cells #[] 4)) by rw [← hM]; exact (Below.refl _ _).alloc (Nat.le_refl _) (.cells #[] 4))
  have HFr := Lib.hid (show (w1.alloc (.cells #[] 4)).ownsRow M 4 1 (.slice (some ⟨M, 0, none⟩) 0 0) 0 [] by rw [← hM]; exact own_fresh0 _ _)
  have HFnl := Lib.hid (show (lf.map Value.bool).length = n by rw [List.length_map]; exact HFn.out)
  have hM1 : M ≤ w1.heap.size := by omega
  go_wp2_with (at_builtin; go_loud (refine wpList_copyA _ rfl (.tmp 20) (.tmp 21) 90 rfl 4 (.bool false) 1 Tryz.underlying90 info_boolC rfl M (.slice (some ⟨M, 0, none⟩) 0 0) rfl HFr.out (by simp; omega) bf n n _ rfl HFnl.out HN1.out (by intro u hu; obtain ⟨b, _, rfl⟩ := List.mem_map.1 hu; rfl) (by omega) (by unfold maxLen; omega) ?_; intro Ab cb w2 own2 hb2; have HO2 := Lib.hid own2; have HB2 := Lib.hid (HB1a.out.trans hb2); clear own2 hb2))
  obtain ⟨tf, htf⟩ : ∃ f, (fun k => rowOf l (allLinks l) k) = f := ⟨_, rfl⟩
  have HTf := Lib.hid htf
  have HTt := Lib.hid (HTr.out.trans htf)
  have HTo := Lib.hid (show ∀ r ∈ tt, r.length ≤ 140737488355328 ∧ ∀ x ∈ r, x < n from fun r hr => by
    obtain ⟨k, hk⟩ := List.getElem?_of_mem hr
    have h1 := HTx.out k r hk
    have h2 := rowOf_len l (allLinks l) k
    have h3 := allLinks_len l (by rw [HLn.out]; exact hl)
    refine ⟨by rw [h1]; omega, fun x hx => ?_⟩
    rw [h1] at hx
    have := rowOf_lt hx
    rw [HLn.out] at this
    exact this)
  have HKe := Lib.hid (show ∀ wr, Below M w1 wr → RefsAt wr vt tt ∧ OutsAt wr (.slice Al n cl) l from fun wr hb => by
    rw [← HMe.out] at hb
    exact ⟨HRA.out.keep (Keeps.of_below hb), HL.out.keep (Keeps.of_below (HB1.out.trans (hb.mono HB1.out.size)))⟩)
  have HwM := Lib.hid (show w.heap.size ≤ M by rw [← HMe.out]; exact HB1.out.size)
  clear htf hM HRA HTr HTx HF HF1 HN1 HB1a HFr HFnl HL
  have HcT0 := Lib.hid (show 0 + cT lf ≤ n by
    have := List.countP_le_length (p := id) (l := lf)
    rw [HFn.out] at this
    unfold cT
    omega)
  go_loopw [7] (fun t7 wr => ∃ (L : List (StepR × Value)) (Cs : List (List Nat)) (lc : List Bool) (A : Option Addr) (c q : Nat), t7 = .slice A q c ∧ Hid (L.length = q) ∧ Hid (StepsOwn wr M (.slice A q c) L) ∧ Hid (wr.ownsRow M 4 1 (.slice Ab n cb) n (lc.map Value.bool)) ∧ Hid (lc.length = n) ∧ Hid (L.map (·.1) = stepsOf l Cs) ∧ Hid (∀ R, StepsC tf (fun k => lc.getD k false) R → StepsC tf lfF (Cs ++ R)) ∧ Hid (Below M w1 wr) ∧ Hid (q + cT lc ≤ n)) (fun _ wr => truesW wr Ab n)
  case atStart => exact ⟨[], [], lf, none, 0, 0, rfl, rfl, StepsOwn.start _ _, HO2, HFn, rfl, (fun R hR => by rw [HlfF.out] at hR; exact hR), HB2, HcT0⟩
  case round =>
    clear HO2 HB2 HcT0 HFn
    obtain ⟨L, Cs, lc, A, c, q, rfl, HLq, HS, HOl, HlcN, HSt, HSC, HBM, HcT⟩ := hrel
    obtain ⟨wo, rfl⟩ : ∃ wo : World, wo = wr := ⟨_, rfl⟩
    obtain ⟨lcF, hlcF⟩ : ∃ f, (fun k => lc.getD k false) = f := ⟨_, rfl⟩
    have HlcF := Lib.hid hlcF
    have HMea := Lib.hid (truesW_of HOl.out)
    have hMo : M ≤ wo.heap.size := by have := HBM.out.size; omega
    clear hlcF
    go_wp2_with fail
    go_loopw [8, 9, 25] (fun t8 t9 t25 wr => ∃ (k s : Nat) (ob : Option (List Bool)), k ≤ n ∧ t25 = .int .i64 k ∧ t9 = .int .i64 (s : Int) ∧ Hid (BestMem wr n wo.heap.size t8 s ob) ∧ Hid (BestPre tf lcF k (ob.map trues)) ∧ Hid (Below wo.heap.size wo wr)) (fun _ _ t25 _ => n - (intOf t25).toNat)
    case atStart => exact ⟨0, 0, none, Nat.zero_le _, rfl, rfl, Or.inl ⟨rfl, rfl⟩, BestPre.start, Below.refl _ _⟩
    case round =>
      obtain ⟨k, s, ob, hk, rfl, rfl, HBe, HPre, HBo⟩ := hrel
      obtain ⟨wy, rfl⟩ : ∃ wy : World, wy = wr := ⟨_, rfl⟩
      have HOy := Lib.hid (own_stay HOl.out HBo.out)
      have HBMy := Lib.hid (HBM.out.trans (HBo.out.mono hMo))
      by_cases hlt : k < n
      · obtain ⟨Lb, rfl⟩ : ∃ g, Ab = some ⟨g, 0, none⟩ := by
          obtain ⟨A', c', hv, _, _, hA⟩ := own_form HOl.out
          cases hv
          obtain ⟨g, hg, _⟩ := hA (by omega)
          exact ⟨g, hg⟩
        obtain ⟨lb, hlb⟩ : ∃ b, lc[k]? = some b := ⟨_, List.getElem?_eq_getElem (by rw [HlcN.out]; exact hlt)⟩
        have y0 : wy.cell? ⟨Lb, k, none⟩ = some (.bool lb) := own_cell HOy.out (by simp [hlb])
        have HLk := Lib.hid (show lcF k = lb by rw [← HlcF.out]; show lc.getD k false = lb; rw [List.getD_eq_getElem?_getD, hlb]; rfl)
        clear hlb
        have hlt2 : (k : Int) < (n : Int) := by omega
        cases lb with
        | false =>
          have HP2 := Lib.hid (HPre.out.skip HLk.out)
          rcases HBe.out with ⟨hb1, hb2⟩ | ⟨C, bb, hb1, hb2, hb3⟩
          all_goals
            subst hb2
            go_wp2_with fail
            go_roundw
            case rel => exact ⟨k + 1, s, ob, by omega, by go_num, rfl, HBe, HP2, HBo⟩
            case measure => simp [intOf]; omega
        | true =>
          have HClo := Lib.hid (show Calls Tryz.prog 78 #[.int .i64 k, vt, .slice (some ⟨Lb, 0, none⟩) n cb] wy (CloRPost n tf lcF k wy) from by
            have := closureR_q k n tt lc vt (.slice (some ⟨Lb, 0, none⟩) n cb) wy hlt hl (HKe.out wy HBMy.out).1 HTl.out (OnesAt.of_own HOy.out) HlcN.out HTo.out
            rw [HTt.out, HlcF.out] at this
            exact this)
          rcases HBe.out with ⟨hb1, hb2⟩ | ⟨D, bb, hb1, hb2, hb3, hb4, hb5, hb6⟩
          · subst hb2 hb1
            go_wp2_with (go_at_call 78; go_loud (refine HClo.out.mono ?_; rintro e w6 ⟨C, hC1, rfl, hC2, hC3, hb⟩; have HCn := Lib.hid hC1; have HCi := Lib.hid hC2; have HCB := Lib.hid hC3; have HB6 := Lib.hid hb; clear hC1 hC2 hC3 hb))
            obtain ⟨sN, hsN⟩ : ∃ s, (trues C).length = s := ⟨_, rfl⟩
            have HsN := Lib.hid hsN
            have hsN2 : sN ≤ 480 := by have := trues_len C; have := HCn.out; omega
            clear hsN
            have HCc := Lib.hid (trues_clo HCi.out)
            go_loopw [12, 39] (fun t12 t39 wx => ∃ m : Nat, wx = w6 ∧ m ≤ n ∧ t39 = .int .i64 m ∧ t12 = .int .i64 (countT C m : Nat)) (fun _ t39 _ => n - (intOf t39).toNat)
            case atStart => exact ⟨0, rfl, Nat.zero_le _, rfl, rfl⟩
            case round =>
              obtain ⟨m, rfl, hm, rfl, rfl⟩ := hrel
              have hcm := countT_le C m
              have HCs := Lib.hid (countT_succ C m)
              obtain ⟨cm, hcm2⟩ : ∃ x, countT C m = x := ⟨_, rfl⟩
              have HCm := Lib.hid hcm2
              rw [hcm2] at hcm HCs
              rw [hcm2]
              clear hcm2
              by_cases hmt : m < n
              · obtain ⟨b, hb⟩ : ∃ b, C[m]? = some b := ⟨_, List.getElem?_eq_getElem (by rw [HCn.out]; exact hmt)⟩
                have z0 : wr.cell? ⟨wy.heap.size, m, none⟩ = some (.bool b) := by rw [HCB.out.c m]; exact boC_get hb
                have hmt2 : (m : Int) < (n : Int) := by omega
                have HCs2 := Lib.hid (show countT C (m + 1) = cm + (if b = true then 1 else 0) by rw [HCs.out, hb]; simp)
                clear hb HCs
                cases b with
                | false =>
                  go_wp2_with fail
                  go_roundw
                  case rel => exact ⟨m + 1, by first | rfl | trivial, by omega, by go_num, by rw [HCs2.out]; simp⟩
                  case measure => simp [intOf]; omega
                | true =>
                  go_wp2_with fail
                  go_roundw
                  case rel => exact ⟨m + 1, by first | rfl | trivial, by omega, by go_num, by rw [HCs2.out]; simp⟩
                  case measure => simp [intOf]; omega
              · obtain rfl : m = n := by omega
                obtain rfl : cm = sN := by rw [← HCm.out, ← HsN.out, ← countT_all, HCn.out]
                clear hcm HCs HCm
                have hnn : ∀ W, Sem.run Tryz.prog (binOp .eql 90 (.slice none 0 0) (.slice none 0 0)) W = .ok (.bool true) W := fun W => rfl
                have HP2 := Lib.hid (HPre.out.take HLk.out HCc.out (fun D hD => by simp at hD))
                go_wp2_with fail
                go_roundw
                case rel => exact ⟨k + 1, cm, some C, by omega, by go_num, rfl, Lib.hid (Or.inr ⟨C, _, rfl, rfl, HsN.out.symm, HCn.out, HCB.out, HBo.out.size⟩), HP2, Lib.hid (HBo.out.trans (HB6.out.mono HBo.out.size))⟩
                case measure => simp [intOf]; omega
          · subst hb2 hb1
            have Hb3 := Lib.hid hb3
            have Hb4 := Lib.hid hb4
            clear hb3 hb4
            go_wp2_with (go_at_call 78; go_loud (refine HClo.out.mono ?_; rintro e w6 ⟨C, hC1, rfl, hC2, hC3, hb⟩; have HCn := Lib.hid hC1; have HCi := Lib.hid hC2; have HCB := Lib.hid hC3; have HB6 := Lib.hid hb; clear hC1 hC2 hC3 hb))
            obtain ⟨sN, hsN⟩ : ∃ s, (trues C).length = s := ⟨_, rfl⟩
            have HsN := Lib.hid hsN
            have hsN2 : sN ≤ 480 := by have := trues_len C; have := HCn.out; omega
            clear hsN
            have HCc := Lib.hid (trues_clo HCi.out)
            go_loopw [12, 39] (fun t12 t39 wx => ∃ m : Nat, wx = w6 ∧ m ≤ n ∧ t39 = .int .i64 m ∧ t12 = .int .i64 (countT C m : Nat)) (fun _ t39 _ => n - (intOf t39).toNat)
            case atStart => exact ⟨0, rfl, Nat.zero_le _, rfl, rfl⟩
            case round =>
              obtain ⟨m, rfl, hm, rfl, rfl⟩ := hrel
              have hcm := countT_le C m
              have HCs := Lib.hid (countT_succ C m)
              obtain ⟨cm, hcm2⟩ : ∃ x, countT C m = x := ⟨_, rfl⟩
              have HCm := Lib.hid hcm2
              rw [hcm2] at hcm HCs
              rw [hcm2]
              clear hcm2
              by_cases hmt : m < n
              · obtain ⟨b, hb⟩ : ∃ b, C[m]? = some b := ⟨_, List.getElem?_eq_getElem (by rw [HCn.out]; exact hmt)⟩
                have z0 : wr.cell? ⟨wy.heap.size, m, none⟩ = some (.bool b) := by rw [HCB.out.c m]; exact boC_get hb
                have hmt2 : (m : Int) < (n : Int) := by omega
                have HCs2 := Lib.hid (show countT C (m + 1) = cm + (if b = true then 1 else 0) by rw [HCs.out, hb]; simp)
                clear hb HCs
                cases b with
                | false =>
                  go_wp2_with fail
                  go_roundw
                  case rel => exact ⟨m + 1, by first | rfl | trivial, by omega, by go_num, by rw [HCs2.out]; simp⟩
                  case measure => simp [intOf]; omega
                | true =>
                  go_wp2_with fail
                  go_roundw
                  case rel => exact ⟨m + 1, by first | rfl | trivial, by omega, by go_num, by rw [HCs2.out]; simp⟩
                  case measure => simp [intOf]; omega
              · obtain rfl : m = n := by omega
                obtain rfl : cm = sN := by rw [← HCm.out, ← HsN.out, ← countT_all, HCn.out]
                clear hcm HCs HCm
                have hnq : ∀ W, Sem.run Tryz.prog (binOp .eql 90 (.slice (some ⟨bb, 0, none⟩) m m) (.slice none 0 0)) W = .ok (.bool false) W := fun W => rfl
                have HD := Lib.hid (bools_at (hb5.below HB6.out) Hb4.out hl)
                have HCO := Lib.hid (bools_at HCB.out HCn.out hl)
                obtain ⟨f1, hf1⟩ : ∃ f, (trues C).headD 0 = f := ⟨_, rfl⟩
                obtain ⟨f2, hf2⟩ : ∃ f, (trues D).headD 0 = f := ⟨_, rfl⟩
                have hDne : trues D ≠ [] := by
                  obtain ⟨⟨i, hi, hc⟩, _⟩ := HPre.out.some_ _ rfl
                  intro e
                  have := (hc.mem i).2 .here
                  rw [e] at this; cases this
                have HF1 := Lib.hid ((first_q C _ _ HCO.out (trues_ne HCi.out)).mono fun e w' h9 => (⟨by rw [h9.1, hf1], h9.2⟩ : e = .returned (.int .i64 (f1 : Nat)) ∧ wr = w'))
                have HF2 := Lib.hid ((first_q D _ _ HD.out hDne).mono fun e w' h9 => (⟨by rw [h9.1, hf2], h9.2⟩ : e = .returned (.int .i64 (f2 : Nat)) ∧ wr = w'))
                clear hDne
                by_cases h1 : cm < s
                · have h1i : (cm : Int) < (s : Int) := by omega
                  have HP2 := Lib.hid (HPre.out.take HLk.out HCc.out (fun E hE => by simp at hE; subst hE; left; rw [HsN.out, ← Hb3.out]; exact h1))
                  go_wp2_with fail
                  go_roundw
                  case rel => exact ⟨k + 1, cm, some C, by omega, by go_num, rfl, Lib.hid (Or.inr ⟨C, _, rfl, rfl, HsN.out.symm, HCn.out, HCB.out, HBo.out.size⟩), HP2, Lib.hid (HBo.out.trans (HB6.out.mono HBo.out.size))⟩
                  case measure => simp [intOf]; omega
                · have h1i : ¬ (cm : Int) < (s : Int) := by omega
                  by_cases h2 : cm = s
                  · have h2i : ((cm : Int) == (s : Int)) = true := by rw [beq_iff_eq]; omega
                    by_cases h3 : f1 < f2
                    · have h3i : (f1 : Int) < (f2 : Int) := by omega
                      have HP2 := Lib.hid (HPre.out.take HLk.out HCc.out (fun E hE => by simp at hE; subst hE; right; rw [HsN.out, ← Hb3.out, hf1, hf2]; exact ⟨h2, by omega⟩))
                      clear h2
                      go_wp2_with (go_at_call 79; refine (by first | with_reducible exact HF1.out | with_reducible exact HF2.out : Calls _ _ _ _ _).mono ?_; rintro e w7 ⟨rfl, hw7⟩; subst w7)
                      go_roundw
                      case rel => exact ⟨k + 1, cm, some C, by omega, by go_num, rfl, Lib.hid (Or.inr ⟨C, _, rfl, rfl, HsN.out.symm, HCn.out, HCB.out, HBo.out.size⟩), HP2, Lib.hid (HBo.out.trans (HB6.out.mono HBo.out.size))⟩
                      case measure => simp [intOf]; omega
                    · have h3i : ¬ (f1 : Int) < (f2 : Int) := by omega
                      have HP2 := Lib.hid (BestPre.pass (D := trues D) HPre.out HCc.out (Or.inr (by rw [HsN.out, ← Hb3.out, hf1, hf2]; exact ⟨h2.symm, by omega⟩)))
                      clear h2
                      go_wp2_with (go_at_call 79; refine (by first | with_reducible exact HF1.out | with_reducible exact HF2.out : Calls _ _ _ _ _).mono ?_; rintro e w7 ⟨rfl, hw7⟩; subst w7)
                      go_roundw
                      case rel => exact ⟨k + 1, s, some D, by omega, by go_num, rfl, Lib.hid (Or.inr ⟨D, bb, rfl, rfl, Hb3.out, Hb4.out, hb5.below HB6.out, hb6⟩), HP2, Lib.hid (HBo.out.trans (HB6.out.mono HBo.out.size))⟩
                      case measure => simp [intOf]; omega
                  · have h2i : ((cm : Int) == (s : Int)) = false := by rw [beq_eq_false_iff_ne]; omega
                    have HP2 := Lib.hid (BestPre.pass (D := trues D) HPre.out HCc.out (Or.inl (by rw [HsN.out, ← Hb3.out]; omega)))
                    go_wp2_with fail
                    go_roundw
                    case rel => exact ⟨k + 1, s, some D, by omega, by go_num, rfl, Lib.hid (Or.inr ⟨D, bb, rfl, rfl, Hb3.out, Hb4.out, hb5.below HB6.out, hb6⟩), HP2, Lib.hid (HBo.out.trans (HB6.out.mono HBo.out.size))⟩
                    case measure => simp [intOf]; omega
      · obtain rfl : k = n := by omega
        have hmtx : ¬ (k : Int) < (k : Int) := by omega
        have HNl := Lib.hid (show ∀ j, lcF j = true → j < k from fun j hj => by
          rw [← HlcF.out] at hj
          rcases Nat.lt_or_ge j k with h | h
          · exact h
          · have hj2 : lc.getD j false = true := hj
            rw [List.getD_eq_getElem?_getD, List.getElem?_eq_none (by rw [HlcN.out]; exact h)] at hj2; cases hj2)
        rcases HBe.out with ⟨hb1, hb2⟩ | ⟨D, bb, hb1, hb2, hb3, hb4, hb5, hb6⟩
        · subst hb2 hb1
          have hnn : ∀ W, Sem.run Tryz.prog (binOp .eql 90 (.slice none 0 0) (.slice none 0 0)) W = .ok (.bool true) W := fun W => rfl
          have HDone := Lib.hid (HPre.out.done HNl.out)
          go_wp2_with fail
          go_ret
          exact ⟨_, L, Cs, rfl, (HS.out.below HBo.out).low HwM.out, HSt.out, by rw [HTf.out]; have := HSC.out [] (by rw [HlcF.out]; exact .done HDone.out); rw [List.append_nil] at this; exact this, by have := HcT.out; have := HLq.out; omega, HB1.out.trans (HBMy.out.mono HwM.out)⟩
        · subst hb2 hb1
          have hnq : ∀ W, Sem.run Tryz.prog (binOp .eql 90 (.slice (some ⟨bb, 0, none⟩) k k) (.slice none 0 0)) W = .ok (.bool false) W := fun W => rfl
          have HBest := Lib.hid (show BestC tf (fun k => lc.getD k false) (trues D) by rw [HlcF.out]; exact BestPre.best HPre.out HNl.out)
          have HDn := Lib.hid hb4
          have HDb := Lib.hid hb5
          clear hb3 hb4 hb5
          obtain ⟨T, hT⟩ : ∃ T, wy.heap.size = T := ⟨_, rfl⟩
          have HTe := Lib.hid hT
          have hMT : M ≤ T := by have := HBMy.out.size; have := HMe.out; omega
          have HT0 := Lib.hid (show CB (wy.alloc (.cells #[.bool false, .slice none 0 0] 86)) T 86 #[.bool false, .slice none 0 0] by rw [← hT]; exact CB.new _ _ _)
          obtain ⟨Lb, hLb⟩ : ∃ g, (0 < k → Ab = some ⟨g, 0, none⟩) ∧ M ≤ g := by
            obtain ⟨A', c', hv, _, _, hA⟩ := own_form HOl.out
            cases hv
            rcases Nat.eq_zero_or_pos k with h | h
            · exact ⟨M, (fun h2 => absurd h2 (by omega)), Nat.le_refl _⟩
            · obtain ⟨g, hg, hg2, _⟩ := hA h
              exact ⟨g, fun _ => hg, hg2⟩
          have HLb := Lib.hid hLb
          have HLbT := Lib.hid (show 0 < k → Lb < wo.heap.size ∧ NoSt wy Lb from fun h => by
            have h1 := HLb.out.1 h
            have h2 := own_lt HOl.out Lb (by rw [h1]; rfl)
            exact ⟨h2, NoSt.row HOy.out (by rw [h1]; rfl) (by decide) (by decide)⟩)
          clear hLb
          go_wp2_with fail
          obtain ⟨W0, hW0⟩ : ∃ W, wy.alloc (.cells #[.bool false, .slice none 0 0] 86) = W := ⟨_, rfl⟩
          have HW0 := Lib.hid hW0
          rw [hW0] at HT0
          have HOz := Lib.hid (show W0.ownsRow M 4 1 (.slice Ab k cb) k ((cutL lc D 0).map Value.bool) by rw [cutL_zero, ← hW0]; exact own_alloc HOy.out _)
          have HDz := Lib.hid (show CB W0 bb 4 (boC D) by rw [← hW0]; exact HDb.out.alloc _)
          have HSzh := Lib.hid (show W0.heap.size = T + 1 by rw [← hW0, World.size_alloc, hT])
          rw [hW0]
          clear hW0 hT
          go_loopw [75] (fun t75 wr => ∃ (j : Nat) (A' : Option Addr) (c' p : Nat), j ≤ k ∧ t75 = .int .i64 j ∧ p ≤ j ∧ Hid ((pickK l D j).length = p) ∧ Hid (CB wr T 86 #[.bool false, .slice A' p c']) ∧ Hid (wr.ownsRow (T + 1) 62 2 (.slice A' p c') p (outsC (pickK l D j))) ∧ Hid (wr.ownsRow M 4 1 (.slice Ab k cb) k ((cutL lc D j).map Value.bool)) ∧ Hid (GrownX (fun x => x = T ∨ (0 < k ∧ x = Lb)) W0 wr)) (fun t75 _ => k - (intOf t75).toNat)
          case atStart => exact ⟨0, none, 0, 0, Nat.zero_le _, rfl, Nat.le_refl _, rfl, HT0, World.ownsRow_nil _ _ _ _, HOz, GrownX.refl _ _⟩
          case round =>
            clear HT0 HOz
            obtain ⟨j, A', c', p, hj, rfl, hpj, HPl, HT, HF, HOj, HG⟩ := hrel
            obtain ⟨wx, rfl⟩ : ∃ wx : World, wx = wr := ⟨_, rfl⟩
            have HDj := Lib.hid (show CB wx bb 4 (boC D) from HDz.out.keepX HG.out (fun e => by
              have h1 := HDb.out.lt
              have h2 := HTe.out
              rcases e with e | ⟨e1, e2⟩
              · omega
              · have := (HLbT.out e1).1; omega))
            by_cases hjt : j < k
            · have hk0 : 0 < k := by omega
              have hLb := HLb.out.1 hk0
              have hLbT := (HLbT.out hk0).1
              have hLw : Lb < T := by have := HBo.out.size; have := HTe.out; omega
              subst hLb
              have hMy : M ≤ wy.heap.size := by have := HTe.out; omega
              have HBMx := Lib.hid (show Below M w1 wx from HBMy.out.trans (((Below.refl M wy).alloc hMy (.cells #[.bool false, .slice none 0 0] 86)).trans (by
                rw [HW0.out]
                exact HG.out.below (by have := HSzh.out; omega) (fun x e => by
                  rcases e with e | ⟨_, e⟩
                  · omega
                  · have := HLb.out.2; omega))))
              obtain ⟨b, hb⟩ : ∃ b, D[j]? = some b := ⟨_, List.getElem?_eq_getElem (by rw [HDn.out]; exact hjt)⟩
              have z0 : wx.cell? ⟨bb, j, none⟩ = some (.bool b) := by rw [HDj.out.c j]; exact boC_get hb
              have hjt2 : (j : Int) < (k : Int) := by omega
              cases b with
              | false =>
                have HPk := Lib.hid (pickK_skip (l := l) hb)
                have HCu := Lib.hid (cutL_skip (lf := lc) (C := D) (k := j) (by rw [List.getD_eq_getElem?_getD, hb]; rfl))
                clear hb
                go_wp2_with fail
                go_roundw
                case rel => exact ⟨j + 1, A', c', p, by omega, by go_num, by omega, Lib.hid (by rw [HPk.out]; exact HPl.out), HT, Lib.hid (by rw [HPk.out]; exact HF.out), Lib.hid (by rw [HCu.out]; exact HOj.out), HG⟩
                case measure => simp [intOf]; omega
              | true =>
                obtain ⟨o, ho⟩ : ∃ o, l[j]? = some o := ⟨_, List.getElem?_eq_getElem (by rw [HLn.out]; exact hjt)⟩
                have hAl := HAl.out (by intro e; rw [e] at ho; simp at ho)
                subst hAl
                have hoc := (HLc.out j o ho).keep (Keeps.of_below (HB1.out.trans (HBMx.out.mono HwM.out)))
                have o0 := hoc.c0
                have o1 := hoc.c1
                have HPk := Lib.hid (pickK_take hb ho)
                have HCu := Lib.hid (cutL_set (lf := lc) (C := D) (k := j) (by rw [List.getD_eq_getElem?_getD, hb]; rfl))
                obtain ⟨lj, hlj⟩ : ∃ x, (cutL lc D j)[j]? = some x := ⟨_, List.getElem?_eq_getElem (by rw [cutL_len, HlcN.out]; exact hjt)⟩
                have HLj := Lib.hid (show ((cutL lc D j).map Value.bool)[j]? = some (.bool lj) by simp [hlj])
                clear hb ho hoc hlj
                obtain ⟨op, ob⟩ := o
                simp only at o0 o1 HPk
                have s0 : wx.cell? ⟨T, 0, none⟩ = some (.bool false) := HT.out.c 0
                have s1 : wx.cell? ⟨T, 1, none⟩ = some (.slice A' p c') := HT.out.c 1
                have s1f := HT.out.f 1
                have hTL : ¬ T = Lb := by omega
                have hLT : ¬ Lb = T := by omega
                have hTx := HT.out.lt
                go_upto_region 28 with fail
                go_region_law (refine step_pushT rfl (.tmp 82) (.tmp 87) 22 rfl (T + 1) 62 _ 2 32 Tryz.underlying22 info_out rfl (by omega) (.slice A' p c') p _ (by simp [Act.eval]) ((own_drew HF.out).alloc (.cells #[.string op, .string ob] 62)) [.string op, .string ob] rfl _ (by simp [Act.eval]) (cell_new _ [.string op, .string ob] 62 _ rfl) (by intro u hu; simp at hu; rcases hu with rfl | rfl <;> rfl) (by omega) (by unfold maxLen; omega) (by simp; omega) ?_
                               intro g5 c5 w5 own5 hg5 hgg5 hb5
                               have HO5 := Lib.hid own5
                               have HT5 := Lib.hid (CB.grown ((CB.drew HT.out).alloc (.cells #[.string op, .string ob] 62)) ((own_drew HF.out).alloc (.cells #[.string op, .string ob] 62)) hg5 (by decide))
                               have HJ5 := Lib.hid (own_keepT (own_alloc (own_drew HOj.out) (.cells #[.string op, .string ob] 62)) ((own_drew HF.out).alloc (.cells #[.string op, .string ob] 62)) hg5 (by decide))
                               have HG5 := Lib.hid (HG.out.trans2 (((GrownX.refl (fun x => T + 1 ≤ x) wx).drew.alloc (.cells #[.string op, .string ob] 62)).trans (GrownX.of_grown hg5 (fun g hgx => own_block_ge HF.out g hgx))) (fun x hx e => absurd hx (by have := HSzh.out; omega)))
                               clear own5 hg5 hgg5 hb5
                               have v1 : w5.cell? ⟨T, 1, none⟩ = some (.slice A' p c') := HT5.out.c 1
                               have v1f := HT5.out.f 1
                               have v2 : w5.cell? ⟨Lb, j, none⟩ = some (.bool lj) := own_cell HJ5.out HLj.out
                               have v2f : w5.frozen? ⟨Lb, j, none⟩ = false := (own_type HJ5.out rfl).choose_spec.f j)
                all_goals
                  (try go_wp2_with fail)
                  go_roundw
                  case rel => exact ⟨j + 1, _, _, p + 1, by omega, by go_num, by omega, Lib.hid (by rw [HPk.out, List.length_append, HPl.out]; rfl), Lib.hid ((HT5.out.put 1 _).other (grown_setB _ Lb _ _) (by simp; exact hTL)), Lib.hid (by rw [HPk.out, outsC_snoc]; exact own_keepX (own_keepX HO5.out (GrownX.one0 _ T _ _) (fun b hb e => by have := own_block_ge HO5.out b hb; omega)) (GrownX.one0 _ Lb _ _) (fun b hb e => by have := own_block_ge HO5.out b hb; omega)), Lib.hid (by rw [HCu.out, List.map_set]; exact own_put (own_keepX HJ5.out (GrownX.one0 _ T _ _) (fun b hb e => by simp [Value.ownBlock] at hb; omega)) j _), Lib.hid ((HG5.out.set (Or.inl (Or.inl rfl)) _ _).set (Or.inl (Or.inr ⟨hk0, rfl⟩)) _ _)⟩
                  case measure => simp [intOf]; omega
            · obtain rfl : j = k := by omega
              have hjj : ¬ (j : Int) < (j : Int) := by omega
              have hMy : M ≤ wy.heap.size := by have := HTe.out; omega
              have HBMx := Lib.hid (show Below M w1 wx from HBMy.out.trans (((Below.refl M wy).alloc hMy (.cells #[.bool false, .slice none 0 0] 86)).trans (by
                rw [HW0.out]
                exact HG.out.below (by have := HSzh.out; omega) (fun x e => by
                  rcases e with e | ⟨_, e⟩
                  · omega
                  · have := HLb.out.2; omega))))
              have HSx := Lib.hid (show StepsOwn wx M (.slice A q c) L from (HS.out.below HBo.out).keepN (p := fun x => 0 < j ∧ x = Lb) (((GrownX.refl (fun x => 0 < j ∧ x = Lb) wy).alloc (.cells #[.bool false, .slice none 0 0] 86)).trans2 (by rw [HW0.out]; exact HG.out) (fun x hx e => by
                rcases e with e | e
                · have := HTe.out; omega
                · exact e)) (fun g e => by rw [e.2]; exact (HLbT.out e.1).2))
              have HPa := Lib.hid (show pickK l D j = pickL l (trues D) by rw [← pickK_all, HDn.out])
              have HFx := Lib.hid (show wx.ownsRow M 62 2 (.slice A' p c') p (outsC (pickL l (trues D))) by rw [← HPa.out]; exact own_lowP HF.out (by omega))
              have HPl2 := Lib.hid (show (pickL l (trues D)).length = p by rw [← HPa.out]; exact HPl.out)
              have HNe := Lib.hid (steps_next HlcN.out HSC.out HBest.out)
              have HLess := Lib.hid (cut_less HlcN.out HBest.out)
              have HStN := Lib.hid (show (L ++ [((⟨false, pickL l (trues D)⟩ : StepR), Value.slice A' p c')]).map (·.1) = stepsOf l (Cs ++ [trues D]) by
                rw [List.map_append, HSt.out, stepsOf, stepsOf, List.map_append]; rfl)
              have hqn : q + 1 ≤ 481 := by have := HcT.out; omega
              have s0 : wx.cell? ⟨T, 0, none⟩ = some (.bool false) := HT.out.c 0
              have s1 : wx.cell? ⟨T, 1, none⟩ = some (.slice A' p c') := HT.out.c 1
              have hMx : M ≤ wx.heap.size := by have := HBMx.out.size; have := HMe.out; omega
              have HRow := Lib.hid (show wx.ownsRow M 86 2 (.slice A q c) q (stepsC L) by have := HSx.out.row; rw [HLq.out] at this; exact this)
              go_wp2_with (at_builtin; go_loud (have hh := own_alloc HRow.out (.cells #[.bool false, .slice A' p c'] 86); have k1 : (q + 1) * 32 ≤ 140737488355328 := (by omega); have k2 : q + 1 ≤ maxLen := (by unfold maxLen; omega); have k3 : M ≤ (World.alloc wx (.cells #[.bool false, .slice A' p c'] 86)).heap.size := (by simp; omega); have k4 := cell_new wx [.bool false, .slice A' p c'] 86 (World.heap wx).size rfl; go_must (refine wpList_push _ rfl (.tmp 94) (.tmp 96) 43 rfl M 86 _ 2 32 Tryz.underlying43 info_step rfl (by omega) (.slice A q c) q _ rfl hh [.bool false, .slice A' p c'] rfl _ (by first | rfl | simp) k4 (by intro u hu; simp at hu; rcases hu with rfl | rfl <;> rfl) k1 k2 k3 ?_); clear k1 k2 k3 k4; intro g9 c9 w9 own9 hg9 hgg9 hb9; have HS9 := Lib.hid ((HSx.out.alloc (.cells #[.bool false, .slice A' p c'] 86)).push (x := ((⟨false, pickL l (trues D)⟩ : StepR), Value.slice A' p c')) (by show World.ownsRow _ _ _ _ _ (pickL l (trues D)).length _; rw [HPl2.out]; exact own_alloc HFx.out _) (by rw [HLq.out]; exact own9) hg9); have HJ9 := Lib.hid (own_keepT (own_alloc HOj.out (.cells #[.bool false, .slice A' p c'] 86)) hh hg9 (by decide)); have HB9 := Lib.hid ((HBMx.out.alloc hMx (.cells #[.bool false, .slice A' p c'] 86)).trans hb9); clear hh own9 hg9 hgg9 hb9))
              go_roundw
              case rel => exact ⟨L ++ [((⟨false, pickL l (trues D)⟩ : StepR), Value.slice A' p c')], Cs ++ [trues D], cutL lc D j, _, _, q + 1, rfl, Lib.hid (by rw [List.length_append, HLq.out]; rfl), Lib.hid (by have := HS9.out; rw [List.length_append, HLq.out] at this; exact this), HJ9, Lib.hid (by rw [cutL_len]; exact HlcN.out), HStN, HNe, HB9, Lib.hid (by have := HLess.out; have := HcT.out; omega)⟩
              case measure =>
                rw [truesW_of HJ9.out, HMea.out]
                exact HLess.out

end Go.Proofs.YtbhildmalcfhiaaGreatDoor

namespace Go.Proofs.YtbhildmalcfhiaaGreatDoor
open Go.RowKit Go.Deep

def SortPost (B : Nat) (v : Value) (L : List (List UInt8)) (w : World) (e : Ending) (w' : World) : Prop :=
  e = .returned (.tuple #[]) ∧ w'.ownsRow B 9 1 v L.length (strCells (L.mergeSort fun x y => decide (x ≤ y))) ∧ w.grownBy w' v.ownBlock
theorem sortS_q (B : Nat) (v : Value) (L : List (List UInt8)) (w : World) (h : w.ownsRow B 9 1 v L.length (strCells L)) (hl : L.length ≤ 1048576) : Calls Tryz.prog 117 #[v] w (SortPost B v L w) := by
  rcases h.2 with ⟨rfl, h0⟩ | ⟨g, cap, cur, rfl, hB, hg, hnc, hm, hsz, htake⟩
  · obtain rfl : L = [] := List.eq_nil_of_length_eq_zero (by simpa using h0)
    refine (Tryz.sort_Strings_none none 0 w).mono fun e w' ⟨he, hw⟩ => ?_
    subst hw
    exact ⟨he, by simpa using h, grown_below (Below.refl _ _)⟩
  · have hgl : g < w.heap.size := (Array.getElem?_eq_some_iff.1 hg).1
    refine (Tryz.sort_Strings g 0 cap L w (holds_of_block hg (by rw [Nat.mul_one] at htake; simpa [strCells] using htake)) hgl (by omega)).mono fun e w' ⟨he, n, os, hw⟩ => ?_
    subst hw
    have hl2 : (L.mergeSort fun x y => decide (x ≤ y)).length = L.length := List.length_mergeSort _
    exact ⟨he, ownsRow_sorted hl2 hB hg hnc hm (by simpa using hsz), grownBy_sorted _⟩

end Go.Proofs.YtbhildmalcfhiaaGreatDoor

namespace Go.Proofs.YtbhildmalcfhiaaGreatDoor
open Go.RowKit Go.Deep Go.Maps Go.WideMaps

/-- block r ranges over the map in block b, which holds what f says; left: the keys that are to come -/
def RngB (P : Program) (k e : TypeId) (w : World) (b r n : Nat) (f : List UInt8 → Option Bool) (left : List UInt8 → Bool) (cnt : Nat) : Prop :=
  ∃ (D : DataW Unit) (lf : Lit → Bool), w.ranges P k (plainElem P e) b r n D lf cnt ∧ (∀ s z, D.atKey (.string s) z = atL Lit.bool (f s) z) ∧ ∀ s, lf (.string s) = left s

section
variable {P : Program} {k e : TypeId} {w : World} {b r n cnt : Nat} {f : List UInt8 → Option Bool} {left : List UInt8 → Bool}
theorem RngB.kept {w' : World} {row : Option Nat} (h : RngB P k e w b r n f left cnt) (hg : w.grownBy w' row) (hb : some b ≠ row) (hr : some r ≠ row) : RngB P k e w' b r n f left cnt := by
  obtain ⟨D, lf, h1, h2, h3⟩ := h
  exact ⟨D, lf, h1.kept hg hb hr, h2, h3⟩
theorem RngB.alloc (h : RngB P k e w b r n f left cnt) (o : Obj) : RngB P k e (w.alloc o) b r n f left cnt := h.kept (World.grownBy_alloc w o none) (by simp) (by simp)
theorem RngB.lt (h : RngB P k e w b r n f left cnt) : r < w.heap.size := by obtain ⟨D, lf, h1, _⟩ := h; exact h1.lt
theorem RngB.owns (h : RngB P k e w b r n f left cnt) : BMap P k e w b n f := by obtain ⟨D, lf, h1, h2, _⟩ := h; exact ⟨D, h1.owns, h2⟩
theorem RngB.left_eq (h : RngB P k e w b r n f left cnt) : w.rangeLeft b r = cnt := by obtain ⟨D, lf, h1, _⟩ := h; exact h1.left_eq
end

theorem plainElem_bool_inv {P : Program} {e : TypeId} {v : Value} {y : DataW Unit × List MemPlace} (he : P.underlying e = some .bool) (h : plainElem (H := Unit) P e v = some y) : ∃ c, v = .bool c ∧ y = (.lit (.bool c), []) := by
  unfold plainElem at h
  rw [he] at h
  cases v <;> simp at h
  exact ⟨_, rfl, h.symm⟩
section
variable {P : Program} {k e : TypeId} {w : World} {b n : Nat} {f : List UInt8 → Option Bool} {ops : Array Oper} {rest : List Oper} {o : Oper} {a : Act} {Q : Exit → Act → World → Prop}
theorem wpList_rangeB (hg : o.guard = none) (m : Operand) (t : TypeId) (hop : o.op = Op.range t m) (hk : P.underlying k = some .string) (ht : P.underlying t = some (.map k e)) (hm : a.eval m = .map (some b)) (h : BMap P k e w b n f)
    (hK : ∀ w' cnt, RngB P k e w' b w.heap.size n f (fun s => (f s).isSome) cnt → cnt ≤ n → w.grownBy w' none → w'.heap.size = w.heap.size + 1 → wpList P ops Q rest (a.put o.dst (.pointer (some ⟨w.heap.size, 0, none⟩))) w') : wpList P ops Q (o :: rest) a w := by
  obtain ⟨D, h1, h2⟩ := h
  refine wpList_range_own w hg m t hop k e (string_keyed hk) ht (plainElem P e) b n D hm h1 (fun w' hr hgr hs => hK w' _ ⟨D, _, hr, h2, fun s => ?_⟩ h1.size_le hgr hs)
  show Maps.has D (.string s) = (f s).isSome
  cases hf : f s with
  | none => exact Maps.has_false_of_atKey (fun z => by rw [h2, hf]; rfl)
  | some x => exact Maps.has_true_of_atKey (y := .lit (.bool x)) (fun z => by rw [h2, hf]; rfl)
theorem wpList_nextB (hg : o.guard = none) (it : Operand) (hop : o.op = Op.next it false) (hk : P.underlying k = some .string) (he : P.underlying e = some .bool) (r cnt : Nat) (left : List UInt8 → Bool) (hit : a.eval it = .pointer (some ⟨r, 0, none⟩)) (h : RngB P k e w b r n f left cnt)
    (hDone : cnt = 0 → (∀ s, left s = false) → wpList P ops Q rest (a.put o.dst (.tuple #[.bool false])) w)
    (hMore : ∀ (x : ByteArray) (c : Bool) (w' : World) (cnt' : Nat), x.size ≤ maxLen → left x.data.toList = true → f x.data.toList = some c → RngB P k e w' b r n f (fun s => left s && !(s == x.data.toList)) cnt' → cnt' < cnt →
      w.grownBy w' (some r) → w'.heap.size = w.heap.size → (Instr.entry (.pointer (some ⟨r, 0, none⟩))).run P w' = .ok (.tuple #[.string x, .bool c]) w' → wpList P ops Q rest (a.put o.dst (.tuple #[.bool true, .string x, .bool c])) w') : wpList P ops Q (o :: rest) a w := by
  obtain ⟨D, lf, h1, h2, h3⟩ := h
  have invK : ∀ key kl, keyOf P k key = some kl → ∃ x : ByteArray, key = Value.string x := by
    intro key kl hkey
    obtain ⟨x, hx, _, _⟩ := Maps.keyOf_str hk hkey
    exact ⟨⟨x.toArray⟩, hx⟩
  refine wpList_next_ranges w hg it hop k (string_keyed hk) (plainElem P e) Value.string Value.bool invK (fun v y hv => by obtain ⟨c, rfl, _⟩ := plainElem_bool_inv he hv; exact ⟨c, rfl⟩)
    b r n D lf cnt hit h1 (fun h0 hl => hDone h0 (fun s => by rw [← h3]; exact hl _)) (fun x c kl y w' cnt' hkey hlk hv hat hrg hlt hgr hsz hen => ?_)
  obtain ⟨x', hx', rfl, hxl⟩ := Maps.keyOf_str hk hkey
  have hxe : x.data.toList = x' := by
    have h5 : x = ⟨x'.toArray⟩ := by simpa using hx'
    rw [h5]
  obtain ⟨c', hc', rfl⟩ := plainElem_bool_inv he hv
  have hce : c = c' := by simpa using hc'
  subst hce
  have hf : f x' = some c := by
    cases hf : f x' with
    | none =>
      have h6 := hat .nil
      rw [h2, hf] at h6
      cases h6
    | some z =>
      have h6 := hat .nil
      rw [h2, hf] at h6
      simp only [atL, DataW.lit.injEq, Lit.bool.injEq] at h6
      rw [h6]
  have hxs : x.size ≤ maxLen := by
    have h9 : x.size = x.data.toList.length := by rw [Array.length_toList]; rfl
    rw [h9, hxe]; exact hxl
  refine hMore x c w' cnt' hxs (by rw [← h3, hxe]; exact hlk) (by rw [hxe]; exact hf) ⟨D, _, hrg, h2, fun s => ?_⟩ hlt hgr hsz hen
  rw [h3, hxe]
  rfl
end

end Go.Proofs.YtbhildmalcfhiaaGreatDoor

namespace Go.Proofs.YtbhildmalcfhiaaGreatDoor
open Go.RowKit Go.Deep Go.Maps Go.WideMaps

theorem entries_str {H : Type} {P : Program} {k : TypeId} {R : Value → Option (DataW H × List MemPlace)} {w : World} {b n : Nat} {D : DataW H} (h : w.ownsMap P k R b n D) (hk : P.underlying k = some .string) :
    ∃ es : List (Lit × DataW H), D = .map es ∧ (es.map (·.1)).Nodup ∧ ∀ p ∈ es, ∃ s, p.1 = Lit.string s := by
  obtain ⟨es0, hD0, hp0, _⟩ := h.entries (string_keyed hk)
  refine ⟨es0, hD0, ?_, ?_⟩
  · rw [List.nodup_iff_pairwise_ne, List.pairwise_map]
    exact hp0
  · obtain ⟨es, clock, _, F, _, hD⟩ := h
    rw [hD0] at hD
    intro p hp
    have hp2 : p ∈ (es.toList.map (Go.WideElems.rg P k R)).foldr DataW.insert [] := by
      have : es0 = (es.toList.map (Go.WideElems.rg P k R)).foldr DataW.insert [] := by cases hD; rfl
      rw [← this]; exact hp
    obtain ⟨x, hx, rfl⟩ := List.mem_map.1 (mem_sorted.1 hp2)
    obtain ⟨y, hy⟩ := F.reads x hx
    rw [Go.WideElems.rg_of hy]
    obtain ⟨x', _, h2, _⟩ := Maps.keyOf_str hk (Go.WideElems.rd_key hy)
    exact ⟨_, h2⟩
section
variable {α : Type} {lit : α → Lit} {P : Program} {k e : TypeId} {w : World} {b n : Nat} {f : List UInt8 → Option α}
/-- len(m) -/
theorem MapR.count (h : MapR lit P k e w b n f) (hk : P.underlying k = some .string) {t : TypeId} (ht : P.underlying t = some (.map k e)) {L : List (List UInt8)} (hL : L.Nodup) (hf : ∀ s, (f s).isSome = true ↔ s ∈ L) (ty : TypeId) :
    (Builtin.len_ #[t] ty #[.map (some b)]).run P w = .ok (.int .i64 (L.length : Nat)) w := by
  obtain ⟨D, h1, h2⟩ := h
  rw [h1.len ht ty]
  have key : Maps.size D = L.length := by
    obtain ⟨es, rfl, hn, hs⟩ := entries_str h1 hk
    have hmem : ∀ x : Lit, x ∈ es.map (·.1) ↔ x ∈ L.map Lit.string := fun x => by
      constructor
      · intro hx
        obtain ⟨p, hp, rfl⟩ := List.mem_map.1 hx
        obtain ⟨s, hps⟩ := hs p hp
        rw [hps]
        refine List.mem_map.2 ⟨s, (hf s).1 ?_, rfl⟩
        cases hfs : f s with
        | some a => rfl
        | none =>
          have h3 : Maps.has (DataW.map es) (.string s) = false := Maps.has_false_of_atKey (fun z => by rw [h2, hfs]; rfl)
          rw [Maps.has_eq, List.any_eq_false] at h3
          have h4 := h3 p hp
          rw [hps, WideAt.sameKey_self (show WideAt.IsKeyLit (.string s) from True.intro)] at h4
          exact absurd rfl h4
      · intro hx
        obtain ⟨s, hsL, rfl⟩ := List.mem_map.1 hx
        have h3 := (hf s).2 hsL
        cases hfs : f s with
        | none => rw [hfs] at h3; cases h3
        | some a =>
          have h4 : Maps.has (DataW.map es) (.string s) = true := Maps.has_true_of_atKey (y := .lit (lit a)) (fun z => by rw [h2, hfs]; rfl)
          rw [Maps.has_eq, List.any_eq_true] at h4
          obtain ⟨p, hp, h5⟩ := h4
          exact List.mem_map.2 ⟨p, hp, WideAt.sameKey_eq h5⟩
    have hn2 : (L.map Lit.string).Nodup := by
      rw [List.nodup_iff_pairwise_ne, List.pairwise_map]
      exact (List.nodup_iff_pairwise_ne.1 hL).imp (fun h e => h (by cases e; rfl))
    have hp := (List.perm_ext_iff_of_nodup hn hn2).2 hmem
    have := hp.length_eq
    rw [List.length_map, List.length_map] at this
    exact this
  rw [key]
end

end Go.Proofs.YtbhildmalcfhiaaGreatDoor

namespace Go.Proofs.YtbhildmalcfhiaaGreatDoor
open Go.RowKit Go.Deep

/-- members of S before a are done, and m references of member a -/
structure CloS (tos : Nat → List Nat) (left : Nat → Bool) (i : Nat) (S : List Nat) (a m : Nat) : Prop where
  head : i ∈ S
  nodup : S.Nodup
  rch : ∀ k ∈ S, Reach tos left i k
  done : ∀ j k, j < a → S[j]? = some k → ∀ n ∈ tos k, left n = true → n ∈ S
  now : ∀ k, S[a]? = some k → ∀ n ∈ (tos k).take m, left n = true → n ∈ S
section
variable {tos : Nat → List Nat} {left : Nat → Bool} {i : Nat} {S : List Nat} {a m : Nat}
theorem CloS.start (tos : Nat → List Nat) (left : Nat → Bool) (i : Nat) : CloS tos left i [i] 0 0 :=
  ⟨by simp, by simp, fun k hk => by rw [List.mem_singleton.1 hk]; exact .here, fun j k hj => absurd hj (by omega), fun k _ n hn => by simp at hn⟩
theorem CloS.same {k n : Nat} (h : CloS tos left i S a m) (hk : S[a]? = some k) (hn : (tos k)[m]? = some n) (hl : left n = true → n ∈ S) : CloS tos left i S a (m + 1) :=
  ⟨h.head, h.nodup, h.rch, h.done, fun k' hk' x hx hxl => by
    rw [hk] at hk'; cases hk'
    rw [List.take_add_one, hn, List.mem_append] at hx
    rcases hx with hx | hx
    · exact h.now k hk x hx hxl
    · simp only [Option.toList_some, List.mem_singleton] at hx
      subst hx
      exact hl hxl⟩
theorem CloS.add {k n : Nat} (h : CloS tos left i S a m) (hk : S[a]? = some k) (hn : (tos k)[m]? = some n) (hl : left n = true) (hs : n ∉ S) : CloS tos left i (S ++ [n]) a (m + 1) := by
  have hlt := (List.getElem?_eq_some_iff.1 hk).1
  refine ⟨List.mem_append_left _ h.head, ?_, fun x hx => ?_, fun j k' hj hk' x hx hxl => ?_, fun k' hk' x hx hxl => ?_⟩
  · rw [List.nodup_append]
    exact ⟨h.nodup, by simp, fun x hx y hy e => by rw [List.mem_singleton.1 hy] at e; rw [e] at hx; exact hs hx⟩
  · rcases List.mem_append.1 hx with hx | hx
    · exact h.rch x hx
    · rw [List.mem_singleton.1 hx]
      exact .step (h.rch k (List.mem_of_getElem? hk)) (List.mem_of_getElem? hn) hl
  · rw [List.getElem?_append_left (by omega)] at hk'
    exact List.mem_append_left _ (h.done j k' hj hk' x hx hxl)
  · rw [List.getElem?_append_left hlt, hk] at hk'
    cases hk'
    rw [List.take_add_one, hn, List.mem_append] at hx
    rcases hx with hx | hx
    · exact List.mem_append_left _ (h.now k hk x hx hxl)
    · simp only [Option.toList_some, List.mem_singleton] at hx
      subst hx
      simp
theorem CloS.row {k : Nat} (h : CloS tos left i S a m) (hk : S[a]? = some k) (hm : (tos k).length ≤ m) : CloS tos left i S (a + 1) 0 :=
  ⟨h.head, h.nodup, h.rch, fun j k' hj hk' x hx hxl => by
    by_cases e : j = a
    · subst e
      rw [hk] at hk'; cases hk'
      exact h.now k hk x (by rw [List.take_of_length_le hm]; exact hx) hxl
    · exact h.done j k' (by omega) hk' x hx hxl, fun k' _ x hx => by simp at hx⟩
theorem CloS.fin (h : CloS tos left i S a 0) (ha : S.length ≤ a) (k : Nat) : k ∈ S ↔ Reach tos left i k := by
  refine reach_iff (S := fun j => j ∈ S) h.head (fun x n hx hn hl => ?_) h.rch k
  obtain ⟨j, hj⟩ := List.getElem?_of_mem hx
  exact h.done j x (by have := (List.getElem?_eq_some_iff.1 hj).1; omega) hj n hn hl
end
theorem nodup_len : ∀ (N : Nat) (S : List Nat), S.Nodup → (∀ x ∈ S, x < N) → S.length ≤ N
  | 0, S, _, h => by
    cases S with
    | nil => exact Nat.le_refl _
    | cons a r => exact absurd (h a (by simp)) (by omega)
  | N + 1, S, hn, h => by
    have h1 := nodup_len N (S.filter (fun x => decide (x ≠ N))) (hn.filter _) (fun x hx => by
      rw [List.mem_filter, decide_eq_true_eq] at hx
      have := h x hx.1
      omega)
    have h2 : ∀ T : List Nat, T.Nodup → T.length ≤ (T.filter (fun x => decide (x ≠ N))).length + 1 := by
      intro T hT
      induction T with
      | nil => simp
      | cons a r ih =>
        obtain ⟨h3, h4⟩ := List.nodup_cons.1 hT
        by_cases e : a = N
        · subst e
          have : r.filter (fun x => decide (x ≠ a)) = r := List.filter_eq_self.2 (fun x hx => by rw [decide_eq_true_eq]; exact fun e => h3 (e ▸ hx))
          rw [List.filter_cons_of_neg (by simp), this]; simp
        · have := ih h4
          rw [List.filter_cons_of_pos (by simpa using e), List.length_cons, List.length_cons]
          omega
    have := h2 S hn
    omega

/-- the path of output k -/
def pathA (l : List OutV) (k : Nat) : ByteArray := ((l[k]?).map (·.path)).getD ⟨#[]⟩
def pathK (l : List OutV) (k : Nat) : List UInt8 := (pathA l k).data.toList
theorem pathA_at {l : List OutV} {k : Nat} {o : OutV} (h : l[k]? = some o) : pathA l k = o.path := by rw [pathA, h]; rfl
/-- the paths rise -/
def RiseP (l : List OutV) : Prop := ∀ a b, a < b → b < l.length → pathK l a < pathK l b
theorem RiseP.inj {l : List OutV} (h : RiseP l) {a b : Nat} (ha : a < l.length) (hb : b < l.length) (e : pathK l a = pathK l b) : a = b := by
  rcases Nat.lt_trichotomy a b with h1 | h1 | h1
  · have := h a b h1 hb; rw [e] at this; exact absurd this (List.lt_irrefl _)
  · exact h1
  · have := h b a h1 ha; rw [e] at this; exact absurd this (List.lt_irrefl _)
theorem RiseP.le_iff {l : List OutV} (h : RiseP l) {a b : Nat} (ha : a < l.length) (hb : b < l.length) : decide (a ≤ b) = decide (pathK l a ≤ pathK l b) := by
  rw [Bool.eq_iff_iff, decide_eq_true_eq, decide_eq_true_eq]
  constructor
  · intro h1
    rcases Nat.lt_or_ge a b with h2 | h2
    · exact List.le_of_lt (h a b h2 hb)
    · have : a = b := by omega
      subst this; exact List.le_refl _
  · intro h1
    rcases Nat.lt_or_ge b a with h2 | h2
    · exact absurd (h b a h2 ha) (List.not_lt.2 h1)
    · exact h2
/-- the sorted paths of what is reached: the closure's paths -/
theorem clo_sorted {l : List OutV} {tos : Nat → List Nat} {left : Nat → Bool} {i : Nat} {S : List Nat} (h : RiseP l) (hn : S.Nodup) (hl : ∀ x ∈ S, x < l.length) (hr : ∀ k, k ∈ S ↔ Reach tos left i k) :
    ∃ C, IsClo tos left i C ∧ C.length = S.length ∧ (S.map (pathK l)).mergeSort (fun x y => decide (x ≤ y)) = C.map (pathK l) := by
  refine ⟨S.mergeSort (fun a b => decide (a ≤ b)), ⟨?_, fun k => ?_⟩, List.length_mergeSort _, ?_⟩
  · have h1 : (S.mergeSort (fun a b => decide (a ≤ b))).Pairwise (fun a b => decide (a ≤ b) = true) := List.pairwise_mergeSort (fun a b c h1 h2 => by simp at h1 h2 ⊢; omega) (fun a b => by simp; omega) S
    have h2 : (S.mergeSort (fun a b => decide (a ≤ b))).Nodup := (List.mergeSort_perm S _).nodup_iff.2 hn
    rw [List.nodup_iff_pairwise_ne] at h2
    exact (h1.and h2).imp (fun ⟨h3, h4⟩ => by simp at h3; omega)
  · rw [List.mem_mergeSort]; exact hr k
  · exact (List.map_mergeSort (fun a ha b hb => h.le_iff (hl a ha) (hl b hb))).symm

end Go.Proofs.YtbhildmalcfhiaaGreatDoor

namespace Go.Proofs.YtbhildmalcfhiaaGreatDoor
open Go.RowKit Go.Deep

/-- the planner in memory -/
structure PlanIn (w : World) (xb mr ml : Nat) (l : List OutV) (tos : Nat → List Nat) (left : Nat → Bool) : Prop where
  box : CB w xb 82 #[.map (some mr), .map (some ml)]
  refs : ∃ (nr : Nat) (fr : List UInt8 → Option Value), VMap Tryz.prog 9 w mr nr fr ∧ ∀ k, left k = true → ∃ v, fr (pathK l k) = some v ∧ PL w v ((tos k).map (pathA l))
  lefts : ∃ (nl : Nat) (fl : List UInt8 → Option Bool), BMap Tryz.prog 9 4 w ml nl fl ∧ (∀ k, k < l.length → fl (pathK l k) = if left k = true then some true else none) ∧ ∀ s x, fl s = some x → ∃ k, k < l.length ∧ s = pathK l k
  lt : ∀ k, left k = true → k < l.length ∧ ∀ n ∈ tos k, n < l.length
theorem PlanIn.below {w w' : World} {xb mr ml : Nat} {l : List OutV} {tos : Nat → List Nat} {left : Nat → Bool} (h : PlanIn w xb mr ml l tos left) (hb : Below w.heap.size w w') : PlanIn w' xb mr ml l tos left := by
  obtain ⟨h1, ⟨nr, fr, h2, h3⟩, ⟨nl, fl, h4, h5⟩, h6⟩ := h
  exact ⟨h1.below hb, ⟨nr, fr, h2.below hb, fun k hk => by obtain ⟨v, h7, h8⟩ := h3 k hk; exact ⟨v, h7, h8.keep (Keeps.of_below hb)⟩⟩, ⟨nl, fl, h4.below hb, h5⟩, h6⟩
theorem strK (l : List OutV) (S : List Nat) : strCells (S.map (pathK l)) = S.map fun k => Value.string (pathA l k) := by
  simp only [strCells, List.map_map]
  apply List.map_congr_left
  intro k _
  show Value.string ⟨(pathA l k).data.toList.toArray⟩ = _
  rw [mk_toList]
theorem own_fresh1 (w : World) (e : TypeId) (x : Value) : (w.alloc (.cells #[x] e)).ownsRow w.heap.size e 1 (.slice (some ⟨w.heap.size, 0, none⟩) 1 1) 1 [x] :=
  ⟨rfl, Or.inr ⟨w.heap.size, 1, #[x], rfl, Nat.le_refl _, CB.new _ _ _, Nat.le_refl _, by simp [maxLen], rfl, rfl⟩⟩
/-- an own row is no map -/
theorem own_no_map {w : World} {B K n b : Nat} {e : TypeId} {v : Value} {xs : List Value} (h : w.ownsRow B e K v n xs) (hb : ∃ es clock, w.heap[b]? = some (.map es clock)) : v.ownBlock ≠ some b := fun e2 => by
  obtain ⟨cs, hc⟩ := own_type h e2
  obtain ⟨es, cl, hm⟩ := hb
  have := hc.symm.trans hm
  cases this
theorem own_mapTurn {w w' : World} {B K n b : Nat} {e : TypeId} {v : Value} {xs : List Value} (h : w.ownsRow B e K v n xs) (hb : ∃ es clock, w.heap[b]? = some (.map es clock)) (ht : w.mapTurned w' b) : w'.ownsRow B e K v n xs :=
  own_keepX h (GrownX.of_grown (p := fun x => x = b) ht.grown (fun g hg => (Option.some.inj hg).symm)) (fun g hg e2 => by subst e2; exact own_no_map h hb hg)
theorem mapR_grown {α : Type} {lit : α → Lit} {P : Program} {k e e2 : TypeId} {w w' : World} {b n n2 B K : Nat} {f : List UInt8 → Option α} {v : Value} {xs : List Value} (hm : MapR lit P k e w b n f) (h : w.ownsRow B e2 K v n2 xs) (hg : w.grownBy w' v.ownBlock) : MapR lit P k e w' b n f :=
  hm.kept hg (fun e3 => own_no_map h hm.block e3.symm)
/-- the pages that are seen -/
def SeenAt (l : List OutV) (fs : List UInt8 → Option Bool) (S : List Nat) : Prop := ∀ k, k < l.length → (fs (pathK l k)).getD false = decide (k ∈ S)
theorem SeenAt.add {l : List OutV} {fs : List UInt8 → Option Bool} {S : List Nat} {n : Nat} (h : SeenAt l fs S) (hr : RiseP l) (hn : n < l.length) : SeenAt l (putF fs (pathK l n) true) (S ++ [n]) := fun k hk => by
  by_cases e : k = n
  · subst e; rw [putF_same]; simp
  · rw [putF_ne _ _ (fun e2 => e (hr.inj hk hn e2)), h k hk]; simp [e]
def CloPPost (l : List OutV) (tos : Nat → List Nat) (left : Nat → Bool) (i : Nat) (w : World) (e : Ending) (w' : World) : Prop :=
  ∃ (C : List Nat) (A : Option Addr) (c : Nat), IsClo tos left i C ∧ e = .returned (.slice A C.length c) ∧ w'.ownsRow w.heap.size 9 1 (.slice A C.length c) C.length (strCells (C.map (pathK l))) ∧ Below w.heap.size w w'

set_option maxRecDepth 100000 in
set_option maxHeartbeats 8000000 in
theorem closureP_q (l : List OutV) (tos : Nat → List Nat) (left : Nat → Bool) (i xb mr ml : Nat) (w : World) (h : PlanIn w xb mr ml l tos left) (hi : left i = true) (hr : RiseP l) (hz : ∀ k, (pathA l k).size ≤ 200) (hl : l.length ≤ 480) :
    Calls Tryz.prog 76 #[.pointer (some ⟨xb, 0, none⟩), .string (pathA l i)] w (CloPPost l tos left i w) := by
  have HP := Lib.hid h
  have HR := Lib.hid hr
  have HZ := Lib.hid hz
  have HLt := Lib.hid h.lt
  have HLf := Lib.hid (fun k (hk : Reach tos left i k) => hk.isLeft hi)
  obtain ⟨N, hN⟩ : ∃ N, l.length = N := ⟨_, rfl⟩
  have HN := Lib.hid hN
  rw [hN] at hl
  obtain ⟨K, hK⟩ : ∃ K, w.heap.size = K := ⟨_, rfl⟩
  have HK := Lib.hid hK
  have hpi := hz i
  obtain ⟨pg, hpg⟩ : ∃ p, pathA l i = p := ⟨_, rfl⟩
  rw [hpg] at hpi ⊢
  obtain ⟨w2, hins, hmap, htn⟩ := (mapR_made (lit := Lit.bool) (P := Tryz.prog) (k := 9) (e := 4) w).store (t := 77) Tryz.underlying9 Tryz.underlying77 (by unfold maxLen; omega) (s := pg) (by unfold maxLen; omega) (plainElem_bool Tryz.underlying4 true)
  rw [hK] at hins hmap htn
  have HMp := Lib.hid hmap
  have HB2 := Lib.hid (show Below K w w2 from ((Below.refl K w).alloc (by omega) _).trans (turned_below htn (Nat.le_refl _) (by rw [World.size_alloc]; omega)))
  have HSz := Lib.hid (show K < w2.heap.size from hmap.lt)
  clear hmap htn h hi hz hr hN
  have hmm := @run_makeMap Tryz.prog
  go_enter Tryz.func76, Tryz.ntmps76
  go_wp2_with fail
  have hKw : K ≤ w.heap.size := by omega
  have HO0 := Lib.hid (show (w2.alloc (.cells #[.string pg] 9)).ownsRow K 9 1 (.slice (some ⟨w2.heap.size, 0, none⟩) 1 1) 1 (strCells ([i].map (pathK l))) by
    rw [strK, List.map_cons, List.map_nil, hpg]
    exact own_lowP (own_fresh1 w2 _ _) (by have := HSz.out; omega))
  have HS0 := Lib.hid (show SeenAt l (putF (fun _ => none) pg.data.toList true) [i] from fun k hk => by
    have := SeenAt.add (fs := fun _ => none) (S := []) (fun k _ => by simp) HR.out (n := i) (HLt.out i (HLf.out i .here)).1 k hk
    rw [show pathK l i = pg.data.toList by rw [pathK, hpg]] at this
    exact this)
  have HBw := Lib.hid (HB2.out.alloc (by have := HSz.out; omega) (.cells #[.string pg] 9))
  have HPw := Lib.hid (show ∀ wr, Below K w wr → PlanIn wr xb mr ml l tos left from fun wr hb => by rw [← hK] at hb; exact HP.out.below hb)
  have HM0 := Lib.hid (HMp.out.alloc (.cells #[.string pg] 9))
  have HPg := Lib.hid hpg
  clear hmm hins hK hpg
  go_loopw [6, 7] (fun t6 t7 wr => ∃ (a : Nat) (S : List Nat) (A : Option Addr) (c q : Nat) (fs : List UInt8 → Option Bool), t6 = .slice A q c ∧ t7 = .int .i64 a ∧ Hid (S.length = q) ∧ a ≤ q ∧ q ≤ N ∧ Hid (CloS tos left i S a 0) ∧ Hid (wr.ownsRow K 9 1 (.slice A q c) q (strCells (S.map (pathK l)))) ∧ Hid (BMap Tryz.prog 9 4 wr K q fs) ∧ Hid (SeenAt l fs S) ∧ Hid (Below K w wr)) (fun _ t7 _ => N - (intOf t7).toNat)
  case atStart => exact ⟨0, [i], _, 1, 1, _, rfl, rfl, rfl, Nat.zero_le _, by have := (HLt.out i (HLf.out i .here)).1; have := HN.out; omega, CloS.start _ _ _, HO0, HM0, HS0, HBw⟩
  case round =>
    clear HO0 HM0 HS0 HBw HMp HB2 HSz
    obtain ⟨a, S, A, c, q, fs, rfl, rfl, HSq, haq, hqN, HCl, HO, HM, HSe, HB⟩ := hrel
    obtain ⟨wo, rfl⟩ : ∃ wo : World, wo = wr := ⟨_, rfl⟩
    by_cases hlt : a < q
    · obtain ⟨k, hk⟩ : ∃ k, S[a]? = some k := ⟨_, List.getElem?_eq_getElem (by rw [HSq.out]; exact hlt)⟩
      have hkl := HLf.out k (HCl.out.rch k (List.mem_of_getElem? hk))
      obtain ⟨g, rfl⟩ : ∃ g, A = some ⟨g, 0, none⟩ := by
        obtain ⟨A', c', hv, _, _, hA⟩ := own_form HO.out
        cases hv
        obtain ⟨g, hg, _⟩ := hA (by omega)
        exact ⟨g, hg⟩
      have hlt2 : (a : Int) < (q : Int) := by omega
      have y0 : wo.cell? ⟨g, a, none⟩ = some (.string (pathA l k)) := own_cell HO.out (by rw [strK]; simp [hk])
      obtain ⟨b1, _, _, _⟩ := HPw.out wo HB.out
      obtain ⟨nr, fr, b2, b3⟩ := HP.out.refs
      obtain ⟨v, hv, hpl⟩ := b3 k hkl
      have hzk := HZ.out k
      have hrun : ∀ q, (Instr.lookup 80 (.map (some mr)) (.string (pathA l k)) false).run Tryz.prog (wo.drewN q) = .ok v (wo.drewN q) := fun q => by
        have := ((b2.below (by rw [HK.out]; exact HB.out)).drewN q).look Tryz.underlying9 Tryz.underlying80 (s := pathA l k) (by unfold maxLen; omega) (show (zeroValue 23).run Tryz.prog (wo.drewN q) = .ok (.slice none 0 0) (wo.drewN q) by kernel_rfl)
        rw [show fr (pathA l k).data.toList = some v from hv] at this
        exact this
      have x0 : wo.cell? ⟨xb, 0, none⟩ = some (.map (some mr)) := b1.c 0
      have HHk := Lib.hid hk
      obtain ⟨Ar, cr, br, orr, rfl, hrc, hrm, hrA, hrcell⟩ := hpl
      rw [List.length_map] at hrc hrun
      rw [List.length_map] at hv
      have HRA := Lib.hid hrA; have HRC := Lib.hid hrcell
      obtain ⟨M, hM⟩ : ∃ M, (tos k).length = M := ⟨_, rfl⟩
      rw [hM] at hrc hrun hv
      have HMe := Lib.hid hM
      unfold maxLen at hrm
      clear hk hM b1 b2 b3 hrA hrcell hv
      obtain ⟨pk, hpk⟩ : ∃ p, pathA l k = p := ⟨_, rfl⟩
      rw [hpk] at y0 hrun hzk
      clear hpk
      go_wp2_with fail
      go_quiet (fail)
      obtain ⟨W, hW⟩ : ∃ W, wo.drewN nq = W := ⟨_, rfl⟩
      have HO1 := Lib.hid (show W.ownsRow K 9 1 (.slice (some ⟨g, 0, none⟩) q c) q (strCells (S.map (pathK l))) by rw [← hW]; exact own_drewN HO.out _)
      have HM1 := Lib.hid (show BMap Tryz.prog 9 4 W K q fs by rw [← hW]; exact HM.out)
      have HB1 := Lib.hid (show Below K w W by rw [← hW]; exact Below.drewN' HB.out _)
      rw [hW]
      clear hW y0 hrun x0 HO HM HB
      go_wp2_with fail
      go_loopw [6, 31] (fun t6 t31 wr => ∃ (m : Nat) (S : List Nat) (A : Option Addr) (c q : Nat) (fs : List UInt8 → Option Bool), t6 = .slice A q c ∧ t31 = .int .i64 m ∧ m ≤ M ∧ Hid (S.length = q) ∧ a < q ∧ q ≤ N ∧ Hid (CloS tos left i S a m) ∧ Hid (S[a]? = some k) ∧ Hid (wr.ownsRow K 9 1 (.slice A q c) q (strCells (S.map (pathK l)))) ∧ Hid (BMap Tryz.prog 9 4 wr K q fs) ∧ Hid (SeenAt l fs S) ∧ Hid (Below K w wr)) (fun _ t31 _ => M - (intOf t31).toNat)
      case atStart => exact ⟨0, S, _, c, q, fs, rfl, rfl, Nat.zero_le _, HSq, hlt, hqN, HCl, HHk, HO1, HM1, HSe, HB1⟩
      case round =>
        clear HO1 HM1 HSe HB1 HCl HSq HHk hqN hlt haq hlt2
        clear S fs
        obtain ⟨m, S, A, c, q, fs, rfl, rfl, hm, HSq, haq, hqN, HCl, HHk, HO, HM, HSe, HB⟩ := hrel
        obtain ⟨wx, rfl⟩ : ∃ wx : World, wx = wr := ⟨_, rfl⟩
        by_cases hmt : m < M
        · obtain ⟨n, hn⟩ : ∃ n, (tos k)[m]? = some n := ⟨_, List.getElem?_eq_getElem (by rw [HMe.out]; exact hmt)⟩
          have hnl := (HLt.out k hkl).2 n (List.mem_of_getElem? hn)
          obtain rfl : Ar = some ⟨br, orr, none⟩ := by
            rcases HRA.out with h | h
            · omega
            · exact h
          have p0 : wx.cell? ⟨br, orr + m, none⟩ = some (.string (pathA l n)) := Keeps.of_below (by rw [HK.out]; exact HB.out) _ _ (HRC.out m _ (by simp [hn]))
          have hzn := HZ.out n
          have hmt2 : (m : Int) < (M : Int) := by omega
          obtain ⟨b1, _, ⟨nl, fl, b4, b5, _⟩, _⟩ := HPw.out wx HB.out
          have x1 : wx.cell? ⟨xb, 1, none⟩ = some (.map (some ml)) := b1.c 1
          have HRL := Lib.hid (show (Instr.lookup 77 (.map (some ml)) (.string (pathA l n)) false).run Tryz.prog wx = .ok (.bool (left n)) wx from by
            have h9 := bmap_look b4 (t := 77) Tryz.underlying9 Tryz.underlying4 Tryz.underlying77 (s := pathA l n) (by unfold maxLen; omega) (by kernel_rfl)
            rw [show fl (pathA l n).data.toList = _ from b5 n hnl] at h9
            rw [h9]
            cases left n <;> rfl)
          have HRS := Lib.hid (show (Instr.lookup 77 (.map (some K)) (.string (pathA l n)) false).run Tryz.prog wx = .ok (.bool (decide (n ∈ S))) wx from by
            have h9 := bmap_look HM.out (t := 77) Tryz.underlying9 Tryz.underlying4 Tryz.underlying77 (s := pathA l n) (by unfold maxLen; omega) (by kernel_rfl)
            rw [show (fs (pathA l n).data.toList).getD false = _ from HSe.out n hnl] at h9
            exact h9)
          have HNn := Lib.hid hn
          clear b1 b4 b5 hn
          obtain ⟨pn, hpn⟩ : ∃ p, pathA l n = p := ⟨_, rfl⟩
          have HPn := Lib.hid hpn
          rw [hpn] at p0 HRL HRS hzn
          clear hpn
          cases hl : left n with
          | false =>
            rw [hl] at HRL
            have HC2 := Lib.hid (HCl.out.same HHk.out HNn.out (fun h => by rw [hl] at h; cases h))
            clear hl
            go_wp2_with (at_lookup; go_loud (refine wpList_lookR rfl _ _ 77 false rfl pn _ rfl rfl HRL.out ?_))
            go_roundw
            case rel => exact ⟨m + 1, S, A, c, q, fs, rfl, by go_num, by omega, HSq, haq, hqN, HC2, HHk, HO, HM, HSe, HB⟩
            case measure => simp [intOf]; omega
          | true =>
            rw [hl] at HRL
            by_cases hs : n ∈ S
            · rw [decide_eq_true hs] at HRS
              have HC2 := Lib.hid (HCl.out.same HHk.out HNn.out (fun _ => hs))
              clear hl
              go_wp2_with (at_lookup; go_loud (first | (refine wpList_lookR rfl _ _ 77 false rfl pn _ rfl rfl HRL.out ?_) | (refine wpList_lookW (by go_simp) _ _ 77 false rfl pn _ rfl rfl HRS.out ?_)))
              go_roundw
              case rel => exact ⟨m + 1, S, A, c, q, fs, rfl, by go_num, by omega, HSq, haq, hqN, HC2, HHk, HO, HM, HSe, HB⟩
              case measure => simp [intOf]; omega
            · rw [decide_eq_false hs] at HRS
              have HC2 := Lib.hid (HCl.out.add HHk.out HNn.out hl hs)
              have hq1 : q + 1 ≤ N := by
                have h9 := nodup_len N _ HC2.out.nodup (fun x hx => by rw [← HN.out]; exact (HLt.out x (HLf.out x (HC2.out.rch x hx))).1)
                rw [List.length_append, HSq.out] at h9
                exact h9
              have HSe2 := Lib.hid (HSe.out.add HR.out hnl)
              have HHk2 := Lib.hid (show (S ++ [n])[a]? = some k by rw [List.getElem?_append_left (by rw [HSq.out]; exact haq)]; exact HHk.out)
              clear hl hs
              go_wp2_with (first
                | (at_lookup; go_loud (first | (refine wpList_lookR rfl _ _ 77 false rfl pn _ rfl rfl HRL.out ?_) | (refine wpList_lookW (by go_simp) _ _ 77 false rfl pn _ rfl rfl HRS.out ?_)))
                | (at_mapUpdate; go_loud (refine wpList_storeR rfl _ _ _ 77 rfl Tryz.underlying9 Tryz.underlying77 HM.out (by unfold maxLen; omega) rfl pn (by unfold maxLen; omega) _ true rfl rfl (plainElem_bool Tryz.underlying4 true) ?_; intro w4 hm4 ht4; have HM4 := Lib.hid hm4; have HO4 := Lib.hid (own_mapTurn HO.out HM.out.block ht4); have HB4 := Lib.hid (HB.out.trans (turned_below ht4 (Nat.le_refl _) (Nat.le_of_lt HM.out.lt))); clear hm4 ht4))
                | (at_builtin; go_loud (have hh := own_alloc HO4.out (.cells #[.string pn] 9); have k1 : (q + 1) * 16 ≤ 140737488355328 := (by omega); have k2 : q + 1 ≤ maxLen := (by unfold maxLen; omega); have k3 : K ≤ (World.alloc w4 (.cells #[.string pn] 9)).heap.size := (by have := HM4.out.lt; simp; omega); have k4 := cell_new w4 [.string pn] 9 (World.heap w4).size rfl; go_must (refine wpList_push _ rfl (.tmp 49) (.tmp 51) 23 rfl K 9 (.string ⟨#[]⟩) 1 16 Tryz.underlying23 info_strR rfl (by omega) (.slice A q c) q _ rfl hh [.string pn] rfl _ (by first | rfl | simp) k4 (one_str _) k1 k2 k3 ?_); clear k1 k2 k3 k4; intro g9 c9 w9 own9 hg9 hgg9 hb9; have HO9 := Lib.hid own9; have HM9 := Lib.hid (mapR_grown (HM4.out.alloc (.cells #[.string pn] 9)) hh hg9); have HB9 := Lib.hid ((HB4.out.alloc (Nat.le_of_lt HM4.out.lt) (.cells #[.string pn] 9)).trans hb9); clear hh own9 hg9 hgg9 hb9)))
              go_roundw
              case rel => exact ⟨m + 1, S ++ [n], _, _, q + 1, _, rfl, by go_num, by omega, Lib.hid (by rw [List.length_append, HSq.out]; rfl), by omega, hq1, HC2, HHk2, Lib.hid (by have := HO9.out; rw [strK] at this ⊢; rw [List.map_append, List.map_cons, List.map_nil, HPn.out]; exact this), HM9, Lib.hid (by rw [← HPn.out]; exact HSe2.out), HB9⟩
              case measure => simp [intOf]; omega
        · have HC2 := Lib.hid (HCl.out.row HHk.out (by rw [HMe.out]; omega))
          have hmt2 : ¬ (m : Int) < (M : Int) := by omega
          go_wp2_with fail
          go_roundw
          case rel => exact ⟨a + 1, S, A, c, q, fs, rfl, by go_num, HSq, by omega, hqN, HC2, HO, HM, HSe, HB⟩
          case measure => simp [intOf]; omega
    · have hae : a = q := by omega
      have hlt2 : ¬ (a : Int) < (q : Int) := by omega
      have HFi := Lib.hid (HCl.out.fin (by rw [HSq.out]; omega))
      obtain ⟨C, hC, hCl, hCs⟩ := clo_sorted HR.out HCl.out.nodup (fun x hx => (HLt.out x (HLf.out x (HCl.out.rch x hx))).1) HFi.out
      have HC := Lib.hid hC; have HCs := Lib.hid hCs; have HCl2 := Lib.hid (hCl.trans HSq.out)
      have HOq := Lib.hid (show wo.ownsRow K 9 1 (.slice A q c) (S.map (pathK l)).length (strCells (S.map (pathK l))) by rw [List.length_map, HSq.out]; exact HO.out)
      have HLe := Lib.hid (show (S.map (pathK l)).length ≤ 1048576 by rw [List.length_map, HSq.out]; omega)
      clear hC hCl hCs hae
      go_wp2_with (go_at_call 117; go_loud (refine (sortS_q K (.slice A q c) (S.map (pathK l)) _ HOq.out HLe.out).mono ?_; rintro e w8 ⟨rfl, own8, hg8⟩; rw [HCs.out] at own8; have HO8 := Lib.hid own8; have HB8 := Lib.hid (HB.out.trans (below_of_grown hg8 (by have := HM.out.lt; omega) (own_block_ge HO.out))); clear own8 hg8))
      go_ret
      exact ⟨C, A, c, HC.out, by rw [HCl2.out]; rfl, by rw [HK.out, HCl2.out]; have := HO8.out; rw [List.length_map, HSq.out] at this; exact this, by rw [HK.out]; exact HB8.out⟩

end Go.Proofs.YtbhildmalcfhiaaGreatDoor

namespace Go.Proofs.YtbhildmalcfhiaaGreatDoor
open Go.RowKit Go.Deep

/-- the least closure of what has been met -/
structure BestV (tf : Nat → List Nat) (left V : Nat → Bool) (ob : Option (List Nat)) : Prop where
  none_ : ob = none → ∀ j, left j = true → V j = false
  some_ : ∀ C, ob = some C → (∃ i, left i = true ∧ IsClo tf left i C) ∧ ∀ j D, left j = true → V j = true → IsClo tf left j D → C.length < D.length ∨ (C.length = D.length ∧ C.headD 0 ≤ D.headD 0)
section
variable {tf : Nat → List Nat} {left V V2 : Nat → Bool} {ob : Option (List Nat)} {k : Nat}
theorem BestV.start (h : ∀ j, left j = true → V j = false) : BestV tf left V none := ⟨fun _ => h, fun C h => by cases h⟩
theorem BestV.take (h : BestV tf left V ob) (hV : ∀ j, left j = true → V2 j = true → V j = true ∨ j = k) (hk : left k = true) {C : List Nat} (hC : IsClo tf left k C) (hb : ∀ D, ob = some D → C.length < D.length ∨ (C.length = D.length ∧ C.headD 0 ≤ D.headD 0)) : BestV tf left V2 (some C) :=
  ⟨(fun e => by cases e), fun C' e => by
    cases e
    refine ⟨⟨k, hk, hC⟩, fun j D hl hv hD => ?_⟩
    rcases hV j hl hv with h1 | h1
    · cases ho : ob with
      | none => have := h.none_ ho j hl; rw [h1] at this; cases this
      | some E =>
        have h2 := hb E ho
        have h3 := (h.some_ E ho).2 j D hl h1 hD
        omega
    · subst h1
      rw [hC.unique hD]
      exact Or.inr ⟨rfl, Nat.le_refl _⟩⟩
theorem BestV.pass {D : List Nat} (h : BestV tf left V (some D)) (hV : ∀ j, left j = true → V2 j = true → V j = true ∨ j = k) {C : List Nat} (hC : IsClo tf left k C) (hb : D.length < C.length ∨ (D.length = C.length ∧ D.headD 0 ≤ C.headD 0)) : BestV tf left V2 (some D) :=
  ⟨(fun e => by cases e), fun C' e => by
    cases e
    refine ⟨(h.some_ D rfl).1, fun j E hl hv hE => ?_⟩
    rcases hV j hl hv with h1 | h1
    · exact (h.some_ D rfl).2 j E hl h1 hE
    · subst h1
      rw [← hC.unique hE]; exact hb⟩
theorem BestV.best {C : List Nat} (h : BestV tf left V (some C)) (hV : ∀ j, left j = true → V j = true) : BestC tf left C :=
  ⟨(h.some_ C rfl).1, fun j D hl hD => (h.some_ C rfl).2 j D hl (hV j hl) hD⟩
end
/-- the best so far, in memory -/
def BestRow (w : World) (B : Nat) (l : List OutV) (v : Value) (ob : Option (List Nat)) : Prop :=
  (ob = none ∧ v = .slice none 0 0) ∨ ∃ (C : List Nat) (g c : Nat), ob = some C ∧ v = .slice (some ⟨g, 0, none⟩) C.length c ∧ 0 < C.length ∧ C.length ≤ 480 ∧ w.ownsRow B 9 1 (.slice (some ⟨g, 0, none⟩) C.length c) C.length (strCells (C.map (pathK l)))
theorem BestRow.below {w w' : World} {B : Nat} {l : List OutV} {v : Value} {ob : Option (List Nat)} (h : BestRow w B l v ob) (hb : Below w.heap.size w w') : BestRow w' B l v ob := by
  rcases h with h | ⟨C, g, c, h1, h2, h3, h4, h5⟩
  · exact Or.inl h
  · exact Or.inr ⟨C, g, c, h1, h2, h3, h4, own_stay h5 hb⟩
theorem BestRow.moved {w w' : World} {B r : Nat} {l : List OutV} {v : Value} {ob : Option (List Nat)} (h : BestRow w B l v ob) (hg : w.grownBy w' (some r)) (hr : r < B) : BestRow w' B l v ob := by
  rcases h with h | ⟨C, g, c, h1, h2, h3, h4, h5⟩
  · exact Or.inl h
  · refine Or.inr ⟨C, g, c, h1, h2, h3, h4, h5.kept hg (Or.inr (fun e => ?_))⟩
    have := own_block_ge h5 r e
    omega
theorem clo_ne {tf : Nat → List Nat} {left : Nat → Bool} {i : Nat} {C : List Nat} (h : IsClo tf left i C) : 0 < C.length := by
  have := (h.mem i).2 .here
  cases C with
  | nil => cases this
  | cons a r => simp
theorem clo_len {tf : Nat → List Nat} {left : Nat → Bool} {i N : Nat} {C : List Nat} (h : IsClo tf left i C) (hi : left i = true) (hN : ∀ k, left k = true → k < N) : C.length ≤ N := by
  refine nodup_len N C ?_ (fun x hx => hN x (((h.mem x).1 hx).isLeft hi))
  rw [List.nodup_iff_pairwise_ne]
  exact h.srt.imp (fun hab => by omega)
theorem head_path {l : List OutV} {C : List Nat} (h : 0 < C.length) : (strCells (C.map (pathK l)))[0]? = some (.string (pathA l (C.headD 0))) := by
  rw [strK]
  cases C with
  | nil => cases h
  | cons a r => rfl
theorem headD_mem {C : List Nat} (h : 0 < C.length) : C.headD 0 ∈ C := by
  cases C with
  | nil => cases h
  | cons a r => simp
def NextPost (l : List OutV) (tos : Nat → List Nat) (left : Nat → Bool) (w : World) (e : Ending) (w' : World) : Prop :=
  ∃ (C : List Nat) (A : Option Addr) (c : Nat), BestC tos left C ∧ e = .returned (.slice A C.length c) ∧ C.length ≤ 480 ∧ w'.ownsRow w.heap.size 9 1 (.slice A C.length c) C.length (strCells (C.map (pathK l))) ∧ Below w.heap.size w w'

set_option maxRecDepth 100000 in
set_option maxHeartbeats 8000000 in
theorem nextP_q (l : List OutV) (tos : Nat → List Nat) (left : Nat → Bool) (xb mr ml : Nat) (w : World) (h : PlanIn w xb mr ml l tos left) (hex : ∃ i, left i = true) (hr : RiseP l) (hz : ∀ k, (pathA l k).size ≤ 200) (hl : l.length ≤ 480) :
    Calls Tryz.prog 41 #[.pointer (some ⟨xb, 0, none⟩)] w (NextPost l tos left w) := by
  have HP := Lib.hid h
  have HR := Lib.hid hr
  have HZ := Lib.hid hz
  have HLt := Lib.hid h.lt
  obtain ⟨nl, fl, b4, b5, b6⟩ := h.lefts
  have HMl := Lib.hid b4; have HF5 := Lib.hid b5; have HF6 := Lib.hid b6
  obtain ⟨K, hK⟩ : ∃ K, w.heap.size = K := ⟨_, rfl⟩
  have HK := Lib.hid hK
  have x1 : w.cell? ⟨xb, 1, none⟩ = some (.map (some ml)) := h.box.c 1
  have hmlK : ml < K := by rw [← hK]; exact b4.lt
  clear h hr hz b4 b5 b6
  go_enter Tryz.func41, Tryz.ntmps41
  go_wp2_with (at_range; go_loud (refine wpList_rangeB rfl _ 77 rfl Tryz.underlying9 Tryz.underlying77 rfl HMl.out ?_; intro w5 cnt0 hrg0 hcnt hg0 hs0; rw [hK] at hrg0 hs0; have HRg0 := Lib.hid hrg0; have HB0 := Lib.hid (show Below K w w5 from (Below.refl K w).grown hg0 (by omega) (fun j hj => by cases hj)); have HS0 := Lib.hid hs0; clear hrg0 hg0 hs0))
  try rw [hK]
  go_frame
  have hPw := Lib.hid (show ∀ wr, Below K w wr → PlanIn wr xb mr ml l tos left from fun wr hb => by rw [← hK] at hb; exact HP.out.below hb)
  have HV0 := Lib.hid (show BestV tos left (fun k => !(fl (pathK l k)).isSome) none from BestV.start (fun j hj => by
    rw [HF5.out j (HLt.out j hj).1, if_pos hj]; rfl))
  have hKw : K ≤ w.heap.size := by omega
  clear hK x1 hcnt
  go_loopw [3] (fun t3 wr => ∃ (lR : List UInt8 → Bool) (cnt : Nat) (ob : Option (List Nat)), Hid (BestRow wr (K + 1) l t3 ob) ∧ Hid (RngB Tryz.prog 9 4 wr ml K nl fl lR cnt) ∧ Hid (BestV tos left (fun k => !lR (pathK l k)) ob) ∧ Hid (Below K w wr) ∧ Hid (K + 1 ≤ wr.heap.size)) (fun _ wr => wr.rangeLeft ml K)
  case atStart => exact ⟨_, cnt0, none, Or.inl ⟨rfl, rfl⟩, HRg0, HV0, HB0, by rw [HS0.out]; exact Nat.le_refl _⟩
  case round =>
    clear HRg0 HV0 HB0 HS0
    obtain ⟨lR, cnt, ob, HBe, HRg, HV, HB, HS⟩ := hrel
    obtain ⟨wo, rfl⟩ : ∃ wo : World, wo = wr := ⟨_, rfl⟩
    go_wp2_with (at_next; go_must (refine wpList_nextB rfl _ rfl Tryz.underlying9 Tryz.underlying4 K cnt lR rfl HRg.out ?_ ?_))
    · intro hc0 hl0
      obtain ⟨i, hi⟩ := hex
      rcases HBe.out with ⟨rfl, _⟩ | ⟨C, g, c, rfl, rfl, hC0, hC4, hOw⟩
      · have := HV.out.none_ rfl i hi
        simp [hl0] at this
      · have HBest := Lib.hid (HV.out.best (fun j _ => by simp [hl0]))
        have HOw := Lib.hid hOw
        clear hl0 hc0 hOw
        go_wp2_with fail
        go_ret
        exact ⟨C, _, c, HBest.out, rfl, hC4, by rw [HK.out]; exact own_lowP HOw.out (by omega), by rw [HK.out]; exact HB.out⟩
    · intro x
      refine ⟨fun w1 cnt1 hx hlx hf => ?_, ?_⟩
      · obtain ⟨k, hkN, hxk⟩ := HF6.out _ _ hf
        have h9 := HF5.out k hkN
        rw [← hxk, hf] at h9
        cases hh : left k with
        | true => rw [hh] at h9; simp at h9
        | false => rw [hh] at h9; simp at h9
      intro w1 cnt1 hx hlx hf hrg hlt hgr hs6 hen
      obtain ⟨k, hkN, hxk⟩ := HF6.out _ _ hf
      have hkl : left k = true := by
        have h9 := HF5.out k hkN
        rw [← hxk, hf] at h9
        cases hh : left k with
        | true => rfl
        | false => rw [hh] at h9; simp at h9
      have hpx : pathA l k = x := (bytes_ext hxk).symm
      have HRg1 := Lib.hid hrg
      have HLtt := Lib.hid hlt
      have HB1 := Lib.hid (HB.out.grown hgr (by have := HS.out; omega) (fun j hj => by have : j = K := (Option.some.inj hj).symm; omega))
      have HBe1 := Lib.hid (HBe.out.moved hgr (by omega))
      have HS1 := Lib.hid (show K + 1 ≤ w1.heap.size by rw [hs6]; exact HS.out)
      have HVs := Lib.hid (show ∀ j, left j = true → (fun k => !(lR (pathK l k) && !(pathK l k == x.data.toList))) j = true → (fun k => !lR (pathK l k)) j = true ∨ j = k from fun j hj h9 => by
        simp only [Bool.not_and, Bool.not_not, Bool.or_eq_true, Bool.not_eq_true'] at h9 ⊢
        rcases h9 with h9 | h9
        · exact Or.inl h9
        · right
          rw [hxk, beq_iff_eq] at h9
          exact HR.out.inj (HLt.out j hj).1 hkN h9)
      have HClo := Lib.hid (show ∀ wr, Below K w wr → Calls Tryz.prog 76 #[.pointer (some ⟨xb, 0, none⟩), .string x] wr (CloPPost l tos left k wr) from fun wr hb => by
        have := closureP_q l tos left k xb mr ml wr (hPw.out wr hb) hkl HR.out HZ.out hl
        rw [hpx] at this
        exact this)
      clear hrg hlt hgr hs6 hx hlx hf hxk hpx HBe HB HS
      go_upto_region 6 with (go_at_call 76; go_loud (refine (HClo.out _ HB1.out).mono ?_; rintro e w7 ⟨C, A, c, hC, rfl, hOw, hb⟩; have HC := Lib.hid hC; have HOw := Lib.hid (own_lowP hOw HS1.out); have HBe7 := Lib.hid (HBe1.out.below hb); have HRg7 := Lib.hid (HRg1.out.kept (row := none) ⟨hb.os, hb.tape, hb.output, hb.size, fun x hx _ => hb.block x hx⟩ (by simp) (by simp)); have HB7 := Lib.hid (HB1.out.trans (hb.mono (by have := HS1.out; omega))); have HS7 := Lib.hid (Nat.le_trans HS1.out hb.size); clear hC hOw hb))
      have hC0 := clo_ne HC.out
      have hC4 : C.length ≤ 480 := Nat.le_trans (clo_len HC.out hkl (fun k hk => (HLt.out k hk).1)) hl
      obtain ⟨gc, rfl⟩ : ∃ g, A = some ⟨g, 0, none⟩ := by
        obtain ⟨A', c', hv, _, _, hA⟩ := own_form HOw.out
        cases hv
        obtain ⟨g, hg, _⟩ := hA hC0
        exact ⟨g, hg⟩
      rcases HBe7.out with ⟨hb1, hb2⟩ | ⟨D, gd, cd, hb1, hb2, hD0, hD4, hb5⟩
      · subst hb1 hb2
        have hnn : ∀ W, Sem.run Tryz.prog (binOp .eql 23 (.slice none 0 0) (.slice none 0 0)) W = .ok (.bool true) W := fun W => rfl
        have HV2 := Lib.hid (HV.out.take HVs.out hkl HC.out (fun D hD => by simp at hD))
        refine wp_region_grow (by kernel_rfl) (by kernel_rfl) ?_
        repeat (refine wq_step (fun K9 hK9 => ?_); go_simp; refine hK9 _ ?_; clear hK9 K9)
        refine wq_nil ?_
        intro _ hw'
        obtain ⟨g5, hw''⟩ := hw'
        subst hw''
        have HBe8 := Lib.hid (HBe7.out.below g5.h)
        have HRg8 := Lib.hid (HRg7.out.kept (row := none) ⟨g5.h.os, g5.h.tape, g5.h.output, g5.h.size, fun x hx _ => g5.h.block x hx⟩ (by simp) (by simp))
        have HB8 := Lib.hid (HB7.out.trans (g5.h.mono (by have := HS7.out; omega)))
        have HS8 := Lib.hid (Nat.le_trans HS7.out g5.h.size)
        have HOw8 := Lib.hid (own_stay HOw.out g5.h)
        go_wp2_with fail
        go_roundw
        case rel => exact ⟨_, cnt1, some C, Lib.hid (Or.inr ⟨C, gc, c, rfl, rfl, hC0, hC4, HOw8.out⟩), HRg8, HV2, HB8, HS8⟩
        case measure => rw [HRg8.out.left_eq, HRg.out.left_eq]; exact HLtt.out
      · subst hb1 hb2
        have hnq : ∀ W, Sem.run Tryz.prog (binOp .eql 23 (.slice (some ⟨gd, 0, none⟩) D.length cd) (.slice none 0 0)) W = .ok (.bool false) W := fun W => rfl
        have HbD := Lib.hid hb5
        clear hb5
        by_cases h1 : C.length < D.length
        · have h1i : (C.length : Int) < (D.length : Int) := by omega
          have HV2 := Lib.hid (HV.out.take HVs.out hkl HC.out (fun E hE => by simp at hE; subst hE; exact Or.inl h1))
          refine wp_region_grow (by kernel_rfl) (by kernel_rfl) ?_
          repeat (refine wq_step (fun K9 hK9 => ?_); go_simp; refine hK9 _ ?_; clear hK9 K9)
          refine wq_nil ?_
          intro _ hw'
          obtain ⟨g5, hw''⟩ := hw'
          subst hw''
          have HBe8 := Lib.hid (HBe7.out.below g5.h)
          have HRg8 := Lib.hid (HRg7.out.kept (row := none) ⟨g5.h.os, g5.h.tape, g5.h.output, g5.h.size, fun x hx _ => g5.h.block x hx⟩ (by simp) (by simp))
          have HB8 := Lib.hid (HB7.out.trans (g5.h.mono (by have := HS7.out; omega)))
          have HS8 := Lib.hid (Nat.le_trans HS7.out g5.h.size)
          have HOw8 := Lib.hid (own_stay HOw.out g5.h)
          go_wp2_with fail
          go_roundw
          case rel => exact ⟨_, cnt1, some C, Lib.hid (Or.inr ⟨C, gc, c, rfl, rfl, hC0, hC4, HOw8.out⟩), HRg8, HV2, HB8, HS8⟩
          case measure => rw [HRg8.out.left_eq, HRg.out.left_eq]; exact HLtt.out
        · have h1i : ¬ (C.length : Int) < (D.length : Int) := by omega
          by_cases h2 : C.length = D.length
          · have h2i : ((C.length : Int) == (D.length : Int)) = true := by rw [beq_iff_eq]; omega
            have hcl : left (C.headD 0) = true := ((HC.out.mem _).1 (headD_mem hC0)).isLeft hkl
            have hdl : left (D.headD 0) = true := by
              obtain ⟨⟨i, hi, hD⟩, _⟩ := HV.out.some_ D rfl
              exact ((hD.mem _).1 (headD_mem hD0)).isLeft hi
            have hlt9 : decide (pathK l (C.headD 0) < pathK l (D.headD 0)) = decide (C.headD 0 < D.headD 0) := by
              have h9 := HR.out.le_iff (HLt.out _ hdl).1 (HLt.out _ hcl).1
              rw [Bool.eq_iff_iff, decide_eq_true_eq, decide_eq_true_eq] at h9
              rw [Bool.eq_iff_iff, decide_eq_true_eq, decide_eq_true_eq]
              constructor
              · intro h
                rcases Nat.lt_or_ge (C.headD 0) (D.headD 0) with h8 | h8
                · exact h8
                · exact absurd h (List.not_lt.2 (h9.1 h8))
              · intro h; exact HR.out _ _ h (HLt.out _ hdl).1
            have n0 : ∀ q : Gr w7, q.w.cell? ⟨gc, 0, none⟩ = some (.string (pathA l (C.headD 0))) := fun q => own_cell (own_stay HOw.out q.h) (head_path hC0)
            have n1 : ∀ q : Gr w7, q.w.cell? ⟨gd, 0, none⟩ = some (.string (pathA l (D.headD 0))) := fun q => own_cell (own_stay HbD.out q.h) (head_path hD0)
            have hbl : Op.bytesLess (pathA l (C.headD 0)).toList (pathA l (D.headD 0)).toList = decide (C.headD 0 < D.headD 0) := by
              rw [Go.ByteArray.toList_eq, Go.ByteArray.toList_eq, Go.Proofs.bytesLess_eq]; exact hlt9
            have HL := Lib.hid h2
            obtain ⟨pc, hpc⟩ : ∃ p, pathA l (C.headD 0) = p := ⟨_, rfl⟩
            obtain ⟨pd, hpd⟩ : ∃ p, pathA l (D.headD 0) = p := ⟨_, rfl⟩
            rw [hpc] at n0 hbl
            rw [hpd] at n1 hbl
            have hC0i : (0 : Int) < (C.length : Int) := by omega
            have hD0i : (0 : Int) < (D.length : Int) := by omega
            clear hlt9 hpc hpd h2 hcl hdl
            by_cases h3 : C.headD 0 < D.headD 0
            · rw [decide_eq_true h3] at hbl
              have HV2 := Lib.hid (HV.out.take HVs.out hkl HC.out (fun E hE => by simp at hE; subst hE; exact Or.inr ⟨HL.out, by omega⟩))
              clear h3
              refine wp_region_grow (by kernel_rfl) (by kernel_rfl) ?_
              repeat (refine wq_step (fun K9 hK9 => ?_); go_simp; refine hK9 _ ?_; clear hK9 K9)
              refine wq_nil ?_
              intro _ hw'
              obtain ⟨g5, hw''⟩ := hw'
              subst hw''
              have HBe8 := Lib.hid (HBe7.out.below g5.h)
              have HRg8 := Lib.hid (HRg7.out.kept (row := none) ⟨g5.h.os, g5.h.tape, g5.h.output, g5.h.size, fun x hx _ => g5.h.block x hx⟩ (by simp) (by simp))
              have HB8 := Lib.hid (HB7.out.trans (g5.h.mono (by have := HS7.out; omega)))
              have HS8 := Lib.hid (Nat.le_trans HS7.out g5.h.size)
              have HOw8 := Lib.hid (own_stay HOw.out g5.h)
              clear n0 n1
              go_wp2_with fail
              go_roundw
              case rel => exact ⟨_, cnt1, some C, Lib.hid (Or.inr ⟨C, gc, c, rfl, rfl, hC0, hC4, HOw8.out⟩), HRg8, HV2, HB8, HS8⟩
              case measure => rw [HRg8.out.left_eq, HRg.out.left_eq]; exact HLtt.out
            · rw [decide_eq_false h3] at hbl
              have HV2 := Lib.hid (HV.out.pass HVs.out HC.out (Or.inr ⟨HL.out.symm, by omega⟩))
              clear h3
              refine wp_region_grow (by kernel_rfl) (by kernel_rfl) ?_
              repeat (refine wq_step (fun K9 hK9 => ?_); go_simp; refine hK9 _ ?_; clear hK9 K9)
              refine wq_nil ?_
              intro _ hw'
              obtain ⟨g5, hw''⟩ := hw'
              subst hw''
              have HBe8 := Lib.hid (HBe7.out.below g5.h)
              have HRg8 := Lib.hid (HRg7.out.kept (row := none) ⟨g5.h.os, g5.h.tape, g5.h.output, g5.h.size, fun x hx _ => g5.h.block x hx⟩ (by simp) (by simp))
              have HB8 := Lib.hid (HB7.out.trans (g5.h.mono (by have := HS7.out; omega)))
              have HS8 := Lib.hid (Nat.le_trans HS7.out g5.h.size)
              have HOw8 := Lib.hid (own_stay HOw.out g5.h)
              clear n0 n1
              go_wp2_with fail
              go_roundw
              case rel => exact ⟨_, cnt1, some D, HBe8, HRg8, HV2, HB8, HS8⟩
              case measure => rw [HRg8.out.left_eq, HRg.out.left_eq]; exact HLtt.out
          · have h2i : ((C.length : Int) == (D.length : Int)) = false := by rw [beq_eq_false_iff_ne]; omega
            have HV2 := Lib.hid (HV.out.pass HVs.out HC.out (Or.inl (by omega)))
            refine wp_region_grow (by kernel_rfl) (by kernel_rfl) ?_
            repeat (refine wq_step (fun K9 hK9 => ?_); go_simp; refine hK9 _ ?_; clear hK9 K9)
            refine wq_nil ?_
            intro _ hw'
            obtain ⟨g5, hw''⟩ := hw'
            subst hw''
            have HBe8 := Lib.hid (HBe7.out.below g5.h)
            have HRg8 := Lib.hid (HRg7.out.kept (row := none) ⟨g5.h.os, g5.h.tape, g5.h.output, g5.h.size, fun x hx _ => g5.h.block x hx⟩ (by simp) (by simp))
            have HB8 := Lib.hid (HB7.out.trans (g5.h.mono (by have := HS7.out; omega)))
            have HS8 := Lib.hid (Nat.le_trans HS7.out g5.h.size)
            have HOw8 := Lib.hid (own_stay HOw.out g5.h)
            go_wp2_with fail
            go_roundw
            case rel => exact ⟨_, cnt1, some D, HBe8, HRg8, HV2, HB8, HS8⟩
            case measure => rw [HRg8.out.left_eq, HRg.out.left_eq]; exact HLtt.out

end Go.Proofs.YtbhildmalcfhiaaGreatDoor
