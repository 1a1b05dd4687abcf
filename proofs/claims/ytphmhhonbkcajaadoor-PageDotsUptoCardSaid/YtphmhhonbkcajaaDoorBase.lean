/-
  Plain words for memory, used by all walks of this seat: worlds that keep what was there; slices of the arguments' reading, opened element by element.
-/
import Derived.WalkKit
import Derived.Below
import Derived.Deep.Draws
import Derived.Lib.Strings
import Derived.Lib.Hide
import Derived.ProofKit
import Derived.OpenShut
import Derived.Deep.Slices
import Derived.Deep.Fields
import Derived.ChangeSame
import Derived.Test.YtphmhhonbkcajaaDoorRows
namespace Go.Proofs.YtphmhhonbkcajaaDoor
open Go.RowKit Go.ChangeShapes Go.WideShapes Go.Deep

/-- what w holds w' holds -/
def Keeps (w w' : World) : Prop := ∀ (a : Addr) (v : Value), w.cell? a = some v → w'.cell? a = some v

theorem Keeps.refl (w : World) : Keeps w w := fun _ _ h => h
theorem Keeps.trans {a b c : World} (h : Keeps a b) (k : Keeps b c) : Keeps a c := fun x v hx => k x v (h x v hx)
theorem Keeps.of_below {w w' : World} (h : Below w.heap.size w w') : Keeps w w' := fun a v ha => by
  rw [h.cell (World.block_lt_of_cell? _ _ ha)]; exact ha
theorem Keeps.drew (w : World) : Keeps w w.drew := fun _ _ h => h
theorem Keeps.drewN (w : World) (n : Nat) : Keeps w (w.drewN n) := fun _ _ h => h
theorem Keeps.alloc (w : World) (o : Obj) : Keeps w (w.alloc o) := fun a v ha => by
  rw [World.cell?_alloc_lt w o a (World.block_lt_of_cell? _ _ ha)]; exact ha

theorem Below.drewN' {B : Nat} {a w : World} (h : Below B a w) (n : Nat) : Below B a (w.drewN n) := ⟨h.os, h.tape, h.output, h.size, h.block⟩

/-- two worlds are one (a name, so that the walk leaves it alone) -/
def EqW (a b : World) : Prop := a = b
theorem EqW.refl (a : World) : EqW a a := rfl

/-- old cells and old marks read as they did -/
theorem bcell {W w1 : World} (hb : Below W.heap.size W w1) : (∀ b o, b < W.heap.size → w1.cell? ⟨b, o, none⟩ = W.cell? ⟨b, o, none⟩) ∧ (∀ b o, b < W.heap.size → w1.frozen? ⟨b, o, none⟩ = W.frozen? ⟨b, o, none⟩) :=
  ⟨fun b o h => hb.cell (p := ⟨b, o, none⟩) h, fun b o h => hb.frozen (p := ⟨b, o, none⟩) h⟩

theorem ret_bool {a b : Bool} (h : a = b) : Ending.returned (.bool a) = .returned (.bool b) := by rw [h]
theorem ret_pair {k k' : IntKind} {a b a' b' : Int} (h : (a, b) = (a', b')) : Ending.returned (.tuple #[.int k a, .int k' b]) = .returned (.tuple #[.int k a', .int k' b']) := by cases h; rfl
theorem ret_int {k : IntKind} {a b : Int} (h : a = b) : Ending.returned (.int k a) = .returned (.int k b) := by rw [h]

/-- a number that an int holds -/
def I64 (n : Int) : Prop := -9223372036854775808 ≤ n ∧ n ≤ 9223372036854775807

theorem I64.of_wf {n : Int} (h : (Lit.int .i64 n).wf = true) : I64 n := bounds_i64 h

theorem exists_list {α : Type} {n : Nat} {p : Nat → α → Prop} (h : ∀ i, i < n → ∃ a, p i a) : ∃ l : List α, l.length = n ∧ ∀ (i : Nat) (a : α), l[i]? = some a → p i a := by
  induction n with
  | zero => exact ⟨[], rfl, fun i a hi => by simp at hi⟩
  | succ n ih =>
    obtain ⟨l, hl, hp⟩ := ih (fun i hi => h i (by omega))
    obtain ⟨a, ha⟩ := h n (by omega)
    refine ⟨l ++ [a], by simp [hl], fun i b hi => ?_⟩
    by_cases hlt : i < n
    · rw [List.getElem?_append_left (by omega)] at hi
      exact hp i b hi
    · have hil : i < (l ++ [a]).length := (List.getElem?_eq_some_iff.1 hi).1
      simp [hl] at hil
      have : i = n := by omega
      subst this
      rw [List.getElem?_append_right (by omega), hl] at hi
      simp at hi
      subst hi
      exact ha

/-- the elements of a slice's datum -/
def elemsOf {H : Type} : DataW H → List (DataW H)
  | .slice e _ => e
  | _ => []

theorem bulk_one_le {H : Type} (d : DataW H) : 1 ≤ Rows.uptoBulk d := by
  cases d with
  | lit l => cases l <;> simp [Rows.uptoBulk]
  | nil => simp [Rows.uptoBulk]
  | ptr d => simp [Rows.uptoBulk]
  | slice elems spare => simp [Rows.uptoBulk]
  | agg parts => simp [Rows.uptoBulk]
  | iface t d => simp [Rows.uptoBulk]
  | map entries => simp [Rows.uptoBulk]
  | held h => simp [Rows.uptoBulk]

theorem bulk_elems {H : Type} (d : DataW H) : Rows.uptoBulkAll (elemsOf d) + 1 ≤ Rows.uptoBulk d := by
  cases d with
  | slice elems spare => simp only [Rows.uptoBulk, elemsOf]; omega
  | _ => simp only [elemsOf, Rows.uptoBulkAll, Nat.zero_add]; exact bulk_one_le _

theorem bulk_append {H : Type} (l r : List (DataW H)) : Rows.uptoBulkAll (l ++ r) = Rows.uptoBulkAll l + Rows.uptoBulkAll r := by
  induction l with
  | nil => simp [Rows.uptoBulkAll]
  | cons x l ih => simp only [List.cons_append, Rows.uptoBulkAll, ih]; omega

theorem bulk_mem {H : Type} {d : DataW H} {l : List (DataW H)} (h : d ∈ l) : Rows.uptoBulk d ≤ Rows.uptoBulkAll l := by
  induction l with
  | nil => cases h
  | cons x r ih =>
    simp only [Rows.uptoBulkAll]
    cases List.mem_cons.1 h with
    | inl e => subst e; omega
    | inr e => have := ih e; omega

theorem bulk_len {H : Type} (l : List (DataW H)) : l.length ≤ Rows.uptoBulkAll l := by
  induction l with
  | nil => simp [Rows.uptoBulkAll]
  | cons x r ih => have := bulk_one_le x; simp only [Rows.uptoBulkAll, List.length_cons]; omega

/-- a sum over a list -/
def sumBy {α : Type} (f : α → Nat) : List α → Nat
  | [] => 0
  | a :: r => f a + sumBy f r

theorem sumBy_append {α : Type} (f : α → Nat) (l r : List α) : sumBy f (l ++ r) = sumBy f l + sumBy f r := by
  induction l with
  | nil => simp [sumBy]
  | cons x l ih => simp only [List.cons_append, sumBy, ih]; omega

theorem sumBy_le_bulk {α H : Type} {f : α → Nat} : ∀ {l : List α} {ds : List (DataW H)}, l.length = ds.length → (∀ (i : Nat) (a : α) (d : DataW H), l[i]? = some a → ds[i]? = some d → f a ≤ Rows.uptoBulk d) → sumBy f l ≤ Rows.uptoBulkAll ds
  | [], [], _, _ => by simp [sumBy, Rows.uptoBulkAll]
  | a :: l, d :: ds, hl, h => by
    have h0 := h 0 a d rfl rfl
    have hr := sumBy_le_bulk (l := l) (ds := ds) (by simpa using hl) (fun i a d ha hd => h (i + 1) a d (by simpa using ha) (by simpa using hd))
    simp only [sumBy, Rows.uptoBulkAll]
    omega

section
variable {H : Type} {enc : TypeId × Value → H} {P : Program} {w : World} {base : Nat} {spare : Nat → Bool} {held : Bool}

/-- A slice of elements of several cells each, opened; nil is let in. -/
theorem open_cells {t e : TypeId} {K fuel : Nat} {cs : List Value} {x : DataW H × List MemPlace} (ht : P.underlying t = some (.slice e)) (hC : P.cellsOf e = K) (hK : 0 < K)
    (h : DataW.trod enc P w base spare held fuel t cs = some x) :
    ∃ (A : Option Addr) (len cap m b o : Nat), m < fuel ∧ cs = [.slice A len cap] ∧ len ≤ cap ∧ cap ≤ maxLen ∧ (0 < len → A = some ⟨b, o, none⟩) ∧ (elemsOf x.1).length = len ∧
      ∀ i, i < len → ∃ (cs' : List Value) (y : DataW H × List MemPlace), cs'.length = K ∧ (∀ j, j < K → w.cell? ⟨b, o + i * K + j, none⟩ = cs'[j]?) ∧ (elemsOf x.1)[i]? = some y.1 ∧
        DataW.trod enc P w base spare held m e cs' = some y := by
  rcases DataW.trod_slice ht h with ⟨rfl, rfl⟩ | ⟨a, len, cap, elems, rest, n, rfl, rfl, rfl, hb, hl, hm, hlen, hel, _, _⟩
  · refine ⟨none, 0, 0, 0, 0, 0, ?_, rfl, Nat.le_refl _, by simp [maxLen], fun h => absurd h (by omega), rfl, fun i hi => absurd hi (by omega)⟩
    cases fuel with
    | zero => simp [DataW.trod] at h
    | succ n => omega
  · have key : ∀ i, i < len → ∃ cs' y, w.cells? base (a.add (i * K)) K = some cs' ∧ elems[i]? = some y ∧ DataW.trod enc P w base spare held n e cs' = some y := by
      intro i hi
      have h1 := hel i hi
      rw [hC, List.getElem?_eq_getElem (by omega)] at h1
      obtain ⟨cs', h2, h3⟩ := Option.bind_eq_some_iff.1 h1
      exact ⟨cs', _, h2, List.getElem?_eq_getElem (by omega), h3⟩
    have hspot : 0 < len → a.spot = none := by
      intro h0
      obtain ⟨cs', y, h2, _, _⟩ := key 0 h0
      obtain ⟨_, hl', hat⟩ := World.cells?_some h2
      have h00 := hat 0 hK
      rw [List.getElem?_eq_getElem (by omega)] at h00
      simpa [Addr.add] using World.cell?_spot h00
    obtain ⟨b, off, spot⟩ := a
    refine ⟨some ⟨b, off, spot⟩, len, cap, n, b, off, by omega, rfl, hl, hm, fun h0 => by rw [show spot = none from hspot h0], by simp [elemsOf, hlen], fun i hi => ?_⟩
    have hs : spot = none := hspot (by omega)
    subst hs
    obtain ⟨cs', y, h2, h3, h4⟩ := key i hi
    obtain ⟨_, hl', hat⟩ := World.cells?_some h2
    refine ⟨cs', y, hl', fun j hj => ?_, by simp [elemsOf, h3], h4⟩
    rw [← hat j hj]
    congr 1
    unfold Addr.add
    by_cases h1 : i * K = 0 <;> by_cases h2 : j = 0 <;> simp [h1, h2, Nat.add_assoc]

/-- A struct whose fields have one cell each. -/
theorem open_fields {t : TypeId} {fs : Array Field} {fuel : Nat} {cs : List Value} {x : DataW H × List MemPlace} (ht : P.underlying t = some (.struct fs)) (hone : oneCellFields P fs = true)
    (hC : P.cellsOf t = fs.size) (h : DataW.trod enc P w base spare held fuel t cs = some x) :
    ∃ (m : Nat) (ys : List (DataW H × List MemPlace)), m < fuel ∧ ys.length = fs.size ∧ x.1 = .agg (ys.map (·.1)) ∧ cs.length = fs.size ∧
      ∀ (j : Nat) (f : Field), fs[j]? = some f → ∃ v y, cs[j]? = some v ∧ ys[j]? = some y ∧ DataW.trod enc P w base spare held m f.type [v] = some y := by
  obtain ⟨ys, n', rfl, hy, hlen, hyl, hf⟩ := DataW.trod_struct ht h
  subst hy
  refine ⟨n', ys, by omega, hyl, rfl, by omega, fun j f hj => ?_⟩
  obtain ⟨ho, hk⟩ := hone_of hone j f hj
  have hjl : j < fs.size := (Array.getElem?_eq_some_iff.1 hj).1
  have h1 := hf j f hj
  rw [ho, hk] at h1
  have hone' : (cs.drop j).take 1 = [cs[j]'(by omega)] := by
    rw [List.drop_eq_getElem_cons (by omega)]
    rfl
  rw [hone'] at h1
  have hys : ys[j]? = some (ys[j]'(by omega)) := List.getElem?_eq_getElem (by omega)
  exact ⟨_, _, List.getElem?_eq_getElem (by omega), hys, h1.trans hys⟩
end

end Go.Proofs.YtphmhhonbkcajaaDoor
