/-
  Slices of one-cell elements as they lie in memory; slices that the call itself makes by append.
-/
import Derived.Test.YtphmhhonbkcajaaDoorBase
import Derived.Maps.AppendAt
import Derived.OwnWalk
namespace Go.Proofs.YtphmhhonbkcajaaDoor
open Go.RowKit

/-- a slice whose elements have one cell each: the cells' values -/
def OnesAt (w : World) (v : Value) (xs : List Value) : Prop :=
  ∃ (A : Option Addr) (c b o : Nat), v = .slice A xs.length c ∧ xs.length ≤ c ∧ c ≤ maxLen ∧ (xs ≠ [] → A = some ⟨b, o, none⟩) ∧ ∀ i x, xs[i]? = some x → w.cell? ⟨b, o + i, none⟩ = some x

theorem OnesAt.keep {w w' : World} {v : Value} {xs : List Value} (h : OnesAt w v xs) (k : Keeps w w') : OnesAt w' v xs := by
  obtain ⟨A, c, b, o, h1, h2, h3, h4, h5⟩ := h
  exact ⟨A, c, b, o, h1, h2, h3, h4, fun i x hx => k _ _ (h5 i x hx)⟩

theorem OnesAt.nil (w : World) : OnesAt w (.slice none 0 0) [] :=
  ⟨none, 0, 0, 0, rfl, Nat.le_refl _, by simp [maxLen], fun h => absurd rfl h, fun i x hx => by simp at hx⟩

/-- a slice that the call owns, read -/
theorem OnesAt.of_own {w : World} {B : Nat} {e : TypeId} {v : Value} {n : Nat} {xs : List Value} (h : w.ownsRow B e 1 v n xs) : OnesAt w v xs := by
  obtain ⟨hl, h2⟩ := h
  have hn : xs.length = n := by omega
  rcases h2 with ⟨rfl, rfl⟩ | ⟨g, cap, cur, rfl, hB, hg, hnc, hm, hsz, htake⟩
  · have : xs = [] := List.eq_nil_of_length_eq_zero hn
    subst this
    exact .nil w
  · refine ⟨some ⟨g, 0, none⟩, cap, g, 0, by rw [hn], by omega, hm, fun _ => rfl, fun i x hx => ?_⟩
    rw [Nat.zero_add, cell_of_row w g i cur e (0, 0) hg]
    rw [← htake, List.getElem?_take] at hx
    split at hx
    · simpa using hx
    · cases hx

/-- what a push leaves: old memory but for the one block -/
theorem below_of_grown {B : Nat} {w w' : World} {v : Value} (h : w.grownBy w' v.ownBlock) (hB : B ≤ w.heap.size) (hv : ∀ g, v.ownBlock = some g → B ≤ g) : Below B w w' :=
  (Below.refl B w).grown h hB hv

theorem own_block_ge {w : World} {B : Nat} {e : TypeId} {K : Nat} {v : Value} {n : Nat} {xs : List Value} (h : w.ownsRow B e K v n xs) : ∀ g, v.ownBlock = some g → B ≤ g := fun g hg => (h.lt g hg).1

/-- the value is a slice of that length -/
theorem own_form {w : World} {B : Nat} {e : TypeId} {K : Nat} {v : Value} {n : Nat} {xs : List Value} (h : w.ownsRow B e K v n xs) : ∃ A c, v = .slice A n c ∧ c ≤ maxLen ∧ n ≤ c ∧ (0 < n → ∃ g, A = some ⟨g, 0, none⟩ ∧ B ≤ g ∧ g < w.heap.size) := by
  rcases h.2 with ⟨rfl, rfl⟩ | ⟨g, cap, cur, rfl, hB, hg, hnc, hm, hsz, htake⟩
  · exact ⟨none, 0, rfl, by simp [maxLen], Nat.le_refl _, fun h => absurd h (by omega)⟩
  · exact ⟨_, cap, rfl, hm, hnc, fun _ => ⟨g, rfl, hB, (Array.getElem?_eq_some_iff.1 hg).1⟩⟩

/-- a cell of it -/
theorem own_cell {w : World} {B : Nat} {e : TypeId} {g cap n : Nat} {xs : List Value} (h : w.ownsRow B e 1 (.slice (some ⟨g, 0, none⟩) n cap) n xs) {j : Nat} {x : Value} (hx : xs[j]? = some x) : w.cell? ⟨g, j, none⟩ = some x := by
  have hj : j < n * 1 := by
    have := (List.getElem?_eq_some_iff.1 hx).1
    have := h.1
    omega
  rw [h.cellAt j hj, hx]

theorem own_alloc {w : World} {B : Nat} {e : TypeId} {K : Nat} {v : Value} {n : Nat} {xs : List Value} (h : w.ownsRow B e K v n xs) (o : Obj) : (w.alloc o).ownsRow B e K v n xs := h.alloc o

theorem own_drewN {w : World} {B : Nat} {e : TypeId} {K : Nat} {v : Value} {n : Nat} {xs : List Value} (h : w.ownsRow B e K v n xs) (k : Nat) : (w.drewN k).ownsRow B e K v n xs := h
theorem own_drew {w : World} {B : Nat} {e : TypeId} {K : Nat} {v : Value} {n : Nat} {xs : List Value} (h : w.ownsRow B e K v n xs) : w.drew.ownsRow B e K v n xs := h

/-- another slice of the call's own stays as it is -/
theorem own_other {w w' : World} {B B' : Nat} {e e' : TypeId} {K K' : Nat} {v u : Value} {n n' : Nat} {xs ys : List Value} (h : w.ownsRow B e K v n xs) (_hu : w.ownsRow B' e' K' u n' ys) (hg : w.grownBy w' u.ownBlock)
    (hne : v.ownBlock = none ∨ v.ownBlock ≠ u.ownBlock) : w'.ownsRow B e K v n xs := h.kept hg hne

/-- two slices of the call's own that do not share their block -/
def Apart (u v : Value) : Prop := ∀ g, u.ownBlock = some g → v.ownBlock ≠ some g
theorem Apart.symm {u v : Value} (h : Apart u v) : Apart v u := fun g h1 h2 => h g h2 h1
theorem Apart.or {u v : Value} (h : Apart u v) : u.ownBlock = none ∨ u.ownBlock ≠ v.ownBlock := by
  cases hu : u.ownBlock with
  | none => exact Or.inl rfl
  | some g => exact Or.inr (fun e => h g hu e.symm)
theorem Apart.nil (v : Value) (c : Nat) : Apart (.slice none 0 c) v := fun g h => by simp [Value.ownBlock] at h
theorem Apart.push {w : World} {u v : Value} {g n cap : Nat} (h : Apart u v) (hg : u.ownBlock = some g ∨ w.heap.size ≤ g) (hv : ∀ k, v.ownBlock = some k → k < w.heap.size) : Apart (.slice (some ⟨g, 0, none⟩) n cap) v := by
  intro k hk
  simp only [Value.ownBlock, Option.some.injEq] at hk
  subst hk
  rcases hg with hg | hg
  · exact h _ hg
  · intro e
    have := hv _ e
    omega
theorem own_lt {w : World} {B : Nat} {e : TypeId} {K : Nat} {v : Value} {n : Nat} {xs : List Value} (h : w.ownsRow B e K v n xs) : ∀ g, v.ownBlock = some g → g < w.heap.size := fun g hg => (h.lt g hg).2

/-- a slice's length -/
def sliceLen : Value → Nat
  | .slice _ n _ => n
  | _ => 0

theorem one_int (k : IntKind) (x : Int) : ∀ u ∈ [Value.int k x], u.oneCell' = true := by intro u hu; simp only [List.mem_singleton] at hu; subst hu; rfl
theorem one_str (x : ByteArray) : ∀ u ∈ [Value.string x], u.oneCell' = true := by intro u hu; simp only [List.mem_singleton] at hu; subst hu; rfl

section
variable {P : Program}

theorem cell_new (w : World) (news : List Value) (e : TypeId) (sz : Nat) (hsz : sz = w.heap.size) : ∀ (j : Nat) (u : Value), news[j]? = some u → (w.alloc (.cells news.toArray e)).cell? ⟨sz, j, none⟩ = some u := by
  intro j u hu
  subst hsz
  rw [World.cell?_alloc_new]
  simpa using hu

/-- append of one element to a slice of the call's own -/
theorem wpList_push {ops : Array Oper} {rest : List Oper} {o : Oper} {a : Act} {Q : Exit → Act → World → Prop} (W : World) (hgd : o.guard = none) (s x : Operand) (t : TypeId)
    (ho : o.op = .call { callee := .builtin .append, args := #[s, x], argTypes := #[t, t] })
    (B : Nat) (e : TypeId) (z : Value) (K bytes : Nat) (ht : P.underlying t = some (.slice e)) (hi : (P.info? e).map (fun i => (i.zero, i.size, i.bytes)) = some (some z, K, bytes)) (hzs : z.cells.size = K) (hK : 0 < K)
    (v : Value) (n : Nat) (xs : List Value) (hs : a.eval s = v) (hown : W.ownsRow B e K v n xs)
    (news : List Value) (hl : news.length = K) (sz : Nat) (hx : a.eval x = .slice (some ⟨sz, 0, none⟩) 1 1) (hnew : ∀ (j : Nat) (u : Value), news[j]? = some u → W.cell? ⟨sz, j, none⟩ = some u) (h1 : ∀ u ∈ news, u.oneCell' = true)
    (hn : (n + 1) * bytes ≤ 140737488355328) (hn' : n + 1 ≤ maxLen) (hB : B ≤ W.heap.size)
    (h : ∀ g cap w', w'.ownsRow B e K (.slice (some ⟨g, 0, none⟩) (n + 1) cap) (n + 1) (xs ++ news) → W.grownBy w' v.ownBlock → (v.ownBlock = some g ∨ W.heap.size ≤ g) → Below B W w' → wpList P ops Q rest (a.put o.dst (.slice (some ⟨g, 0, none⟩) (n + 1) cap)) w') :
    wpList P ops Q (o :: rest) a W := by
  obtain ⟨i, hi1, hi2, hi3, hi4⟩ := info_parts hi
  refine wpList_append_own_at (P := P) W hgd s x t ho B e i z K bytes ht hi1 hi2 hi3 hi4 hzs hK v n xs hs hown ⟨sz, 0, none⟩ 1 1 news hx (by omega) ?_ h1 hn' hn hB ?_
  · intro j u hj
    have hadd : (⟨sz, 0, none⟩ : Addr).add j = ⟨sz, j, none⟩ := by unfold Addr.add; split <;> simp_all
    rw [hadd]
    exact hnew j u hj
  · intro v' w' h2 hg _ h5
    have hb : Below B W w' := below_of_grown hg hB (own_block_ge hown)
    obtain ⟨A, c, rfl, _, _, hA⟩ := own_form h2
    obtain ⟨g, rfl, _, _⟩ := hA (by omega)
    refine h g c w' h2 hg ?_ hb
    simp only [Value.ownBlock] at h5
    rcases h5 with h5 | h5
    · left; exact h5.symm
    · right; simp at h5; omega

end

end Go.Proofs.YtphmhhonbkcajaaDoor
