/-
  Entries of a feed in rows of the call's own.
-/
import Derived.Test.YtnanogcppglapaaGreatDoorFeedPlain
import Derived.Test.YtnanogcppglapaaGreatDoorRowSwap
import Derived.Test.YtnanogcppglapaaGreatDoorRowCopy
namespace Go.Proofs.YtnanogcppglapaaGreatDoor
open Go.RowKit Go.Deep

def entFC (x : EntF) : List Value := [.string x.title, .string x.addr, .string x.summ, .int .i64 x.day]
def entsFC (L : List EntF) : List Value := L.flatMap entFC
theorem entsFC_len (L : List EntF) : (entsFC L).length = L.length * 4 := by
  induction L with
  | nil => rfl
  | cons d r ih => simp only [entsFC, List.flatMap_cons, List.length_append, List.length_cons, entFC, List.length_nil] at ih ⊢; omega
theorem entsFC_append (A B : List EntF) : entsFC (A ++ B) = entsFC A ++ entsFC B := by simp [entsFC]
theorem entsFC_at : ∀ (l : List EntF) (i : Nat) (a : EntF), l[i]? = some a → ∀ c, c < 4 → (entsFC l)[i * 4 + c]? = (entFC a)[c]?
  | [], i, a, h, _, _ => by simp at h
  | b :: r, 0, a, h, c, hc => by
    simp at h
    subst h
    rw [show entsFC (b :: r) = entFC b ++ entsFC r from rfl, List.getElem?_append_left (by simp [entFC]; omega), Nat.zero_mul, Nat.zero_add]
  | b :: r, i + 1, a, h, c, hc => by
    have ih := entsFC_at r i a (by simpa using h) c hc
    rw [show entsFC (b :: r) = entFC b ++ entsFC r from rfl, List.getElem?_append_right (by simp [entFC]; omega)]
    rw [show (i + 1) * 4 + c - (entFC b).length = i * 4 + c by simp [entFC]; omega]
    exact ih
theorem entFC_one (x : EntF) : ∀ v ∈ entFC x, v.oneCell' = true := by
  intro v hv
  simp only [entFC, List.mem_cons, List.not_mem_nil, or_false] at hv
  rcases hv with rfl | rfl | rfl | rfl <;> rfl
theorem entsFC_one (L : List EntF) : ∀ u ∈ entsFC L, u.oneCell' = true := by
  intro u hu
  obtain ⟨o, _, ho⟩ := List.mem_flatMap.1 hu
  exact entFC_one o u ho
theorem info_entF : (Tryz.prog.info? 48).map (fun i => (i.zero, i.size, i.bytes)) = some (some (.agg #[.string ⟨#[]⟩, .string ⟨#[]⟩, .string ⟨#[]⟩, .int .i64 0]), 4, 56) := by kernel_rfl
theorem own_entF {w : World} {B g cap n : Nat} {L : List EntF} {j : Nat} {x : EntF} (h : w.ownsRow B 48 4 (.slice (some ⟨g, 0, none⟩) n cap) n (entsFC L)) (hx : L[j]? = some x) :
    (w.cell? ⟨g, j * 4, none⟩ = some (.string x.title) ∧ w.cell? ⟨g, j * 4 + 1, none⟩ = some (.string x.addr) ∧ w.cell? ⟨g, j * 4 + 2, none⟩ = some (.string x.summ) ∧ w.cell? ⟨g, j * 4 + 3, none⟩ = some (.int .i64 x.day)) ∧ ∀ o, w.frozen? ⟨g, o, none⟩ = false := by
  obtain ⟨cur, hg, hsz, ht, _, _, _⟩ := own_block h
  have hn : L.length = n := by have := h.1; rw [entsFC_len] at this; omega
  have hj := (List.getElem?_eq_some_iff.1 hx).1
  have key : ∀ c, c < 4 → w.cell? ⟨g, j * 4 + c, none⟩ = (entFC x)[c]? := fun c hc => by
    have k := entsFC_at L j x hx c hc
    rw [← ht, List.getElem?_take_of_lt (by omega)] at k
    rw [cell_of_row w g _ _ _ (0, 0) hg, ← k]; simp
  exact ⟨⟨key 0 (by omega), key 1 (by omega), key 2 (by omega), key 3 (by omega)⟩, fun o => frozen_of_row w g _ _ _ hg⟩
theorem swap8 {α : Type} (P D : List α) (a b c d e f g h : α) {k : Nat} (hk : P.length = 4 * k) :
    ((((((((P ++ a :: b :: c :: d :: e :: f :: g :: h :: D).set (4 * (k + 1)) a).set (4 * (k + 1) + 1) b).set (4 * (k + 1) + 2) c).set (4 * (k + 1) + 3) d).set (4 * k) e).set (4 * k + 1) f).set (4 * k + 2) g).set (4 * k + 3) h = P ++ e :: f :: g :: h :: a :: b :: c :: d :: D := by
  rw [← hk, show 4 * (k + 1) + 1 = P.length + 5 by omega, show 4 * (k + 1) + 2 = P.length + 6 by omega, show 4 * (k + 1) + 3 = P.length + 7 by omega, show 4 * (k + 1) = P.length + 4 by omega, set_app, set_app, set_app, set_app, show ∀ l : List α, (P ++ l).set P.length e = P ++ l.set 0 e from fun l => set_app P l 0 e, set_app, set_app, set_app]
  rfl
theorem entsF_swap (A B : List EntF) (y x : EntF) : ((((((((entsFC (A ++ y :: x :: B)).set ((A.length + 1) * 4) (.string y.title)).set ((A.length + 1) * 4 + 1) (.string y.addr)).set ((A.length + 1) * 4 + 2) (.string y.summ)).set ((A.length + 1) * 4 + 3) (.int .i64 y.day)).set (A.length * 4) (.string x.title)).set (A.length * 4 + 1) (.string x.addr)).set (A.length * 4 + 2) (.string x.summ)).set (A.length * 4 + 3) (.int .i64 x.day) = entsFC (A ++ x :: y :: B) := by
  have h1 : ∀ p q : EntF, entsFC (A ++ p :: q :: B) = entsFC A ++ Value.string p.title :: Value.string p.addr :: Value.string p.summ :: Value.int .i64 p.day :: Value.string q.title :: Value.string q.addr :: Value.string q.summ :: Value.int .i64 q.day :: entsFC B := fun p q => by rw [entsFC_append]; rfl
  rw [h1, h1]
  have hk : (entsFC A).length = 4 * A.length := by rw [entsFC_len]; omega
  have := swap8 (entsFC A) (entsFC B) (.string y.title) (.string y.addr) (.string y.summ) (.int .i64 y.day) (.string x.title) (.string x.addr) (.string x.summ) (.int .i64 x.day) hk
  rw [Nat.mul_comm A.length 4, Nat.mul_comm (A.length + 1) 4]
  exact this
theorem run_app_noneF {P : Program} {w : World} (base : Nat) (t ty e : TypeId) (i : TypeInfo) (size : Nat) (ht : P.underlying t = some (.slice e)) (hi : P.info? e = some i)
    (v : Value) (n : Nat) (xs : List Value) (c : Nat) (hown : w.ownsRow base e size v n xs) : (Builtin.append_ #[t, t] ty #[v, .slice none 0 c]).run P w = .ok v w := by
  rcases hown.2 with ⟨rfl, rfl⟩ | ⟨g, cap, cur, rfl, _, _, hnc, _⟩
  · simp [Builtin.append_, run_underlying ht, sizeOf, typeInfo, hi, Builtin.lenOf, Builtin.firstCells]
  · simp [Builtin.append_, run_underlying ht, sizeOf, typeInfo, hi, Builtin.lenOf, Builtin.firstCells, hnc, storeCells]
/-- append of entries that are only read -/
theorem wpList_joinE {P : Program} {ops : Array Oper} {rest : List Oper} {o : Oper} {a : Act} {Q : Exit → Act → World → Prop} (W : World) (hgd : o.guard = none) (s x : Operand) (t : TypeId)
    (ho : o.op = .call { callee := .builtin .append, args := #[s, x], argTypes := #[t, t] })
    (B : Nat) (e : TypeId) (z : Value) (bytes : Nat) (ht : P.underlying t = some (.slice e)) (hi : (P.info? e).map (fun i => (i.zero, i.size, i.bytes)) = some (some z, 4, bytes)) (hzs : z.cells.size = 4)
    (v : Value) (n : Nat) (xs : List Value) (hs : a.eval s = v) (hown : W.ownsRow B e 4 v n xs)
    (A : Option Addr) (c : Nat) (F : List EntF) (hx : a.eval x = .slice A F.length c) (hF : EntsFAt W (.slice A F.length c) F) (hn : (n + F.length) * bytes ≤ 140737488355328) (hn' : n + F.length ≤ maxLen) (hB : B ≤ W.heap.size)
    (h : ∀ A' c' w', w'.ownsRow B e 4 (.slice A' (n + F.length) c') (n + F.length) (xs ++ entsFC F) → Below B W w' → wpList P ops Q rest (a.put o.dst (.slice A' (n + F.length) c')) w') :
    wpList P ops Q (o :: rest) a W := by
  obtain ⟨i, hi1, hi2, hi3, hi4⟩ := info_parts hi
  obtain ⟨A', c', b, off, hv, hlc, hcm, hA, hcell⟩ := hF
  cases hv
  by_cases h0 : F = []
  · subst h0
    obtain ⟨A1, c1, rfl, _, _, _⟩ := own_form hown
    cases A with
    | none =>
      refine wpList_plain hgd fun K hK => ?_
      have hrun := run_app_noneF (P := P) (w := W) B t o.type e i 4 ht hi1 _ n xs c hown
      unfold Oper.wp
      simp [execOp, ho, resolve, invoke, builtin, hs, hx, hrun, Result.andThen]
      exact hK _ _ (h A1 c1 W (by simpa [entsFC] using hown) (Below.refl _ _))
    | some ad =>
      refine wpList_append_own_at (P := P) W hgd s x t ho B e i z 4 bytes ht hi1 hi2 hi3 hi4 hzs (by omega) _ n xs hs hown ad 0 c [] hx (by simp) (fun j u hj => by simp at hj) (fun u hu => by simp at hu) hn' hn hB ?_
      intro v' w' h2 hg _ _
      obtain ⟨A2, c2, rfl, _, _, _⟩ := own_form h2
      exact h A2 c2 w' h2 (below_of_grown hg hB (own_block_ge hown))
  · obtain rfl := hA h0
    refine wpList_append_own_at (P := P) W hgd s x t ho B e i z 4 bytes ht hi1 hi2 hi3 hi4 hzs (by omega) _ n xs hs hown ⟨b, off, none⟩ F.length c (entsFC F) hx (entsFC_len F) ?_ (entsFC_one F) hn' hn hB ?_
    · intro j u hj
      have hadd : (⟨b, off, none⟩ : Addr).add j = ⟨b, off + j, none⟩ := by unfold Addr.add; split <;> simp_all
      rw [hadd]
      have hjl : j < F.length * 4 := by have := (List.getElem?_eq_some_iff.1 hj).1; rwa [entsFC_len] at this
      have hi9 : j / 4 < F.length := by omega
      have hc := hcell (j / 4) F[j / 4] (List.getElem?_eq_getElem hi9)
      have k := entsFC_at F (j / 4) F[j / 4] (List.getElem?_eq_getElem hi9) (j % 4) (by omega)
      rw [show j / 4 * 4 + j % 4 = j by omega, hj] at k
      rcases (show j % 4 = 0 ∨ j % 4 = 1 ∨ j % 4 = 2 ∨ j % 4 = 3 by omega) with hm | hm | hm | hm
      · rw [hm] at k; rw [k, show off + j = off + j / 4 * 4 by omega]; exact hc.c0
      · rw [hm] at k; rw [k, show off + j = off + j / 4 * 4 + 1 by omega]; exact hc.c1
      · rw [hm] at k; rw [k, show off + j = off + j / 4 * 4 + 2 by omega]; exact hc.c2
      · rw [hm] at k; rw [k, show off + j = off + j / 4 * 4 + 3 by omega]; exact hc.c3
    · intro v' w' h2 hg _ _
      obtain ⟨A2, c2, rfl, _, _, _⟩ := own_form h2
      exact h A2 c2 w' h2 (below_of_grown hg hB (own_block_ge hown))
theorem entsF_front (L : List EntF) : ∀ k, (entsFC L).take (k * 4) = entsFC (L.take k) := by
  induction L with
  | nil => intro k; simp [entsFC]
  | cons x r ih =>
    intro k
    cases k with
    | zero => simp [entsFC]
    | succ k =>
      rw [show entsFC (x :: r) = .string x.title :: .string x.addr :: .string x.summ :: .int .i64 x.day :: entsFC r from rfl, show (k + 1) * 4 = k * 4 + 1 + 1 + 1 + 1 by omega, List.take_succ_cons, List.take_succ_cons, List.take_succ_cons, List.take_succ_cons, ih k, List.take_succ_cons]
      rfl
end Go.Proofs.YtnanogcppglapaaGreatDoor
