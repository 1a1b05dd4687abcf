/-
  A value copied with all below: build.clone.
-/
import Derived.Test.YtphmhhonbkcajaaDoorSameVal
import Derived.Test.YtphmhhonbkcajaaDoorOwn
import Derived.Laws.OwnMore
namespace Go.Proofs.YtphmhhonbkcajaaDoor
open Go.RowKit Go.Deep

theorem run_append_none_c {P : Program} {w : World} (base : Nat) (t ty e : TypeId) (i : TypeInfo) (size c : Nat) (ht : P.underlying t = some (.slice e)) (hi : P.info? e = some i)
    (v : Value) (n : Nat) (xs : List Value) (hown : w.ownsRow base e size v n xs) :
    (Builtin.append_ #[t, t] ty #[v, .slice none 0 c]).run P w = .ok v w := by
  rcases hown.2 with ⟨rfl, rfl⟩ | ⟨g, cap, cur, rfl, _, _, hnc, _⟩
  · simp [Builtin.append_, run_underlying ht, sizeOf, typeInfo, hi, Builtin.lenOf, Builtin.firstCells]
  · simp [Builtin.append_, run_underlying ht, sizeOf, typeInfo, hi, Builtin.lenOf, Builtin.firstCells, hnc, storeCells]
/-- strings as cells -/
def strsK (l : List ByteArray) : List Value := l.map Value.string
theorem strsK_one (l : List ByteArray) : ∀ u ∈ strsK l, u.oneCell' = true := by
  intro u hu
  simp only [strsK, List.mem_map] at hu
  obtain ⟨s, _, rfl⟩ := hu
  rfl
/-- a copy of a list of strings: append to nil -/
theorem wpList_copyS {P : Program} {ops : Array Oper} {rest : List Oper} {o : Oper} {a : Act} {Q : Exit → Act → World → Prop} (W : World) (hgd : o.guard = none) (s x : Operand) (t : TypeId)
    (ho : o.op = .call { callee := .builtin .append, args := #[s, x], argTypes := #[t, t] })
    (e : TypeId) (z : Value) (bytes : Nat) (ht : P.underlying t = some (.slice e)) (hi : (P.info? e).map (fun i => (i.zero, i.size, i.bytes)) = some (some z, 1, bytes)) (hzs : z.cells.size = 1)
    (hs : a.eval s = .slice none 0 0) (A : Option Addr) (m c b off : Nat) (l : List ByteArray) (hx : a.eval x = .slice A m c) (hm : m = l.length) (hA : l ≠ [] → A = some ⟨b, off, none⟩) (hcell : ∀ i s, l[i]? = some s → W.cell? ⟨b, off + i, none⟩ = some (.string s)) (hn : m * bytes ≤ 140737488355328) (hn' : m ≤ maxLen)
    (h : ∀ A' c' w', w'.ownsRow W.heap.size e 1 (.slice A' m c') m (strsK l) → Below W.heap.size W w' → wpList P ops Q rest (a.put o.dst (.slice A' m c')) w') :
    wpList P ops Q (o :: rest) a W := by
  obtain ⟨i, hi1, hi2, hi3, hi4⟩ := info_parts hi
  subst hm
  cases A with
  | none =>
    have hl : l = [] := by
      cases l with
      | nil => rfl
      | cons a r => exact absurd (hA (by simp)) (by simp)
    subst hl
    refine wpList_plain hgd fun K hK => ?_
    have hrun := run_append_none_c (P := P) (w := W) W.heap.size t o.type e i 1 c ht hi1 (.slice none 0 0) 0 [] (World.ownsRow_nil W _ e 1)
    unfold Oper.wp
    simp [execOp, ho, resolve, invoke, builtin, hs, hx, hrun, Result.andThen]
    exact hK _ _ (h none 0 W (World.ownsRow_nil W _ e 1) (Below.refl _ _))
  | some ad =>
    refine wpList_append_own_at (P := P) W hgd s x t ho W.heap.size e i z 1 bytes ht hi1 hi2 hi3 hi4 hzs (by omega) _ 0 [] hs (World.ownsRow_nil W _ e 1) ad l.length c (strsK l) hx (by simp [strsK]) ?_ (strsK_one l) (by rw [Nat.zero_add]; exact hn') (by rw [Nat.zero_add]; exact hn) (Nat.le_refl _) ?_
    · intro j u hj
      simp only [strsK, List.getElem?_map, Option.map_eq_some_iff] at hj
      obtain ⟨p, hp, rfl⟩ := hj
      obtain rfl : ad = ⟨b, off, none⟩ := by
        have := hA (by rintro rfl; simp at hp)
        simpa using this
      have hadd : (⟨b, off, none⟩ : Addr).add j = ⟨b, off + j, none⟩ := by unfold Addr.add; split <;> simp_all
      rw [hadd]
      exact hcell j p hp
    · intro v' w' h2 hg _ _
      rw [Nat.zero_add, List.nil_append] at h2
      obtain ⟨A2, c2, rfl, _, _, _⟩ := own_form h2
      exact h A2 c2 w' h2 (below_of_grown hg (Nat.le_refl _) (fun g hg => by simp [Value.ownBlock] at hg))

/-- a row of strings of the call's own, read -/
theorem StrsIn.of_own {w : World} {B : Nat} {v : Value} {n : Nat} {l : List ByteArray} (h : w.ownsRow B 9 1 v n (strsK l)) (hs : ∀ s ∈ l, s.size ≤ maxLen) : StrsIn w (fun b => B ≤ b) v l := by
  have hln : l.length = n := by have := h.1; simpa [strsK] using this
  obtain ⟨A, c, rfl, hcm, hnc, hA⟩ := own_form h
  by_cases h0 : 0 < n
  · obtain ⟨g, rfl, hBg, hgl⟩ := hA h0
    refine ⟨_, c, g, 0, by rw [hln], by omega, hcm, fun _ => ⟨rfl, hBg⟩, fun i s hi => ⟨?_, hs s (List.mem_of_getElem? hi)⟩⟩
    rw [Nat.zero_add]
    exact own_cell h (by simp [strsK, hi])
  · have : l = [] := List.eq_nil_of_length_eq_zero (by omega)
    subst this
    exact ⟨A, c, 0, 0, by rw [← hln], by simp, hcm, fun h => absurd rfl h, fun i s hi => by simp at hi⟩

/-- a value's cells with those of its items and keys -/
structure PartV where
  n : Val
  iv : Value
  kv : Value
def cellsV (n : Val) (iv kv : Value) : List Value := [.int .i64 n.kind, .bool n.flag, .int .i64 n.num, .string n.text, iv, kv]
def flatV : List PartV → List Value
  | [] => []
  | p :: r => cellsV p.n p.iv p.kv ++ flatV r
theorem flatV_append (a b : List PartV) : flatV (a ++ b) = flatV a ++ flatV b := by
  induction a with
  | nil => rfl
  | cons p r ih => simp [flatV, ih, List.append_assoc]
theorem flatV_get : ∀ {a : List PartV} {i : Nat} {p : PartV}, a[i]? = some p → ∀ j, j < 6 → (flatV a)[i * 6 + j]? = (cellsV p.n p.iv p.kv)[j]?
  | p :: r, 0, q, h, j, hj => by
    simp at h; subst h
    rw [flatV, Nat.zero_mul, Nat.zero_add, List.getElem?_append_left (by simp [cellsV]; omega)]
  | p :: r, i + 1, q, h, j, hj => by
    rw [flatV, List.getElem?_append_right (by simp [cellsV]; omega)]
    have : (i + 1) * 6 + j - (cellsV p.n p.iv p.kv).length = i * 6 + j := by simp [cellsV]; omega
    rw [this]
    exact flatV_get (by simpa using h) j hj
/-- values that the call has made: a row of its own, what is below in other blocks of its own -/
structure MadeV (w : World) (B : Nat) (v : Value) (ps : List PartV) : Prop where
  own : w.ownsRow B 35 6 v ps.length (flatV ps)
  hit : ∀ p ∈ ps, ValsIn w (fun b => B ≤ b ∧ v.ownBlock ≠ some b) p.iv p.n.items
  hky : ∀ p ∈ ps, StrsIn w (fun b => B ≤ b ∧ v.ownBlock ≠ some b) p.kv p.n.keys
  hok : ∀ p ∈ ps, ValOk p.n
theorem MadeV.nil (w : World) (B : Nat) : MadeV w B (.slice none 0 0) [] := ⟨World.ownsRow_nil _ _ _ _, fun p h => by simp at h, fun p h => by simp at h, fun p h => by simp at h⟩
theorem keepsIn_grown {w w' : World} {v : Value} {B : Nat} (hg : w.grownBy w' v.ownBlock) : KeepsIn (fun b => B ≤ b ∧ v.ownBlock ≠ some b) w w' := by
  intro a x hp hx
  rw [World.cell?_of_block (hg.block a.block (World.block_lt_of_cell? _ _ hx) (fun e => hp.2 e.symm))]
  exact hx
theorem MadeV.below {w w' : World} {B : Nat} {v : Value} {ps : List PartV} (h : MadeV w B v ps) (hb : Below w.heap.size w w') : MadeV w' B v ps := by
  have k := KeepsIn.of_keeps (P := fun b => B ≤ b ∧ v.ownBlock ≠ some b) (Keeps.of_below hb)
  refine ⟨h.own.kept (row := none) ⟨hb.os, hb.tape, hb.output, hb.size, fun x hx _ => hb.block x hx⟩ (by cases hv : v.ownBlock <;> simp), fun p hp => (h.hit p hp).keep k (fun _ _ x => x), fun p hp => (h.hky p hp).keep k (fun _ _ x => x), h.hok⟩
theorem MadeV.push {W w' : World} {B : Nat} {v : Value} {ps : List PartV} {n : Val} {iv kv : Value} {g c : Nat} (h : MadeV W B v ps) (hi : ValsIn W (fun b => B ≤ b ∧ v.ownBlock ≠ some b) iv n.items) (hk : StrsIn W (fun b => B ≤ b ∧ v.ownBlock ≠ some b) kv n.keys) (hok : ValOk n)
    (own' : w'.ownsRow B 35 6 (.slice (some ⟨g, 0, none⟩) (ps.length + 1) c) (ps.length + 1) (flatV ps ++ cellsV n iv kv)) (hg : W.grownBy w' v.ownBlock) (hgg : v.ownBlock = some g ∨ W.heap.size ≤ g) :
    MadeV w' B (.slice (some ⟨g, 0, none⟩) (ps.length + 1) c) (ps ++ [⟨n, iv, kv⟩]) := by
  have k := keepsIn_grown (B := B) hg
  have hq : ∀ b, b < W.heap.size → (B ≤ b ∧ v.ownBlock ≠ some b) → (B ≤ b ∧ (Value.slice (some ⟨g, 0, none⟩) (ps.length + 1) c).ownBlock ≠ some b) := by
    intro b hb ⟨h1, h2⟩
    refine ⟨h1, fun e => ?_⟩
    simp only [Value.ownBlock, Option.some.injEq] at e
    subst e
    rcases hgg with h3 | h3
    · exact h2 h3
    · omega
  refine ⟨?_, fun p hp => ?_, fun p hp => ?_, fun p hp => ?_⟩
  · rw [List.length_append, flatV_append]
    simpa [flatV] using own'
  · rcases List.mem_append.1 hp with hp | hp
    · exact (h.hit p hp).keep k hq
    · simp only [List.mem_singleton] at hp
      subst hp
      exact hi.keep k hq
  · rcases List.mem_append.1 hp with hp | hp
    · exact (h.hky p hp).keep k hq
    · simp only [List.mem_singleton] at hp
      subst hp
      exact hk.keep k hq
  · rcases List.mem_append.1 hp with hp | hp
    · exact h.hok p hp
    · simp only [List.mem_singleton] at hp
      subst hp
      exact hok
/-- what has been made reads as values -/
theorem MadeV.vals {w : World} {B : Nat} {v : Value} {ps : List PartV} (h : MadeV w B v ps) : ValsIn w (fun b => B ≤ b) v (ps.map (·.n)) := by
  obtain ⟨A, c, rfl, hcm, hnc, hA⟩ := own_form h.own
  have hlen : (ps.map (·.n)).length = ps.length := by simp
  rw [show (Value.slice A ps.length c) = .slice A (ps.map (·.n)).length c by rw [hlen]]
  by_cases h0 : 0 < ps.length
  · obtain ⟨g, rfl, hBg, hgl⟩ := hA h0
    refine .mk (some ⟨g, 0, none⟩) c (ps.map (·.n)) g 0 (fun i => (ps[i]?.map (·.iv)).getD undef) (fun i => (ps[i]?.map (·.kv)).getD undef) (by rw [hlen]; exact hnc) hcm (fun _ => ⟨rfl, hBg⟩) (fun i n hi => ?_) (fun i n hi => ?_) (fun i n hi => ?_)
    · rw [List.getElem?_map, Option.map_eq_some_iff] at hi
      obtain ⟨p, hp, rfl⟩ := hi
      have hm := List.mem_of_getElem? hp
      have hip : i < ps.length := (List.getElem?_eq_some_iff.1 hp).1
      have key : ∀ j, j < 6 → w.cell? ⟨g, 0 + i * 6 + j, none⟩ = (cellsV p.n p.iv p.kv)[j]? := by
        intro j hj
        have := h.own.cellAt (0 + i * 6 + j) (by omega)
        rw [this, show 0 + i * 6 + j = i * 6 + j by omega, flatV_get hp j hj]
      exact ⟨⟨by simpa [cellsV] using key 0 (by omega), by simpa [cellsV] using key 1 (by omega), by simpa [cellsV] using key 2 (by omega), by simpa [cellsV] using key 3 (by omega), by simpa [cellsV, hp] using key 4 (by omega), by simpa [cellsV, hp] using key 5 (by omega)⟩, h.hok p hm⟩
    · rw [List.getElem?_map, Option.map_eq_some_iff] at hi
      obtain ⟨p, hp, rfl⟩ := hi
      have := (h.hit p (List.mem_of_getElem? hp)).keep (KeepsIn.refl _ _) (Q := fun b => B ≤ b) (fun _ _ x => x.1)
      simpa [hp] using this
    · rw [List.getElem?_map, Option.map_eq_some_iff] at hi
      obtain ⟨p, hp, rfl⟩ := hi
      have := (h.hky p (List.mem_of_getElem? hp)).keep (KeepsIn.refl _ _) (Q := fun b => B ≤ b) (fun _ _ x => x.1)
      simpa [hp] using this
  · have he : ps = [] := List.eq_nil_of_length_eq_zero (by omega)
    subst he
    exact .mk A c [] 0 0 (fun _ => undef) (fun _ => undef) (by simp) hcm (fun h => absurd rfl h) (fun i n hi => by simp at hi) (fun i n hi => by simp at hi) (fun i n hi => by simp at hi)

theorem info_strK : (Tryd.prog.info? 9).map (fun i => (i.zero, i.size, i.bytes)) = some (some (.string ⟨#[]⟩), 1, 16) := by kernel_rfl
theorem info_valK : (Tryd.prog.info? 35).map (fun i => (i.zero, i.size, i.bytes)) = some (some (.agg #[.int .i64 0, .bool false, .int .i64 0, .string ⟨#[]⟩, .slice none 0 0, .slice none 0 0]), 6, 88) := by kernel_rfl
theorem cellsV_one (n : Val) (A A2 : Option Addr) (m c m2 c2 : Nat) : ∀ u ∈ cellsV n (.slice A m c) (.slice A2 m2 c2), u.oneCell' = true := by
  intro u hu
  simp [cellsV] at hu
  rcases hu with rfl | rfl | rfl | rfl | rfl | rfl <;> rfl

/-- a copy in new blocks -/
def ClonePost (v : Val) (w : World) (e : Ending) (w' : World) : Prop := ∃ (A1 : Option Addr) (n1 c1 : Nat) (A2 : Option Addr) (n2 c2 : Nat), e = .returned (valAgg v (.slice A1 n1 c1) (.slice A2 n2 c2)) ∧ ValIn w' (fun b => w.heap.size ≤ b) (valAgg v (.slice A1 n1 c1) (.slice A2 n2 c2)) v ∧ Below w.heap.size w w'

end Go.Proofs.YtphmhhonbkcajaaDoor
