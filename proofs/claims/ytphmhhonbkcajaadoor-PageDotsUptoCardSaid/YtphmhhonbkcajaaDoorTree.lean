/-
  Documents that the call itself has made: each list's row with its footprint (the blocks that it lies in), so that one place can be written without touching another.
-/
import Derived.Test.YtphmhhonbkcajaaDoorNodes
import Derived.Test.YtphmhhonbkcajaaDoorOwn
import Derived.Laws.OwnMore
namespace Go.Proofs.YtphmhhonbkcajaaDoor
open Go.RowKit Go.Deep

/-- a node whose Kids lie in the blocks q, the slice value kv -/
structure Part where
  n : Node
  kv : Value
  q : Nat → Prop

/-- a node's cells -/
def nodeVals (n : Node) (kv : Value) : List Value := [.int .i64 n.kind, .int .i64 n.level, .string n.text, .string n.dest, .string n.title, kv]
def flat : List Part → List Value
  | [] => []
  | p :: r => nodeVals p.n p.kv ++ flat r

theorem flat_append (a b : List Part) : flat (a ++ b) = flat a ++ flat b := by
  induction a with
  | nil => rfl
  | cons p r ih => simp [flat, ih, List.append_assoc]
theorem flat_length (a : List Part) : (flat a).length = a.length * 6 := by
  induction a with
  | nil => rfl
  | cons p r ih => simp only [flat, List.length_append, ih, List.length_cons, nodeVals]; simp; omega
theorem flat_get : ∀ {a : List Part} {i : Nat} {p : Part}, a[i]? = some p → ∀ j, j < 6 → (flat a)[i * 6 + j]? = (nodeVals p.n p.kv)[j]?
  | p :: r, 0, q, h, j, hj => by
    simp at h; subst h
    rw [flat, Nat.zero_mul, Nat.zero_add, List.getElem?_append_left (by simp [nodeVals]; omega)]
  | p :: r, i + 1, q, h, j, hj => by
    rw [flat, List.getElem?_append_right (by simp [nodeVals]; omega)]
    have : (i + 1) * 6 + j - (nodeVals p.n p.kv).length = i * 6 + j := by simp [nodeVals]; omega
    rw [this]
    exact flat_get (by simpa using h) j hj
theorem flat_set : ∀ {a : List Part} {i : Nat} {p p' : Part} {j : Nat} {u : Value}, a[i]? = some p → j < 6 → nodeVals p'.n p'.kv = (nodeVals p.n p.kv).set j u → flat (a.set i p') = (flat a).set (i * 6 + j) u
  | p :: r, 0, q, p', j, u, h, hj, he => by
    simp at h; subst h
    rw [List.set_cons_zero, flat, flat, he, Nat.zero_mul, Nat.zero_add, List.set_append_left _ _ (by simp [nodeVals]; omega)]
  | p :: r, i + 1, q, p', j, u, h, hj, he => by
    rw [List.set_cons_succ, flat, flat, flat_set (by simpa using h) hj he, List.set_append_right _ _ (by simp [nodeVals]; omega)]
    have : (i + 1) * 6 + j - (nodeVals p.n p.kv).length = i * 6 + j := by simp [nodeVals]; omega
    rw [this]

/-- what a node's cells may hold -/
def NodeOk (n : Node) : Prop := I64 n.kind ∧ I64 n.level ∧ n.text.size ≤ maxLen ∧ n.dest.size ≤ maxLen ∧ n.title.size ≤ maxLen

/-- a tree of nodes of the call's own: in blocks of P alone -/
inductive TreeAt (w : World) (B : Nat) : (Nat → Prop) → Value → List Node → Prop
  | mk (P : Nat → Prop) (v : Value) (ps : List Part) (own : w.ownsRow B 28 6 v ps.length (flat ps)) (hP : ∀ g, v.ownBlock = some g → P g)
      (hk : ∀ p, p ∈ ps → TreeAt w B p.q p.kv p.n.kids) (hs : ∀ p, p ∈ ps → ∀ b, p.q b → P b ∧ v.ownBlock ≠ some b)
      (hd : ps.Pairwise fun p p' => ∀ b, p.q b → ¬ p'.q b) (hn : ∀ p, p ∈ ps → NodeOk p.n) : TreeAt w B P v (ps.map (·.n))

/-- the same, opened at its head -/
structure Parts (w : World) (B : Nat) (P : Nat → Prop) (v : Value) (ps : List Part) : Prop where
  own : w.ownsRow B 28 6 v ps.length (flat ps)
  hP : ∀ g, v.ownBlock = some g → P g
  hk : ∀ p, p ∈ ps → TreeAt w B p.q p.kv p.n.kids
  hs : ∀ p, p ∈ ps → ∀ b, p.q b → P b ∧ v.ownBlock ≠ some b
  hd : ps.Pairwise fun p p' => ∀ b, p.q b → ¬ p'.q b
  hn : ∀ p, p ∈ ps → NodeOk p.n

theorem Parts.tree {w : World} {B : Nat} {P : Nat → Prop} {v : Value} {ps : List Part} (h : Parts w B P v ps) : TreeAt w B P v (ps.map (·.n)) :=
  .mk P v ps h.own h.hP h.hk h.hs h.hd h.hn

theorem TreeAt.inv {w : World} {B : Nat} {P : Nat → Prop} {v : Value} {l : List Node} (h : TreeAt w B P v l) : ∃ ps, l = ps.map (·.n) ∧ Parts w B P v ps := by
  cases h with
  | mk P v ps own hP hk hs hd hn => exact ⟨ps, rfl, ⟨own, hP, hk, hs, hd, hn⟩⟩

theorem TreeAt.mono {w : World} {B : Nat} {P P' : Nat → Prop} {v : Value} {l : List Node} (h : TreeAt w B P v l) (hPP : ∀ b, P b → P' b) : TreeAt w B P' v l := by
  obtain ⟨ps, rfl, hq⟩ := h.inv
  exact .mk P' v ps hq.own (fun g hg => hPP g (hq.hP g hg)) hq.hk (fun p hp b hb => ⟨hPP b (hq.hs p hp b hb).1, (hq.hs p hp b hb).2⟩) hq.hd hq.hn
theorem Parts.mono {w : World} {B : Nat} {P P' : Nat → Prop} {v : Value} {ps : List Part} (h : Parts w B P v ps) (hPP : ∀ b, P b → P' b) : Parts w B P' v ps :=
  ⟨h.own, fun g hg => hPP g (h.hP g hg), h.hk, fun p hp b hb => ⟨hPP b (h.hs p hp b hb).1, (h.hs p hp b hb).2⟩, h.hd, h.hn⟩

theorem own_agree {w w' : World} {B : Nat} {e : TypeId} {K : Nat} {v : Value} {n : Nat} {xs : List Value} (h : w.ownsRow B e K v n xs) (hh : ∀ g, v.ownBlock = some g → w'.heap[g]? = w.heap[g]?) : w'.ownsRow B e K v n xs := by
  refine ⟨h.1, ?_⟩
  rcases h.2 with hn | ⟨g, cap, cur, rfl, hb, hgg, rest⟩
  · exact .inl hn
  · refine .inr ⟨g, cap, cur, rfl, hb, ?_, rest⟩
    rw [hh g rfl]
    exact hgg

theorem TreeAt.keep {w w' : World} {B : Nat} {P : Nat → Prop} {v : Value} {l : List Node} (h : TreeAt w B P v l) : (∀ b, P b → w'.heap[b]? = w.heap[b]?) → TreeAt w' B P v l := by
  induction h with
  | mk P v ps own hP hk hs hd hn ih =>
    intro hh
    exact .mk P v ps (own_agree own fun g hg => hh g (hP g hg)) hP (fun p hp => ih p hp fun b hb => hh b (hs p hp b hb).1) hs hd hn

theorem Parts.keep {w w' : World} {B : Nat} {P : Nat → Prop} {v : Value} {ps : List Part} (h : Parts w B P v ps) (hh : ∀ b, P b → w'.heap[b]? = w.heap[b]?) : Parts w' B P v ps :=
  ⟨own_agree h.own fun g hg => hh g (h.hP g hg), h.hP, fun p hp => (h.hk p hp).keep fun b hb => hh b (h.hs p hp b hb).1, h.hs, h.hd, h.hn⟩

theorem Parts.nil (w : World) (B : Nat) (P : Nat → Prop) : Parts w B P (.slice none 0 0) [] :=
  ⟨World.ownsRow_nil _ _ _ _, fun g hg => by simp [Value.ownBlock] at hg, fun p hp => by simp at hp, fun p hp => by simp at hp, List.Pairwise.nil, fun p hp => by simp at hp⟩
theorem TreeAt.nil (w : World) (B : Nat) (P : Nat → Prop) : TreeAt w B P (.slice none 0 0) [] := (Parts.nil w B P).tree

/-- a tree reads as a document -/
theorem TreeAt.nodes {w : World} {B : Nat} {P : Nat → Prop} {v : Value} {l : List Node} (h : TreeAt w B P v l) : NodesAt w v l := by
  induction h with
  | mk P v ps own hP hk hs hd hn ih =>
    obtain ⟨A, c, rfl, hc, hnc, hA⟩ := own_form own
    have hlen : (ps.map (·.n)).length = ps.length := by simp
    rw [show (Value.slice A ps.length c) = .slice A (ps.map (·.n)).length c by rw [hlen]]
    by_cases h0 : 0 < ps.length
    · obtain ⟨g, rfl, hBg, hgl⟩ := hA h0
      refine .mk (some ⟨g, 0, none⟩) c (ps.map (·.n)) g 0 (fun i => (ps[i]?.map (·.kv)).getD undef) (by rw [hlen]; exact hnc) hc (fun _ => rfl) (fun i n hi => ?_) (fun i n hi => ?_)
      · rw [List.getElem?_map, Option.map_eq_some_iff] at hi
        obtain ⟨p, hp, rfl⟩ := hi
        have hm := List.mem_of_getElem? hp
        have hip : i < ps.length := (List.getElem?_eq_some_iff.1 hp).1
        have key : ∀ j, j < 6 → w.cell? ⟨g, 0 + i * 6 + j, none⟩ = (nodeVals p.n p.kv)[j]? := by
          intro j hj
          have := own.cellAt (0 + i * 6 + j) (by omega)
          rw [this, show 0 + i * 6 + j = i * 6 + j by omega, flat_get hp j hj]
        obtain ⟨a, b, c2, d, e⟩ := hn p hm
        refine ⟨by simpa [nodeVals] using key 0 (by omega), by simpa [nodeVals] using key 1 (by omega), by simpa [nodeVals] using key 2 (by omega), by simpa [nodeVals] using key 3 (by omega),
          by simpa [nodeVals] using key 4 (by omega), by simpa [nodeVals, hp] using key 5 (by omega), a, b, c2, d, e⟩
      · rw [List.getElem?_map, Option.map_eq_some_iff] at hi
        obtain ⟨p, hp, rfl⟩ := hi
        simpa [hp] using ih p (List.mem_of_getElem? hp)
    · have he : ps = [] := List.eq_nil_of_length_eq_zero (by omega)
      subst he
      refine .mk A c [] 0 0 (fun _ => undef) (by simp) hc (fun h => absurd rfl h) (fun i n hi => by simp at hi) (fun i n hi => by simp at hi)

/-- one node more at the end -/
theorem Parts.push {W w' : World} {B : Nat} {P Q : Nat → Prop} {v v' : Value} {ps : List Part} {n : Node} {kv : Value} (h : Parts W B P v ps) (hkid : TreeAt W B Q kv n.kids) (hok : NodeOk n) (hPQ : ∀ b, P b → ¬ Q b)
    (hPl : ∀ b, P b → b < W.heap.size) (hQl : ∀ b, Q b → b < W.heap.size) (own' : w'.ownsRow B 28 6 v' (ps.length + 1) (flat ps ++ nodeVals n kv)) (hg : W.grownBy w' v.ownBlock)
    (hv : ∀ g, v'.ownBlock = some g → v.ownBlock = some g ∨ W.heap.size ≤ g) : Parts w' B (fun b => P b ∨ Q b ∨ v'.ownBlock = some b) v' (ps ++ [⟨n, kv, Q⟩]) := by
  have hne : ∀ b, b < W.heap.size → v.ownBlock ≠ some b → v'.ownBlock ≠ some b := by
    intro b hb hb2 hb3
    rcases hv b hb3 with h1 | h1
    · exact hb2 h1
    · omega
  have hvQ : ∀ b, Q b → v.ownBlock ≠ some b := fun b hb hb2 => hPQ b (h.hP b hb2) hb
  have kept : ∀ b, b < W.heap.size → v.ownBlock ≠ some b → w'.heap[b]? = W.heap[b]? := fun b hb hb2 => hg.block b hb (fun e => hb2 e.symm)
  refine ⟨?_, fun g hg => Or.inr (Or.inr hg), fun p hp => ?_, fun p hp b hb => ?_, ?_, fun p hp => ?_⟩
  · rw [List.length_append, flat_append]
    simpa [flat] using own'
  · rcases List.mem_append.1 hp with hp | hp
    · exact (h.hk p hp).keep fun b hb => kept b (hPl b (h.hs p hp b hb).1) (h.hs p hp b hb).2
    · simp only [List.mem_singleton] at hp
      subst hp
      exact hkid.keep fun b hb => kept b (hQl b hb) (hvQ b hb)
  · rcases List.mem_append.1 hp with hp | hp
    · have := h.hs p hp b hb
      exact ⟨Or.inl this.1, hne b (hPl b this.1) this.2⟩
    · simp only [List.mem_singleton] at hp
      subst hp
      exact ⟨Or.inr (Or.inl hb), hne b (hQl b hb) (hvQ b hb)⟩
  · rw [List.pairwise_append]
    refine ⟨h.hd, List.pairwise_singleton _ _, fun p hp p' hp' b hb hb' => ?_⟩
    simp only [List.mem_singleton] at hp'
    subst hp'
    exact hPQ b (h.hs p hp b hb).1 hb'
  · rcases List.mem_append.1 hp with hp | hp
    · exact h.hn p hp
    · simp only [List.mem_singleton] at hp
      subst hp
      exact hok

/-- one node at its place turned: its own cells in the row, its Kids within their blocks -/
theorem Parts.turn {w w' : World} {B : Nat} {P : Nat → Prop} {v : Value} {ps : List Part} {k : Nat} {p : Part} {n' : Node} (h : Parts w B P v ps) (hp : ps[k]? = some p) (hok : NodeOk n')
    (own' : w'.ownsRow B 28 6 v ps.length (flat (ps.set k ⟨n', p.kv, p.q⟩))) (hkid : TreeAt w' B p.q p.kv n'.kids)
    (hkeep : ∀ b, P b → v.ownBlock ≠ some b → ¬ p.q b → w'.heap[b]? = w.heap[b]?) : Parts w' B P v (ps.set k ⟨n', p.kv, p.q⟩) := by
  have hk : k < ps.length := (List.getElem?_eq_some_iff.1 hp).1
  have hpm := List.mem_of_getElem? hp
  have hmem : ∀ x, x ∈ ps.set k ⟨n', p.kv, p.q⟩ → x = ⟨n', p.kv, p.q⟩ ∨ (x ∈ ps ∧ ∀ b, x.q b → ¬ p.q b) := by
    intro x hx
    obtain ⟨i, hi⟩ := List.getElem?_of_mem hx
    by_cases hik : i = k
    · subst hik
      rw [List.getElem?_set_self (by omega)] at hi
      exact Or.inl (by simpa using hi.symm)
    · rw [List.getElem?_set_ne (fun e => hik e.symm)] at hi
      have hi2 := (List.getElem?_eq_some_iff.1 hi)
      refine Or.inr ⟨List.mem_of_getElem? hi, fun b hb hb2 => ?_⟩
      have hd := List.pairwise_iff_getElem.1 h.hd
      obtain ⟨hil, hie⟩ := hi2
      obtain ⟨hkl, hke⟩ := List.getElem?_eq_some_iff.1 hp
      rcases Nat.lt_or_gt_of_ne hik with hlt | hlt
      · exact hd i k hil hkl hlt b (by rw [hie]; exact hb) (by rw [hke]; exact hb2)
      · exact hd k i hkl hil hlt b (by rw [hke]; exact hb2) (by rw [hie]; exact hb)
  refine ⟨by rw [List.length_set]; exact own', h.hP, fun x hx => ?_, fun x hx b hb => ?_, ?_, fun x hx => ?_⟩
  · rcases hmem x hx with rfl | ⟨hx, hq⟩
    · exact hkid
    · exact (h.hk x hx).keep fun b hb => hkeep b (h.hs x hx b hb).1 (h.hs x hx b hb).2 (hq b hb)
  · rcases hmem x hx with rfl | ⟨hx, hq⟩
    · exact h.hs p hpm b hb
    · exact h.hs x hx b hb
  · have hd := List.pairwise_iff_getElem.1 h.hd
    rw [List.pairwise_iff_getElem]
    intro i j hi hj hij b hb hb2
    have key : ∀ (i : Nat) (hi : i < (ps.set k ⟨n', p.kv, p.q⟩).length), (ps.set k ⟨n', p.kv, p.q⟩)[i].q = (ps[i]'(by simpa using hi)).q := by
      intro i hi
      rw [List.getElem_set]
      split
      · next e => subst e; obtain ⟨hkl, hke⟩ := List.getElem?_eq_some_iff.1 hp; rw [hke]
      · rfl
    rw [key i hi] at hb
    rw [key j hj] at hb2
    exact hd i j (by simpa using hi) (by simpa using hj) hij b hb hb2
  · rcases hmem x hx with rfl | ⟨hx, _⟩
    · exact hok
    · exact h.hn x hx


theorem own_lower {w : World} {B B' : Nat} {e : TypeId} {K : Nat} {v : Value} {n : Nat} {xs : List Value} (h : w.ownsRow B e K v n xs) (hB : B' ≤ B) : w.ownsRow B' e K v n xs := by
  refine ⟨h.1, ?_⟩
  rcases h.2 with hn | ⟨g, cap, cur, rfl, hb, rest⟩
  · exact .inl hn
  · exact .inr ⟨g, cap, cur, rfl, Nat.le_trans hB hb, rest⟩

theorem TreeAt.lower {w : World} {B B' : Nat} {P : Nat → Prop} {v : Value} {l : List Node} (h : TreeAt w B P v l) (hB : B' ≤ B) : TreeAt w B' P v l := by
  induction h with
  | mk P v ps own hP hk hs hd hn ih => exact .mk P v ps (own_lower own hB) hP (fun p hp => ih p hp) hs hd hn

/-- blocks from one number on, below another -/
def span (a b : Nat) : Nat → Prop := fun x => a ≤ x ∧ x < b

/-- what is left of a list that is being built, and of the new Kids, behind the stores into the box -/
theorem Parts.later {wr W : World} {B : Nat} {v : Value} {ps : List Part} (h : Parts wr B (span B wr.heap.size) v ps) (hk : ∀ b, b < wr.heap.size → W.heap[b]? = wr.heap[b]?) : Parts W B (span B wr.heap.size) v ps :=
  h.keep fun b hb => hk b hb.2

theorem Parts.grow {wr w1 W w' : World} {B : Nat} {v : Value} {ps : List Part} {n : Node} {u : Value} {g c : Nat} (h : Parts wr B (span B wr.heap.size) v ps) (hB : B ≤ wr.heap.size) (hok : NodeOk n)
    (hkid : TreeAt w1 (wr.heap.size + 1) (span (wr.heap.size + 1) w1.heap.size) u n.kids) (hk : ∀ b, b < wr.heap.size → W.heap[b]? = wr.heap[b]?) (hk2 : ∀ b, wr.heap.size + 1 ≤ b → b < w1.heap.size → W.heap[b]? = w1.heap[b]?) (hs : w1.heap.size ≤ W.heap.size) (hs0 : wr.heap.size ≤ w1.heap.size)
    (own' : w'.ownsRow B 28 6 (.slice (some ⟨g, 0, none⟩) (ps.length + 1) c) (ps.length + 1) (flat ps ++ nodeVals n u)) (hg : W.grownBy w' v.ownBlock) (hgv : v.ownBlock = some g ∨ W.heap.size ≤ g) :
    Parts w' B (span B w'.heap.size) (.slice (some ⟨g, 0, none⟩) (ps.length + 1) c) (ps ++ [⟨n, u, span (wr.heap.size + 1) w1.heap.size⟩]) := by
  have hkid' : TreeAt W B (span (wr.heap.size + 1) w1.heap.size) u n.kids := (hkid.lower (by omega)).keep fun b hb => hk2 b hb.1 hb.2
  have hp := (h.later hk).push hkid' hok (fun b hb hb2 => by have := hb.2; have := hb2.1; omega) (fun b hb => by have := hb.2; omega) (fun b hb => by have := hb.2; omega) own' hg
    (fun x hx => by
      simp only [Value.ownBlock, Option.some.injEq] at hx
      subst hx
      exact hgv)
  refine hp.mono fun b hb => ?_
  have hsz := hg.size
  rcases hb with hb | hb | hb
  · exact ⟨hb.1, by have := hb.2; omega⟩
  · exact ⟨by have := hb.1; omega, by have := hb.2; omega⟩
  · have := own'.lt b hb
    exact ⟨this.1, this.2⟩

end Go.Proofs.YtphmhhonbkcajaaDoor
