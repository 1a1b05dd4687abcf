/-
  ship.Plan: the steps, where nothing is wrong with the sites.
-/
import Derived.Test.YtbhildmalcfhiaaGreatDoorPlTos
import Derived.Test.YtbhildmalcfhiaaGreatDoorPlNext
import Derived.Test.YtbhildmalcfhiaaGreatDoorLkTop
import Derived.StillTail
import Derived.Test.YtbhildmalcfhiaaGreatDoorPlRefs
namespace Go.Proofs.YtbhildmalcfhiaaGreatDoor
open Go.RowKit Go.Deep

/-- the new pages among the first j, as a set -/
def freshF (a b : List OutV) (j : Nat) : List UInt8 → Option Bool := fun s => if (b.take j).any (fun o => kindP a o == 3 && o.path.data.toList == s) then some true else none
theorem freshF_yes {a b : List OutV} {j : Nat} {x : OutV} (h : b[j]? = some x) (hk : kindP a x = 3) : freshF a b (j + 1) = putF (freshF a b j) x.path.data.toList true := by
  funext s
  have e : b.take (j + 1) = b.take j ++ [x] := by rw [List.take_add_one, h]; rfl
  rw [freshF, e, List.any_append, putF, freshF]
  by_cases h1 : s = x.path.data.toList
  · subst h1; simp [hk]
  · have h2 : (x.path.data.toList == s) = false := by rw [beq_eq_false_iff_ne]; exact fun e => h1 e.symm
    simp [h1, h2]
theorem freshF_no {a b : List OutV} {j : Nat} {x : OutV} (h : b[j]? = some x) (hk : kindP a x ≠ 3) : freshF a b (j + 1) = freshF a b j := by
  funext s
  have e : b.take (j + 1) = b.take j ++ [x] := by rw [List.take_add_one, h]; rfl
  rw [freshF, e, List.any_append, freshF]
  simp [hk]
theorem freshF_some {a b : List OutV} {j : Nat} {s : List UInt8} {v : Bool} (h : freshF a b j s = some v) : ∃ k, k < b.length ∧ s = pathK b k ∧ (freshL a b).getD k false = true := by
  unfold freshF at h
  split at h
  · rename_i h1
    obtain ⟨o, ho, h2⟩ := List.any_eq_true.1 h1
    rw [Bool.and_eq_true, beq_iff_eq, beq_iff_eq] at h2
    obtain ⟨k, hk⟩ := List.getElem?_of_mem (List.mem_of_mem_take ho)
    refine ⟨k, (List.getElem?_eq_some_iff.1 hk).1, by rw [pathK, pathA_at hk]; exact h2.2.symm, ?_⟩
    rw [List.getD_eq_getElem?_getD, freshL, List.getElem?_map, hk]
    simp [h2.1]
  · cases h
theorem freshL_at {a b : List OutV} {k : Nat} (h : (freshL a b).getD k false = true) : ∃ o, b[k]? = some o ∧ kindP a o = 3 := by
  rw [List.getD_eq_getElem?_getD, freshL, List.getElem?_map] at h
  cases ho : b[k]? with
  | none => rw [ho] at h; cases h
  | some o => rw [ho] at h; exact ⟨o, rfl, by simpa using h⟩
theorem freshF_all {a b : List OutV} (hr : RiseP b) {k : Nat} (hk : k < b.length) : freshF a b b.length (pathK b k) = if (freshL a b).getD k false = true then some true else none := by
  by_cases h : (freshL a b).getD k false = true
  · rw [if_pos h]
    obtain ⟨o, ho, h3⟩ := freshL_at h
    rw [freshF, if_pos]
    rw [List.take_length]
    exact List.any_eq_true.2 ⟨o, List.mem_of_getElem? ho, by simp [h3, pathK, pathA_at ho]⟩
  · rw [if_neg h]
    cases hf : freshF a b b.length (pathK b k) with
    | none => rfl
    | some v =>
      obtain ⟨k2, hk2, e, h2⟩ := freshF_some hf
      rw [hr.inj hk hk2 e] at h
      exact absurd h2 h

/-- a map where blocks turn, but not its own -/
theorem VMap.keepX {p : Nat → Prop} {P : Program} {k : TypeId} {w w' : World} {b n : Nat} {f : List UInt8 → Option Value} (h : VMap P k w b n f) (g : GrownX p w w') (hb : ¬ p b) : VMap P k w' b n f := by
  obtain ⟨D, ⟨es, clock, h1, h2⟩, h3⟩ := h
  exact ⟨D, ⟨es, clock, (g.block b (Array.getElem?_eq_some_iff.1 h1).1 hb).trans h1, h2⟩, h3⟩
theorem MapR.keepX {α : Type} {lit : α → Lit} {p : Nat → Prop} {P : Program} {k e : TypeId} {w w' : World} {b n : Nat} {f : List UInt8 → Option α} (h : MapR lit P k e w b n f) (g : GrownX p w w') (hb : ¬ p b) : MapR lit P k e w' b n f := by
  obtain ⟨D, ⟨es, clock, h1, h2⟩, h3⟩ := h
  exact ⟨D, ⟨es, clock, (g.block b (Array.getElem?_eq_some_iff.1 h1).1 hb).trans h1, h2⟩, h3⟩
/-- a block of cells that are neither strings nor a planner -/
def OkBlk (w : World) (g : Nat) : Prop := ∃ (t : TypeId) (cs : Array Value), CB w g t cs ∧ t ≠ 9 ∧ t ≠ 82
theorem StepBlk.ok {w : World} {g : Nat} (h : StepBlk w g) : OkBlk w g := by
  obtain ⟨t, cs, h1, h2⟩ := h
  exact ⟨t, cs, h1, by rcases h2 with rfl | rfl <;> exact ⟨by decide, by decide⟩⟩
theorem OkBlk.row {w : World} {B K n g : Nat} {v : Value} {xs : List Value} (h : w.ownsRow B 62 K v n xs) (hg : v.ownBlock = some g) : OkBlk w g := by
  obtain ⟨cs, hc⟩ := own_type h hg
  exact ⟨_, cs, hc, by decide, by decide⟩
/-- the references of the new pages among the first j -/
def RefsIn (w : World) (K mr j : Nat) (a b : List OutV) : Prop := ∃ fr, VMap Tryz.prog 9 w mr j fr ∧ ∀ k o, k < j → b[k]? = some o → kindP a o = 3 → ∃ v, fr o.path.data.toList = some v ∧ w.ownsRow K 9 1 v (refsK b k).length (pstrs (refsK b k))
theorem RefsIn.keepN {p : Nat → Prop} {w w' : World} {K mr j : Nat} {a b : List OutV} (h : RefsIn w K mr j a b) (g : GrownX p w w') (hm : ¬ p mr) (hp : ∀ x, p x → ¬ ∃ cs, CB w x 9 cs) : RefsIn w' K mr j a b := by
  obtain ⟨fr, h1, h2⟩ := h
  refine ⟨fr, h1.keepX g hm, fun k o hk ho h3 => ?_⟩
  obtain ⟨v, h4, h5⟩ := h2 k o hk ho h3
  exact ⟨v, h4, own_keepX h5 g (fun x hx e => hp x e (own_type h5 hx))⟩
theorem RefsIn.skip {w : World} {K mr j : Nat} {a b : List OutV} {x : OutV} (h : RefsIn w K mr j a b) (hx : b[j]? = some x) (hk : kindP a x ≠ 3) : RefsIn w K mr (j + 1) a b := by
  obtain ⟨fr, h1, h2⟩ := h
  refine ⟨fr, h1.mono (by omega), fun k o hk2 ho h3 => ?_⟩
  by_cases e : k = j
  · subst e; rw [hx] at ho; cases ho; exact absurd h3 hk
  · exact h2 k o (by omega) ho h3
/-- a row of references more -/
theorem RefsIn.put {w' : World} {K mr j : Nat} {a b : List OutV} {x : OutV} {v : Value} (h : ∃ fr, (∀ k o, k < j → b[k]? = some o → kindP a o = 3 → ∃ v, fr o.path.data.toList = some v ∧ w'.ownsRow K 9 1 v (refsK b k).length (pstrs (refsK b k))) ∧ VMap Tryz.prog 9 w' mr (j + 1) (putF fr x.path.data.toList v)) (hr : RiseP b) (hx : b[j]? = some x)
    (hv : w'.ownsRow K 9 1 v (refsK b j).length (pstrs (refsK b j))) : RefsIn w' K mr (j + 1) a b := by
  obtain ⟨fr, h1, h2⟩ := h
  refine ⟨_, h2, fun k o hk ho h3 => ?_⟩
  by_cases e : k = j
  · subst e; rw [hx] at ho; cases ho; exact ⟨v, putF_same _ _ _, hv⟩
  · obtain ⟨u, h4, h5⟩ := h1 k o (by omega) ho h3
    refine ⟨u, ?_, h5⟩
    rw [putF_ne _ _ (fun e2 => e ?_)]
    · exact h4
    · have hj := (List.getElem?_eq_some_iff.1 hx).1
      refine hr.inj (by omega) hj ?_
      rw [pathK, pathK, pathA_at ho, pathA_at hx]; exact e2
/-- while the new site is read: jl: how far the set of new pages is filled -/
structure PrepAt (w : World) (K mr ml xb : Nat) (a b : List OutV) (j jl : Nat) (vf vc : Value) : Prop where
  box : CB w xb 82 #[.map (some mr), .map (some ml)]
  refs : RefsIn w K mr j a b
  left : BMap Tryz.prog 9 4 w ml jl (freshF a b jl)
  files : w.ownsRow K 62 2 vf (upK a b 1 j).length (outsC (upK a b 1 j))
  chg : w.ownsRow K 62 2 vc (upK a b 2 j).length (outsC (upK a b 2 j))
  apart : Apart vf vc
  lo : K ≤ mr ∧ mr < ml ∧ ml < xb
section
variable {w w' : World} {K mr ml xb : Nat} {a b : List OutV} {j jl : Nat} {vf vc : Value}
theorem PrepAt.below (h : PrepAt w K mr ml xb a b j jl vf vc) (hb : Below w.heap.size w w') : PrepAt w' K mr ml xb a b j jl vf vc :=
  ⟨h.box.below hb, h.refs.keepN (.of_below (p := fun _ => False) hb) (fun e => e) (fun _ e => e.elim), h.left.below hb, own_stay h.files hb, own_stay h.chg hb, h.apart, h.lo⟩
theorem PrepAt.alloc (h : PrepAt w K mr ml xb a b j jl vf vc) (o : Obj) : PrepAt (w.alloc o) K mr ml xb a b j jl vf vc := h.below ((Below.refl _ _).alloc (Nat.le_refl _) o)
theorem PrepAt.drew (h : PrepAt w K mr ml xb a b j jl vf vc) : PrepAt w.drew K mr ml xb a b j jl vf vc := h.below (Below.refl _ _).drew
theorem PrepAt.skip {x : OutV} (h : PrepAt w K mr ml xb a b j j vf vc) (hx : b[j]? = some x) (hk : kindP a x = 0) : PrepAt w K mr ml xb a b (j + 1) (j + 1) vf vc :=
  ⟨h.box, h.refs.skip hx (by rw [hk]; decide), by rw [freshF_no hx (by rw [hk]; decide)]; exact h.left.mono (by omega), by rw [upK_no hx (by rw [hk]; decide)]; exact h.files, by rw [upK_no hx (by rw [hk]; decide)]; exact h.chg, h.apart, h.lo⟩
/-- a row of outputs grows: the rest stays -/
theorem PrepAt.grown {B n : Nat} {v : Value} {xs : List Value} (h : PrepAt w K mr ml xb a b j jl vf vc) (hr : w.ownsRow B 62 2 v n xs) (hg : w.grownBy w' v.ownBlock) : CB w' xb 82 #[.map (some mr), .map (some ml)] ∧ RefsIn w' K mr j a b ∧ BMap Tryz.prog 9 4 w' ml jl (freshF a b jl) := by
  have hX := GrownX.of_grown (p := fun x => v.ownBlock = some x) hg (fun _ e => e)
  refine ⟨h.box.grown hr hg (by decide), h.refs.keepN hX (fun e => ?_) (fun x e => ?_), mapR_grown h.left hr hg⟩
  · obtain ⟨cs, hc⟩ := own_type hr e
    obtain ⟨fr, h1, _⟩ := h.refs
    obtain ⟨es, c, hm⟩ := h1.block
    rw [show w.heap[mr]? = _ from hc] at hm; cases hm
  · rintro ⟨cs, hc⟩
    obtain ⟨cs2, hc2⟩ := own_type hr e
    have h9 := hc.symm.trans hc2
    simp at h9
theorem PrepAt.file {x : OutV} {g c n : Nat} (h : PrepAt w K mr ml xb a b j j vf vc) (hx : b[j]? = some x) (hk : kindP a x = 1) (hn : (upK a b 1 j).length = n) (ho : w'.ownsRow K 62 2 (.slice (some ⟨g, 0, none⟩) (n + 1) c) (n + 1) (outsC (upK a b 1 j) ++ [.string x.path, .string x.body]))
    (hg : w.grownBy w' vf.ownBlock) (hgg : vf.ownBlock = some g ∨ w.heap.size ≤ g) : PrepAt w' K mr ml xb a b (j + 1) (j + 1) (.slice (some ⟨g, 0, none⟩) (n + 1) c) vc := by
  obtain ⟨h1, h2, h3⟩ := h.grown h.files hg
  refine ⟨h1, h2.skip hx (by rw [hk]; decide), by rw [freshF_no hx (by rw [hk]; decide)]; exact h3.mono (by omega), ?_, ?_, h.apart.push hgg (fun k hk => own_lt h.chg k hk), h.lo⟩
  · rw [upK_yes hx hk, List.length_append, hn, outsC_snoc]; exact ho
  · rw [upK_no hx (by rw [hk]; decide)]
    exact own_other h.chg h.files hg (Apart.or h.apart.symm)
theorem PrepAt.change {x : OutV} {g c n : Nat} (h : PrepAt w K mr ml xb a b j j vf vc) (hx : b[j]? = some x) (hk : kindP a x = 2) (hn : (upK a b 2 j).length = n) (ho : w'.ownsRow K 62 2 (.slice (some ⟨g, 0, none⟩) (n + 1) c) (n + 1) (outsC (upK a b 2 j) ++ [.string x.path, .string x.body]))
    (hg : w.grownBy w' vc.ownBlock) (hgg : vc.ownBlock = some g ∨ w.heap.size ≤ g) : PrepAt w' K mr ml xb a b (j + 1) (j + 1) vf (.slice (some ⟨g, 0, none⟩) (n + 1) c) := by
  obtain ⟨h1, h2, h3⟩ := h.grown h.chg hg
  refine ⟨h1, h2.skip hx (by rw [hk]; decide), by rw [freshF_no hx (by rw [hk]; decide)]; exact h3.mono (by omega), ?_, ?_, (Apart.push h.apart.symm hgg (fun k hk => own_lt h.files k hk)).symm, h.lo⟩
  · rw [upK_no hx (by rw [hk]; decide)]
    exact own_other h.files h.chg hg (Apart.or h.apart)
  · rw [upK_yes hx hk, List.length_append, hn, outsC_snoc]; exact ho
theorem map_block_ne {w : World} {b c : Nat} {t : TypeId} {cs : Array Value} (h : ∃ es clock, w.heap[b]? = some (.map es clock)) (hc : CB w c t cs) : c ≠ b := fun e => by
  obtain ⟨es, cl, h1⟩ := h
  subst e
  rw [show w.heap[c]? = _ from hc] at h1; cases h1
/-- a new page is left -/
theorem PrepAt.take {x : OutV} (h : PrepAt w K mr ml xb a b j j vf vc) (hx : b[j]? = some x) (hk : kindP a x = 3) (hm : BMap Tryz.prog 9 4 w' ml (j + 1) (putF (freshF a b j) x.path.data.toList true)) (ht : w.mapTurned w' ml) : PrepAt w' K mr ml xb a b j (j + 1) vf vc := by
  have hX := GrownX.of_grown (p := fun x => x = ml) ht.grown (fun g hg => (Option.some.inj hg).symm)
  have hb := h.left.block
  exact ⟨h.box.keepX hX (map_block_ne hb h.box), h.refs.keepN hX (by have := h.lo; omega) (fun x e => by rintro ⟨cs, hc⟩; exact map_block_ne hb hc e), by rw [freshF_yes hx hk]; exact hm, own_mapTurn h.files hb ht, own_mapTurn h.chg hb ht, h.apart, h.lo⟩
/-- and its references are there -/
theorem PrepAt.ref {x : OutV} {v : Value} {fr : List UInt8 → Option Value} (h : PrepAt w K mr ml xb a b j (j + 1) vf vc) (hr : RiseP b) (hx : b[j]? = some x) (hk : kindP a x = 3)
    (hfr : ∀ k o, k < j → b[k]? = some o → kindP a o = 3 → ∃ v, fr o.path.data.toList = some v ∧ w.ownsRow K 9 1 v (refsK b k).length (pstrs (refsK b k)))
    (hm : VMap Tryz.prog 9 w' mr (j + 1) (putF fr x.path.data.toList v)) (ht : w.mapTurned w' mr) (hv : w.ownsRow K 9 1 v (refsK b j).length (pstrs (refsK b j))) : PrepAt w' K mr ml xb a b (j + 1) (j + 1) vf vc := by
  have hX := GrownX.of_grown (p := fun x => x = mr) ht.grown (fun g hg => (Option.some.inj hg).symm)
  have hb : ∃ es clock, w.heap[mr]? = some (.map es clock) := by obtain ⟨f9, h1, _⟩ := h.refs; exact h1.block
  refine ⟨h.box.keepX hX (map_block_ne hb h.box), RefsIn.put ⟨fr, fun k o h1 h2 h3 => ?_, hm⟩ hr hx (own_mapTurn hv hb ht), h.left.keepX hX (by have := h.lo; omega), ?_, ?_, h.apart, h.lo⟩
  · obtain ⟨u, h4, h5⟩ := hfr k o h1 h2 h3
    exact ⟨u, h4, own_mapTurn h5 hb ht⟩
  · rw [upK_no hx (by rw [hk]; decide)]; exact own_mapTurn h.files hb ht
  · rw [upK_no hx (by rw [hk]; decide)]; exact own_mapTurn h.chg hb ht
end
theorem freshF_zero (a b : List OutV) : freshF a b 0 = fun _ => none := by funext s; simp [freshF]
theorem PrepAt.start (w : World) (a b : List OutV) : PrepAt (((w.alloc (.map #[] 0)).alloc (.map #[] 0)).alloc (.cells #[.map (some w.heap.size), .map (some (w.heap.size + 1))] 82)) w.heap.size w.heap.size (w.heap.size + 1) (w.heap.size + 1 + 1) a b 0 0 (.slice none 0 0) (.slice none 0 0) := by
  refine ⟨?_, ⟨_, ((vmap_made w).alloc _).alloc _, fun k o hk => absurd hk (by omega)⟩, ?_, World.ownsRow_nil _ _ _ _, World.ownsRow_nil _ _ _ _, Apart.nil _ 0, by omega⟩
  · have := CB.new ((w.alloc (.map #[] 0)).alloc (.map #[] 0)) #[.map (some w.heap.size), .map (some (w.heap.size + 1))] 82
    rw [World.size_alloc, World.size_alloc] at this
    exact this
  · have : BMap Tryz.prog 9 4 ((w.alloc (.map #[] 0)).alloc (.map #[] 0)) (w.alloc (.map #[] 0)).heap.size 0 (fun _ => none) := mapR_made _
    rw [World.size_alloc] at this
    rw [freshF_zero]
    exact this.alloc _
/-- while the closures are taken -/
structure TakeAt (w : World) (K mr ml xb : Nat) (a b : List OutV) (left : Nat → Bool) : Prop where
  box : CB w xb 82 #[.map (some mr), .map (some ml)]
  refs : RefsIn w K mr b.length a b
  lefts : ∃ fl : List UInt8 → Option Bool, BMap Tryz.prog 9 4 w ml b.length fl ∧ (∀ k, k < b.length → fl (pathK b k) = if left k = true then some true else none) ∧ ∀ s x, fl s = some x → ∃ k, k < b.length ∧ s = pathK b k
  lt : ∀ k, left k = true → (freshL a b).getD k false = true
  lo : K ≤ mr ∧ mr < ml ∧ ml < xb
theorem PrepAt.all {w : World} {K mr ml xb : Nat} {a b : List OutV} {vf vc : Value} (h : PrepAt w K mr ml xb a b b.length b.length vf vc) (hr : RiseP b) : TakeAt w K mr ml xb a b (fun k => (freshL a b).getD k false) :=
  ⟨h.box, h.refs, ⟨_, h.left, fun k hk => freshF_all hr hk, fun s x hs => by obtain ⟨k, h1, h2, _⟩ := freshF_some hs; exact ⟨k, h1, h2⟩⟩, fun k hk => hk, h.lo⟩
theorem TakeAt.planIn {w : World} {K mr ml xb : Nat} {a b : List OutV} {left : Nat → Bool} (h : TakeAt w K mr ml xb a b left) : PlanIn w xb mr ml b (tosP b) left := by
  obtain ⟨fl, h1, h2, h3⟩ := h.lefts
  obtain ⟨fr, h4, h5⟩ := h.refs
  have hlt : ∀ k, left k = true → k < b.length := fun k hk => by
    obtain ⟨o, ho, _⟩ := freshL_at (h.lt k hk)
    exact (List.getElem?_eq_some_iff.1 ho).1
  refine ⟨h.box, ⟨_, fr, h4, fun k hk => ?_⟩, ⟨_, fl, h1, h2, h3⟩, fun k hk => ⟨hlt k hk, fun n hn => tosP_lt hn⟩⟩
  obtain ⟨o, ho, h6⟩ := freshL_at (h.lt k hk)
  obtain ⟨v, h7, h8⟩ := h5 k o (hlt k hk) ho h6
  refine ⟨v, by rw [pathK, pathA_at ho]; exact h7, ?_⟩
  rw [tosP_path]
  exact PL.of_own h8
section
variable {w w' : World} {K mr ml xb : Nat} {a b : List OutV} {left : Nat → Bool}
theorem TakeAt.keepN {p : Nat → Prop} (h : TakeAt w K mr ml xb a b left) (g : GrownX p w w') (hp : ∀ x, p x → OkBlk w x) : TakeAt w' K mr ml xb a b left := by
  have hmap : ∀ {m : Nat}, (∃ es clock, w.heap[m]? = some (.map es clock)) → ¬ p m := fun hm e => by
    obtain ⟨t, cs, hc, _⟩ := hp _ e
    exact map_block_ne hm hc rfl
  obtain ⟨fl, h1, h2⟩ := h.lefts
  refine ⟨h.box.keepX g (fun e => ?_), h.refs.keepN g (fun e => ?_) (fun x e => ?_), ⟨fl, h1.keepX g (hmap h1.block), h2⟩, h.lt, h.lo⟩
  · obtain ⟨t, cs, hc, _, h3⟩ := hp _ e
    have h9 := hc.symm.trans h.box
    simp at h9
    exact h3 h9.2
  · obtain ⟨fr, h3, _⟩ := h.refs
    exact hmap h3.block e
  · rintro ⟨cs, hc⟩
    obtain ⟨t, cs2, hc2, h3, _⟩ := hp _ e
    have h9 := hc.symm.trans hc2
    simp at h9
    exact h3 h9.2.symm
theorem TakeAt.below (h : TakeAt w K mr ml xb a b left) (hb : Below w.heap.size w w') : TakeAt w' K mr ml xb a b left := h.keepN (.of_below (p := fun _ => False) hb) (fun _ e => e.elim)
/-- behind a turn of the set of what is left -/
theorem TakeAt.turn {left' : Nat → Bool} {fl : List UInt8 → Option Bool} (h : TakeAt w K mr ml xb a b left) (g : GrownX (fun x => x = ml) w w') (hm : BMap Tryz.prog 9 4 w' ml b.length fl)
    (h2 : ∀ k, k < b.length → fl (pathK b k) = if left' k = true then some true else none) (h3 : ∀ s x, fl s = some x → ∃ k, k < b.length ∧ s = pathK b k) (hl : ∀ k, left' k = true → left k = true) : TakeAt w' K mr ml xb a b left' := by
  obtain ⟨f0, h1, _⟩ := h.lefts
  exact ⟨h.box.keepX g (map_block_ne h1.block h.box), h.refs.keepN g (by have := h.lo; omega) (fun x e => by rintro ⟨cs, hc⟩; exact map_block_ne h1.block hc e), ⟨fl, hm, h2, h3⟩, fun k hk => h.lt k (hl k hk), h.lo⟩
end
/-- the set of what is left, behind deletions -/
theorem left_del {b : List OutV} {left : Nat → Bool} {C : List Nat} {i c : Nat} {fl : List UInt8 → Option Bool} (hr : RiseP b) (hi : C[i]? = some c) (hc : c < b.length) (h : ∀ k, k < b.length → fl (pathK b k) = if without left (C.take i) k = true then some true else none) :
    ∀ k, k < b.length → delF fl (pathK b c) (pathK b k) = if without left (C.take (i + 1)) k = true then some true else none := fun k hk => by
  obtain ⟨hi2, rfl⟩ := List.getElem?_eq_some_iff.1 hi
  have e : without left (C.take (i + 1)) k = (without left (C.take i) k && !(k == C[i])) := by
    rw [without, without, List.take_succ_eq_append_getElem hi2]
    generalize C.take i = D
    cases left k with
    | false => rfl
    | true =>
      rw [Bool.eq_iff_iff]
      simp
  rw [delF, e]
  by_cases h1 : k = C[i]
  · subst h1; simp
  · rw [if_neg (fun e2 => h1 (hr.inj hk hc e2)), h k hk]
    simp [h1]
theorem without_nil (left : Nat → Bool) : without left [] = left := by funext k; simp [without]
theorem del_some {f : List UInt8 → Option Bool} {s t : List UInt8} {x : Bool} (h : delF f s t = some x) : f t = some x := by
  unfold delF at h
  split at h
  · cases h
  · exact h
/-- the paths of what is left -/
def leftL (b : List OutV) (left : Nat → Bool) : List (List UInt8) := ((List.range b.length).filter left).map (pathK b)
theorem leftL_nodup {b : List OutV} {left : Nat → Bool} (hr : RiseP b) : (leftL b left).Nodup := by
  rw [leftL, List.nodup_iff_pairwise_ne, List.pairwise_map]
  have h1 : ((List.range b.length).filter left).Pairwise (· < ·) := List.pairwise_lt_range.filter _
  refine h1.imp_of_mem (fun {i j} hi hj hij e => ?_)
  have hi2 := List.mem_range.1 (List.mem_filter.1 hi).1
  have hj2 := List.mem_range.1 (List.mem_filter.1 hj).1
  have := hr.inj hi2 hj2 e
  omega
theorem leftL_mem {b : List OutV} {left : Nat → Bool} {fl : List UInt8 → Option Bool} (h2 : ∀ k, k < b.length → fl (pathK b k) = if left k = true then some true else none) (h3 : ∀ s x, fl s = some x → ∃ k, k < b.length ∧ s = pathK b k) (s : List UInt8) : (fl s).isSome = true ↔ s ∈ leftL b left := by
  constructor
  · intro h
    obtain ⟨x, hx⟩ := Option.isSome_iff_exists.1 h
    obtain ⟨k, hk, rfl⟩ := h3 s x hx
    refine List.mem_map.2 ⟨k, List.mem_filter.2 ⟨List.mem_range.2 hk, ?_⟩, rfl⟩
    rw [h2 k hk] at hx
    split at hx
    · assumption
    · cases hx
  · intro h
    obtain ⟨k, hk, rfl⟩ := List.mem_map.1 h
    obtain ⟨h4, h5⟩ := List.mem_filter.1 hk
    rw [h2 k (List.mem_range.1 h4), if_pos h5]; rfl
theorem leftL_ex {b : List OutV} {left : Nat → Bool} (h : 0 < (leftL b left).length) : ∃ i, left i = true := by
  cases he : leftL b left with
  | nil => rw [he] at h; cases h
  | cons s r =>
    have : s ∈ leftL b left := by rw [he]; simp
    obtain ⟨k, hk, _⟩ := List.mem_map.1 this
    exact ⟨k, (List.mem_filter.1 hk).2⟩
theorem leftL_no {b : List OutV} {left : Nat → Bool} (h : (leftL b left).length = 0) (hl : ∀ k, left k = true → k < b.length) (k : Nat) : left k = false := by
  cases hk : left k with
  | false => rfl
  | true =>
    have : pathK b k ∈ leftL b left := List.mem_map.2 ⟨k, List.mem_filter.2 ⟨List.mem_range.2 (hl k hk), hk⟩, rfl⟩
    rw [List.eq_nil_of_length_eq_zero h] at this
    cases this
theorem leftL_less {b : List OutV} {left : Nat → Bool} {tf : Nat → List Nat} {C : List Nat} (hb : BestC tf left C) (hl : ∀ k, left k = true → k < b.length) : (leftL b (without left C)).length < (leftL b left).length := by
  obtain ⟨i, hi, hc⟩ := hb.ex
  rw [leftL, leftL, List.length_map, List.length_map, ← List.countP_eq_length_filter, ← List.countP_eq_length_filter]
  have hi2 : i ∈ List.range b.length := List.mem_range.2 (hl i hi)
  have hic : without left C i = false := by
    have h1 := (hc.mem i).2 .here
    rw [without, hi]; simp [h1]
  have key : ∀ L : List Nat, i ∈ L → L.countP (without left C) < L.countP left := by
    intro L
    have hle : ∀ L : List Nat, L.countP (without left C) ≤ L.countP left := fun L => List.countP_mono_left (fun x _ h => by rw [without, Bool.and_eq_true] at h; exact h.1)
    induction L with
    | nil => intro h; cases h
    | cons x r ih =>
      intro h
      rw [List.countP_cons, List.countP_cons]
      by_cases e : x = i
      · subst e
        rw [hic, hi]
        have := hle r
        simp; omega
      · have h2 := ih (by rcases List.mem_cons.1 h with h | h; exact absurd h.symm e; exact h)
        cases hx : without left C x with
        | false => cases left x <;> simp <;> omega
        | true =>
          have : left x = true := by rw [without, Bool.and_eq_true] at hx; exact hx.1
          rw [this]; simp; omega
  exact key _ hi2
theorem pickL_take {l : List OutV} {C : List Nat} {i c : Nat} {o : OutV} (h : C[i]? = some c) (ho : l[c]? = some o) : pickL l (C.take (i + 1)) = pickL l (C.take i) ++ [o] := by
  obtain ⟨hi, rfl⟩ := List.getElem?_eq_some_iff.1 h
  rw [pickL, pickL, List.take_succ_eq_append_getElem hi, List.filterMap_append]
  simp [ho]

/-- changes above what was there -/
theorem GrownX.over {p : Nat → Prop} {u v x : World} {B : Nat} (h : GrownX p u v) (k : Below B v x) (hB : u.heap.size ≤ B) : GrownX p u x :=
  ⟨k.os.trans h.os, k.tape.trans h.tape, k.output.trans h.output, Nat.le_trans h.size k.size, fun y hy hp => (k.block y (Nat.lt_of_lt_of_le hy hB)).trans (h.block y hy hp)⟩
/-- how many entries a set has -/
def okN (r : Result Value) : Nat := match r with | .ok v _ => (intOf v).toNat | _ => 0
noncomputable def lenW (w : World) (m : Nat) : Nat := okN ((Builtin.len_ #[77] 3 #[.map (some m)]).run Tryz.prog w)
theorem lenW_of {w : World} {m n : Nat} (h : (Builtin.len_ #[77] 3 #[.map (some m)]).run Tryz.prog w = .ok (.int .i64 (n : Nat)) w) : lenW w m = n := by
  unfold lenW
  exact (congrArg okN h).trans (Int.toNat_natCast n)
theorem pickL_full {l : List OutV} : ∀ {C : List Nat}, (∀ c ∈ C, c < l.length) → (pickL l C).length = C.length
  | [], _ => rfl
  | c :: r, h => by
    have ih := pickL_full (C := r) (fun x hx => h x (List.mem_cons_of_mem _ hx))
    have hcl : c < l.length := h c (by simp)
    have hc : l[c]? = some l[c] := List.getElem?_eq_getElem hcl
    unfold pickL at ih ⊢
    rw [List.filterMap_cons, hc]
    simp [ih]
theorem add_map (L : List (StepR × Value)) (x : StepR × Value) : (if x.1.files.length = 0 then L else L ++ [x]).map (·.1) = L.map (·.1) ++ oneS x.1.rem x.1.files ∧ (if x.1.files.length = 0 then L else L ++ [x]).length ≤ L.length + 1 := by
  by_cases h : x.1.files.length = 0
  · rw [if_pos h, oneS_no h]; exact ⟨by simp, by omega⟩
  · rw [if_neg h, oneS_yes h]; exact ⟨by simp, by simp⟩
theorem leftL_len (b : List OutV) (left : Nat → Bool) : (leftL b left).length ≤ b.length := by
  have := List.length_filter_le left (List.range b.length)
  rw [List.length_range] at this
  rw [leftL, List.length_map]; exact this
theorem stepsOf_snoc (l : List OutV) (Cs : List (List Nat)) (C : List Nat) : stepsOf l (Cs ++ [C]) = stepsOf l Cs ++ [⟨false, pickL l C⟩] := by simp [stepsOf]
theorem AddAt.nil (w : World) (K : Nat) (h : K ≤ w.heap.size) : AddAt (w.alloc (.cells #[.slice none 0 0] 43)) K w.heap.size [] :=
  ⟨⟨none, 0, CB.new _ _ _, StepsOwn.start _ _⟩, h⟩
theorem own_steps {w w' : World} {B K n : Nat} {e : TypeId} {v : Value} {xs : List Value} (h : w.ownsRow B e K v n xs) (g : GrownX (StepBlk w) w w') (h1 : e ≠ 86) (h2 : e ≠ 43) : w'.ownsRow B e K v n xs :=
  own_keepX h g (fun x hx e2 => by
    obtain ⟨cs, hc⟩ := own_type h hx
    obtain ⟨t, cs2, hc2, ht⟩ := e2
    have h9 := hc.symm.trans hc2
    simp at h9
    rcases ht with rfl | rfl
    · exact h1 h9.2
    · exact h2 h9.2)

end Go.Proofs.YtbhildmalcfhiaaGreatDoor

namespace Go.Proofs.YtbhildmalcfhiaaGreatDoor
open Go.RowKit Go.Deep

/-- w0: the world ahead of the step; i: how many are taken from what is left; k: how many outputs are in the row vf; vb: what the step's field holds -/
structure StepAt (w0 w : World) (sb ml : Nat) (b : List OutV) (left : Nat → Bool) (C : List Nat) (vC : Value) (i k : Nat) (fi : List UInt8 → Option Bool) (vb vf : Value) : Prop where
  gx : GrownX (fun x => x = ml) w0 w
  lo : w0.heap.size = sb ∧ ml < sb
  box : CB w sb 86 #[.bool false, vb]
  files : w.ownsRow sb 62 2 vf (pickL b (C.take k)).length (outsC (pickL b (C.take k)))
  names : w.ownsRow sb 9 1 vC C.length (strCells (C.map (pathK b)))
  map : BMap Tryz.prog 9 4 w ml b.length fi
  yes : ∀ k, k < b.length → fi (pathK b k) = if without left (C.take i) k = true then some true else none
  back : ∀ s x, fi s = some x → ∃ k, k < b.length ∧ s = pathK b k
section
variable {w0 w w' : World} {sb ml : Nat} {b : List OutV} {left : Nat → Bool} {C : List Nat} {vC vb vf : Value} {i k : Nat} {fi : List UInt8 → Option Bool}
theorem StepAt.below (h : StepAt w0 w sb ml b left C vC i k fi vb vf) (hb : Below w.heap.size w w') : StepAt w0 w' sb ml b left C vC i k fi vb vf :=
  ⟨h.gx.trans (.of_below hb), h.lo, h.box.below hb, own_stay h.files hb, own_stay h.names hb, h.map.below hb, h.yes, h.back⟩
theorem StepAt.alloc (h : StepAt w0 w sb ml b left C vC i k fi vb vf) (o : Obj) : StepAt w0 (w.alloc o) sb ml b left C vC i k fi vb vf := h.below ((Below.refl _ _).alloc (Nat.le_refl _) o)
/-- the row has one more -/
theorem StepAt.grow {o : OutV} {c n cap g : Nat} (h : StepAt w0 w sb ml b left C vC i k fi vb vf) (hc : C[k]? = some c) (ho : b[c]? = some o) (hn : (pickL b (C.take k)).length = n) (hown : w'.ownsRow sb 62 2 (.slice (some ⟨g, 0, none⟩) (n + 1) cap) (n + 1) (outsC (pickL b (C.take k)) ++ [.string o.path, .string o.body]))
    (hg : w.grownBy w' vf.ownBlock) (hb : Below sb w w') : StepAt w0 w' sb ml b left C vC i (k + 1) fi vb (.slice (some ⟨g, 0, none⟩) (n + 1) cap) :=
  ⟨h.gx.over hb (by rw [h.lo.1]; exact Nat.le_refl _), h.lo, h.box.grown h.files hg (by decide), by rw [pickL_take hc ho, List.length_append, hn, outsC_snoc]; exact hown, own_keepT h.names h.files hg (by decide), mapR_grown h.map h.files hg, h.yes, h.back⟩
/-- it is stored in the step -/
theorem StepAt.set (h : StepAt w0 w sb ml b left C vC i k fi vb vf) : StepAt w0 (w.setCell ⟨sb, 1, none⟩ vf) sb ml b left C vC i k fi vf vf := by
  have hne : ∀ {B K n : Nat} {e : TypeId} {v : Value} {xs : List Value}, w.ownsRow B e K v n xs → e ≠ 86 → (w.setCell ⟨sb, 1, none⟩ vf).ownsRow B e K v n xs := fun hr he =>
    own_keepX hr (GrownX.one0 w sb 1 vf) (fun g hg e2 => by
      obtain ⟨cs, hc⟩ := own_type hr hg
      subst e2
      have h9 := hc.symm.trans h.box
      simp at h9
      exact he h9.2)
  exact ⟨h.gx.set (Or.inr (by rw [h.lo.1]; exact Nat.le_refl _)) _ _, h.lo, h.box.put 1 vf, hne h.files (by decide), hne h.names (by decide), h.map.setCell (by have := h.lo.2; show ml ≠ sb; omega) _, h.yes, h.back⟩
/-- one is taken from what is left -/
theorem StepAt.del {c : Nat} (h : StepAt w0 w sb ml b left C vC i k fi vb vf) (hr : RiseP b) (hc : C[i]? = some c) (hcb : c < b.length) (hm : BMap Tryz.prog 9 4 w' ml b.length (delF fi (pathK b c))) (ht : w.mapTurned w' ml) : StepAt w0 w' sb ml b left C vC (i + 1) k (delF fi (pathK b c)) vb vf := by
  have hX := GrownX.of_grown (p := fun x => x = ml) ht.grown (fun g hg => (Option.some.inj hg).symm)
  have hb := h.map.block
  exact ⟨h.gx.trans hX, h.lo, h.box.keepX hX (map_block_ne hb h.box), own_mapTurn h.files hb ht, own_mapTurn h.names hb ht, hm, left_del hr hc hcb h.yes, fun s x hs => h.back s x (del_some hs)⟩
/-- the planner behind the step -/
theorem StepAt.take {K mr xb : Nat} {a : List OutV} (h : StepAt w0 w sb ml b left C vC C.length k fi vb vf) (hT : TakeAt w0 K mr ml xb a b left) : TakeAt w K mr ml xb a b (without left C) := by
  have hy := h.yes
  rw [List.take_length] at hy
  exact hT.turn h.gx h.map hy h.back (fun k hk => by rw [without, Bool.and_eq_true] at hk; exact hk.1)
theorem StepAt.planner {K mr xb : Nat} {a : List OutV} (h : StepAt w0 w sb ml b left C vC i k fi vb vf) (hT : TakeAt w0 K mr ml xb a b left) : CB w xb 82 #[.map (some mr), .map (some ml)] := by
  obtain ⟨f0, h1, _⟩ := hT.lefts
  exact hT.box.keepX h.gx (map_block_ne h1.block hT.box)
theorem StepAt.lowB {M : Nat} {u : World} (h : StepAt w0 w sb ml b left C vC i k fi vb vf) (hG : Below M u w0) (hM : M ≤ w0.heap.size) (hml : M ≤ ml) : Below M u w := hG.trans (h.gx.below hM (fun x e => by rw [e]; exact hml))
end

end Go.Proofs.YtbhildmalcfhiaaGreatDoor

namespace Go.Proofs.YtbhildmalcfhiaaGreatDoor
open Go.RowKit Go.Deep

section
variable {P : Program} {ops : Array Oper} {Q : Exit → Act → World → Prop} {md : Region.Mode}

/-- what number k waits for -/
def depsOf (md : Region.Mode) (ops : Array Oper) (k : Nat) : List Nat :=
  match ops[k]? with
  | some o => (o.after.toList.filter fun e => Region.binds md e).map (·.on)
  | none => []
/-- what must have come up before number k, at most f steps away -/
def ancOf (md : Region.Mode) (ops : Array Oper) : Nat → Nat → List Nat
  | 0, _ => []
  | f + 1, k => (depsOf md ops k).flatMap fun d => d :: ancOf md ops f d
/-- with each that has come up, all that it waits for -/
def ShutL (md : Region.Mode) (ops : Array Oper) (listed : Array Bool) : Prop := ∀ k, listed.getD k false = true → ∀ d ∈ depsOf md ops k, listed.getD d false = true

theorem ready_deps {k : Nat} {listed : Array Bool} (h : k ∈ Region.ready md ops listed) : ∀ d ∈ depsOf md ops k, listed.getD d false = true := by
  obtain ⟨_, o, ho, hall⟩ := mem_ready.1 h
  intro d hd
  unfold depsOf at hd
  rw [ho] at hd
  obtain ⟨e, he, rfl⟩ := List.mem_map.1 hd
  obtain ⟨he1, he2⟩ := List.mem_filter.1 he
  exact hall e (Array.mem_toList_iff.1 he1) he2
theorem ready_of_deps {k : Nat} {o : Oper} {listed : Array Bool} (ho : ops[k]? = some o) (hu : listed.getD k true = false) (h : ∀ d ∈ depsOf md ops k, listed.getD d false = true) : k ∈ Region.ready md ops listed := by
  refine mem_ready.2 ⟨hu, o, ho, fun e he hb => h _ ?_⟩
  unfold depsOf
  rw [ho]
  exact List.mem_map.2 ⟨e, List.mem_filter.2 ⟨Array.mem_toList_iff.2 he, hb⟩, rfl⟩
theorem ShutL.anc {listed : Array Bool} (hs : ShutL md ops listed) : ∀ (f k : Nat), (∀ d ∈ depsOf md ops k, listed.getD d false = true) → ∀ i ∈ ancOf md ops f k, listed.getD i false = true
  | 0, _, _, i, hi => by cases hi
  | f + 1, k, h, i, hi => by
    obtain ⟨d, hd, hi2⟩ := List.mem_flatMap.1 hi
    rcases List.mem_cons.1 hi2 with rfl | hi3
    · exact h _ hd
    · exact hs.anc f d (hs d (h d hd)) i hi3
theorem ShutL.set {i : Nat} {listed : Array Bool} (hs : ShutL md ops listed) (hi : i ∈ Region.ready md ops listed) : ShutL md ops (listed.setIfInBounds i true) := by
  intro k hk d hd
  by_cases hik : i = k
  · subst hik
    exact getD_set_true (ready_deps hi d hd)
  · rw [getD_set_ne false hik] at hk
    exact getD_set_true (hs k hk d hd)

/-- the check: each operation waits for earlier ones alone; F stands ahead of all others that are not listed at the start -/
def invB (md : Region.Mode) (ops : Array Oper) (F : List Nat) (listed : Array Bool) : Bool :=
  decide (listed.size = ops.size) && decide F.Nodup && (F.all fun i => decide (i < ops.size) && !listed.getD i false) &&
  ((List.range ops.size).all fun k => (depsOf md ops k).all fun d => decide (d < k)) &&
  ((List.range ops.size).all fun k => !listed.getD k false || (depsOf md ops k).all fun d => listed.getD d false) &&
  ((List.range ops.size).all fun k => listed.getD k false || F.contains k || F.all fun i => (ancOf md ops ops.size k).contains i)

theorem getD_same {listed : Array Bool} {k : Nat} (hk : k < listed.size) (b c : Bool) : listed.getD k b = listed.getD k c := by
  simp [hk]

theorem wpAny_inv_rem {F : List Nat} {Inv : Array Bool → Act → World → Prop} {listed0 listedF : Array Bool} {g : Nat} (hB : invB md ops F listed0 = true) (hF : F.foldl (fun l i => l.setIfInBounds i true) listed0 = listedF)
    (step : ∀ i ∈ F, ∀ listed a w, ShutL md ops listed → i ∈ Region.ready md ops listed → Inv listed a w → wpOp P ops Q i (Inv (listed.setIfInBounds i true)) a w)
    (last : ∀ a w, Inv listedF a w → wpAny P md ops Q g listedF a w) :
    ∀ (m : Nat) (rem : List Nat) (listed : Array Bool) (a : Act) (w : World), rem.length = m → rem.Nodup → (∀ k ∈ rem, k ∈ F ∧ listed.getD k false = false) → (∀ k ∈ F, k ∉ rem → listed.getD k false = true) →
      ShutL md ops listed → listed.size = ops.size → (∀ k, listed0.getD k false = true → listed.getD k false = true) → rem.foldl (fun l i => l.setIfInBounds i true) listed = listedF → Inv listed a w → wpAny P md ops Q (m + g) listed a w := by
  simp only [invB, Bool.and_eq_true, decide_eq_true_eq, List.all_eq_true, List.mem_range] at hB
  obtain ⟨⟨⟨⟨⟨hsz, hnd⟩, hFin⟩, hacy⟩, hcl⟩, hanc⟩ := hB
  intro m
  induction m with
  | zero =>
    intro rem listed a w hlen _ _ _ _ _ _ hfold hI
    have : rem = [] := List.length_eq_zero_iff.1 hlen
    subst this
    rw [Nat.zero_add]
    have : listed = listedF := hfold
    subst this
    exact last a w hI
  | succ m ih =>
    intro rem listed a w hlen hrn hr1 hr2 hs hsize h0 hfold hI
    obtain ⟨i0, hi0⟩ : ∃ i, i ∈ rem := List.exists_mem_of_length_pos (by omega)
    have hun0 := hr1 i0 hi0
    rw [show m + 1 + g = (m + g) + 1 by omega]
    refine ⟨fun hre => ?_, fun i hi => ?_⟩
    · exfalso
      -- the least that has not come up may come up
      have hex : ∀ k, k < ops.size → listed.getD k false = false → ∃ j, j ∈ Region.ready md ops listed := by
        intro k
        induction k using Nat.strongRecOn with
        | _ k ihk =>
          intro hk hku
          by_cases hd : ∀ d ∈ depsOf md ops k, listed.getD d false = true
          · exact ⟨k, ready_of_deps (Array.getElem?_eq_getElem hk) (by rw [getD_same (by omega) true false]; exact hku) hd⟩
          · simp only [Classical.not_forall, Bool.not_eq_true] at hd
            obtain ⟨d, hd1, hd2⟩ := hd
            have hdk := hacy k hk d hd1
            exact ihk d hdk (by omega) hd2
      have hi0F := hFin i0 hun0.1
      obtain ⟨j, hj⟩ := hex i0 hi0F.1 hun0.2
      rw [hre] at hj
      cases hj
    · have hiu := (mem_ready.1 hi).1
      obtain ⟨_, oi, hoi, _⟩ := mem_ready.1 hi
      have hisz : i < ops.size := (Array.getElem?_eq_some_iff.1 hoi).1
      have hiF : i ∈ F := by
        have h1 := hanc i hisz
        simp only [Bool.or_eq_true, List.all_eq_true] at h1
        rcases h1 with (h1 | h1) | h1
        · have := h0 i h1
          rw [getD_same (by omega) false true, hiu] at this
          cases this
        · simpa using h1
        · have := hs.anc ops.size i (ready_deps hi) i0 (by simpa using h1 i0 hun0.1)
          rw [hun0.2] at this
          cases this
      have hirem : i ∈ rem := by
        by_cases h : i ∈ rem
        · exact h
        · have := hr2 i hiF h
          rw [getD_same (by omega) false true, hiu] at this
          cases this
      refine wpOp_mono (fun a' w' h' => ih (rem.erase i) _ a' w' ?_ (hrn.erase i) ?_ ?_ (hs.set hi) (by simp [hsize]) ?_ ?_ h') (step i hiF listed a w hs hi hI)
      · rw [List.length_erase_of_mem hirem, hlen]; rfl
      · intro k hk
        obtain ⟨h1, h2⟩ := hrn.mem_erase_iff.1 hk
        exact ⟨(hr1 k h2).1, by rw [getD_set_ne false (Ne.symm h1)]; exact (hr1 k h2).2⟩
      · intro k hk hk2
        by_cases hki : k = i
        · subst hki
          simp [show k < listed.size by omega]
        · exact getD_set_true (hr2 k hk (fun h3 => hk2 (hrn.mem_erase_iff.2 ⟨hki, h3⟩)))
      · exact fun k hk => getD_set_true (h0 k hk)
      · rw [← hfold]
        have hcomm : ∀ (l : List Nat) (b : Array Bool), l.foldl (fun l i => l.setIfInBounds i true) (b.setIfInBounds i true) = (l.foldl (fun l i => l.setIfInBounds i true) b).setIfInBounds i true := by
          intro l
          induction l with
          | nil => intro b; rfl
          | cons x l ihl =>
            intro b
            simp only [List.foldl_cons]
            by_cases hx : i = x
            · subst hx; exact ihl _
            · rw [Array.setIfInBounds_comm _ _ hx]; exact ihl _
        have hmove : ∀ (l : List Nat) (b : Array Bool), i ∈ l → (l.erase i).foldl (fun l i => l.setIfInBounds i true) (b.setIfInBounds i true) = l.foldl (fun l i => l.setIfInBounds i true) b := by
          intro l
          induction l with
          | nil => intro b h; cases h
          | cons x l ihl =>
            intro b h
            by_cases hx : x = i
            · subst hx; rw [List.erase_cons_head]; rfl
            · rw [List.erase_cons_tail (by simpa using hx), List.foldl_cons, List.foldl_cons, Array.setIfInBounds_comm _ _ (Ne.symm hx)]
              exact ihl _ (by rcases List.mem_cons.1 h with h | h; exact absurd h.symm hx; exact h)
        exact hmove rem listed hirem

/-- **The law**: every operation of F keeps the invariant, whatever else has come up; behind F the rest goes on from what the invariant says there. -/
theorem wpAny_inv (F : List Nat) (Inv : Array Bool → Act → World → Prop) {listed0 : Array Bool} (listedF : Array Bool) {g n : Nat} {a : Act} {w : World} (hB : invB md ops F listed0 = true) (hF : F.foldl (fun l i => l.setIfInBounds i true) listed0 = listedF) (hn : F.length + g = n)
    (start : Inv listed0 a w)
    (step : ∀ i ∈ F, ∀ listed a w, ShutL md ops listed → i ∈ Region.ready md ops listed → Inv listed a w → wpOp P ops Q i (Inv (listed.setIfInBounds i true)) a w)
    (last : ∀ a w, Inv listedF a w → wpAny P md ops Q g listedF a w) : wpAny P md ops Q n listed0 a w := by
  have hB' := hB
  simp only [invB, Bool.and_eq_true, decide_eq_true_eq, List.all_eq_true, List.mem_range] at hB'
  obtain ⟨⟨⟨⟨⟨hsz, hnd⟩, hFin⟩, hacy⟩, hcl⟩, hanc⟩ := hB'
  rw [← hn]
  refine wpAny_inv_rem hB hF step last F.length F listed0 a w rfl hnd (fun k hk => ⟨hk, ?_⟩) (fun k hk h => absurd hk h) (fun k hk d hd => ?_) hsz (fun _ h => h) hF start
  · have := hFin k hk
    simpa using this.2
  · have hksz : k < ops.size := by
      rcases Nat.lt_or_ge k listed0.size with h | h
      · omega
      · simp [Array.getElem?_eq_none h] at hk
    have := hcl k hksz
    simp only [hk, Bool.not_true, Bool.false_or, List.all_eq_true] at this
    exact this d hd
end

theorem wpAny_of_seqA {P : Program} {ops : Array Oper} {Q : Exit → Act → World → Prop} {md : Region.Mode} {listed : Array Bool} {a : Act} {w : World} (n k : Nat) (hl : (ops.toList.drop k).length = n) (hB : Region.seqB md ops n k listed = true) (h : wpList P ops Q (ops.toList.drop k) a w) : wpAny P md ops Q n listed a w := by
  subst hl
  exact wpAny_of_seq _ k _ _ _ (fun j => by simp [List.getElem?_drop]) hB h
theorem ready_dep {md : Region.Mode} {ops : Array Oper} {k d : Nat} {L : Array Bool} (h : k ∈ Region.ready md ops L) (hc : (depsOf md ops k).contains d = true) : L.getD d false = true := ready_deps h d (by simpa using hc)
theorem getD_was {L : Array Bool} {i j : Nat} (hij : i ≠ j) (h : (L.setIfInBounds i true).getD j false = true) : L.getD j false = true := by rw [getD_set_ne false hij] at h; exact h
theorem step_lookR {P : Program} {ops : Array Oper} {o : Oper} {a : Act} {W : World} {K : Act → World → Prop} {Q : Exit → Act → World → Prop} {E : Prop} {b : Nat} (hgd : o.guard = none) (m x : Operand) (t : TypeId) (c : Bool) (ho : o.op = Op.lookup t m x c) (s : ByteArray) (y : Value)
    (hm : a.eval m = .map (some b)) (hx : a.eval x = .string s) (hrun : (Instr.lookup t (.map (some b)) (.string s) c).run P W = .ok y W) (hK : K (a.put o.dst y) W) :
    if Region.wanted o (yielded ops a.tmps) = true then Oper.wp P o a W K Q else E := by
  have hw : Region.wanted o (yielded ops a.tmps) = true := by simp [Region.wanted, hgd]
  rw [if_pos hw]
  unfold Oper.wp
  simp [execOp, ho, hm, hx, hrun, Result.andThen]
  exact hK
/-- the references that are to be stored -/
def R22 (mr : Nat) (R : List ByteArray) (x : Value) (w : World) : Prop := ∃ (A9 : Option Addr) (c9 : Nat), x = .slice A9 R.length c9 ∧ w.ownsRow mr 9 1 (.slice A9 R.length c9) R.length (pstrs R)
def Inv22 (fr : Value → Value → Value → Value → Value → Value → Value → Value → Value → Value → Value → Value → Value → Value → Act) (xb T mr mp bm : Nat) (xp : ByteArray) (tv : Value) (R : List ByteArray) (W1 : World) (L : Array Bool) (a : Act) (w : World) : Prop :=
  ∃ x0 x1 x2 x3 x4 x5 x6 x7 x8 x9 x10 x11 x12 x13 : Value, a = fr x0 x1 x2 x3 x4 x5 x6 x7 x8 x9 x10 x11 x12 x13 ∧ Below W1.heap.size W1 w ∧ (L.getD 0 false = true → x0 = .pointer (some ⟨xb, 0, none⟩)) ∧ (L.getD 1 false = true → x1 = .pointer (some ⟨xb, 0, none⟩)) ∧ (L.getD 2 false = true → x2 = .pointer (some ⟨xb, 0, none⟩)) ∧ (L.getD 3 false = true → x3 = .map (some mr)) ∧ (L.getD 4 false = true → x4 = .pointer (some ⟨T, 0, none⟩)) ∧ (L.getD 5 false = true → x5 = .string xp) ∧ (L.getD 6 false = true → x6 = .pointer (some ⟨T, 0, none⟩)) ∧ (L.getD 7 false = true → x7 = .string xp) ∧ (L.getD 8 false = true → x8 = .map (some mp)) ∧ (L.getD 9 false = true → x9 = .pointer (some ⟨T, 0, none⟩)) ∧ (L.getD 10 false = true → x10 = .string xp) ∧ (L.getD 11 false = true → x11 = tv) ∧ (L.getD 12 false = true → x12 = .map (some bm)) ∧ (L.getD 13 false = true → R22 mr R x13 w)
theorem Inv22.start {m : Nat} {fr : Value → Value → Value → Value → Value → Value → Value → Value → Value → Value → Value → Value → Value → Value → Act} {xb T mr mp bm : Nat} {xp : ByteArray} {tv : Value} {R : List ByteArray} {W1 : World} {a : Act} (x0 x1 x2 x3 x4 x5 x6 x7 x8 x9 x10 x11 x12 x13 : Value) (h : a = fr x0 x1 x2 x3 x4 x5 x6 x7 x8 x9 x10 x11 x12 x13) : Inv22 fr xb T mr mp bm xp tv R W1 (Array.replicate m false) a W1 :=
  ⟨x0, x1, x2, x3, x4, x5, x6, x7, x8, x9, x10, x11, x12, x13, h, Below.refl _ _, (fun h => by rw [getD_replicate_false] at h; cases h), (fun h => by rw [getD_replicate_false] at h; cases h), (fun h => by rw [getD_replicate_false] at h; cases h), (fun h => by rw [getD_replicate_false] at h; cases h), (fun h => by rw [getD_replicate_false] at h; cases h), (fun h => by rw [getD_replicate_false] at h; cases h), (fun h => by rw [getD_replicate_false] at h; cases h), (fun h => by rw [getD_replicate_false] at h; cases h), (fun h => by rw [getD_replicate_false] at h; cases h), (fun h => by rw [getD_replicate_false] at h; cases h), (fun h => by rw [getD_replicate_false] at h; cases h), (fun h => by rw [getD_replicate_false] at h; cases h), (fun h => by rw [getD_replicate_false] at h; cases h), (fun h => by rw [getD_replicate_false] at h; cases h)⟩

theorem outLinks_size {o : OutV} {x : LinkR} (h : x ∈ outLinks o) : x.target.size ≤ 200000 := by
  unfold outLinks at h
  split at h
  · exact (linksV_size h).1
  · cases h

end Go.Proofs.YtbhildmalcfhiaaGreatDoor

namespace Go.Proofs.YtbhildmalcfhiaaGreatDoor
open Go.RowKit Go.ChangeShapes Go.WideShapes Go.Deep

def PlanOk (a b : List OutV) (w : World) (e : Ending) (w' : World) : Prop :=
  ∃ (v : Value) (L : List (StepR × Value)) (Cs : List (List Nat)), e = .returned (.tuple #[v, .int .i64 0]) ∧ StepsOwn w' w.heap.size v L ∧ L.map (·.1) = planL a b Cs ∧ StepsC (tosP b) (fun k => (freshL a b).getD k false) Cs ∧ L.length ≤ 1500 ∧ Below w.heap.size w w'

theorem smap_someP {P : Program} {k e t : TypeId} {w : World} {b n : Nat} {f : List UInt8 → Option (List UInt8)} {y : List UInt8} {s : ByteArray} (h : SMap P k e w b n f) (hk : P.underlying k = some .string) (he : P.underlying e = some .string) (ht : P.underlying t = some (.map k e)) (hs : s.size ≤ maxLen) (hz : (zeroValue e).run P w = .ok (.string ⟨#[]⟩) w) (hf : f s.data.toList = some y) :
    (Instr.lookup t (.map (some b)) (.string s) true).run P w = .ok (.tuple #[.string (str0 y), .bool true]) w := by
  have := smap_look_ok h hk he ht hs hz
  rw [hf] at this
  exact this
theorem smap_noneP {P : Program} {k e t : TypeId} {w : World} {b n : Nat} {f : List UInt8 → Option (List UInt8)} {s : ByteArray} (h : SMap P k e w b n f) (hk : P.underlying k = some .string) (he : P.underlying e = some .string) (ht : P.underlying t = some (.map k e)) (hs : s.size ≤ maxLen) (hz : (zeroValue e).run P w = .ok (.string ⟨#[]⟩) w) (hf : f s.data.toList = none) :
    (Instr.lookup t (.map (some b)) (.string s) true).run P w = .ok (.tuple #[.string ⟨#[]⟩, .bool false]) w := by
  have := smap_look_ok h hk he ht hs hz
  rw [hf] at this
  exact this
theorem smap_lookP {P : Program} {k e t : TypeId} {w : World} {b n : Nat} {f : List UInt8 → Option (List UInt8)} {y s : ByteArray} (h : SMap P k e w b n f) (hk : P.underlying k = some .string) (he : P.underlying e = some .string) (ht : P.underlying t = some (.map k e)) (hs : s.size ≤ maxLen) (hz : (zeroValue e).run P w = .ok (.string ⟨#[]⟩) w) (hf : f s.data.toList = some y.data.toList) :
    (Instr.lookup t (.map (some b)) (.string s) false).run P w = .ok (.string y) w := by
  have := smap_look h hk he ht hs hz
  rw [hf] at this
  exact this
theorem zero_boolP (w : World) : (zeroValue 4).run Tryz.prog w = .ok (.bool false) w := by kernel_rfl
theorem zero_strP (w : World) : (zeroValue 9).run Tryz.prog w = .ok (.string ⟨#[]⟩) w := by kernel_rfl

set_option maxRecDepth 100000 in
set_option maxHeartbeats 16000000 in
theorem plan_ok (a b : List OutV) (va vb : Value) (w : World) (h : OutsAt w va a) (h2 : OutsAt w vb b) (hm : MaxT w.heap.size w) (ha : outsE a = 0) (hb : outsE b = 0) (hp : pagesE b = 0) (hs : sitesE a b = 0) :
    Calls Tryz.prog 16 #[va, vb] w (PlanOk a b w) := by
  have hla := outsE_len ha
  have hlb := outsE_len hb
  have HPa := Lib.hid (outs_paths ha); have HPb := Lib.hid (outs_paths hb); have HPg := Lib.hid hp
  have HA := Lib.hid h; have HB := Lib.hid h2; have HM := Lib.hid hm
  have HEa := Lib.hid ha; have HEb := Lib.hid hb; have HEs := Lib.hid hs
  have HAp := Lib.hid (outs_apart hb)
  have HRi := Lib.hid (outs_riseP hb)
  have HZa := Lib.hid (show ∀ x ∈ a, x.path.size ≤ 200 ∧ x.body.size ≤ 1048576 from fun x hx => ⟨path_size (outs_paths ha x hx), by have := outs_body ha x hx; omega⟩)
  have HZb := Lib.hid (show ∀ x ∈ b, x.path.size ≤ 200 ∧ x.body.size ≤ 1048576 from fun x hx => ⟨path_size (outs_paths hb x hx), by have := outs_body hb x hx; omega⟩)
  have HMa := Lib.hid (mapF_eq (outs_apart ha))
  have HMb := Lib.hid (mapF_eq (outs_apart hb))
  obtain ⟨Aa, ca, ba, oa, rfl, hca, hcam, hAa, hcella⟩ := h
  obtain ⟨Ab, cb, bb, ob, rfl, hcb, hcbm, hAb, hcellb⟩ := h2
  have HCa := Lib.hid hcella; have HCb := Lib.hid hcellb; have HAa := Lib.hid hAa; have HAb := Lib.hid hAb
  obtain ⟨la, hla2⟩ : ∃ x, a.length = x := ⟨_, rfl⟩
  obtain ⟨lb, hlb2⟩ : ∃ x, b.length = x := ⟨_, rfl⟩
  rw [hla2] at hla hca HA
  rw [hlb2] at hlb hcb HB
  rw [hla2, hlb2]
  have HLa := Lib.hid hla2
  have HLb := Lib.hid hlb2
  unfold maxLen at hcam hcbm
  have hmm := @run_makeMap Tryz.prog
  obtain ⟨K, hK⟩ : ∃ K, w.heap.size = K := ⟨_, rfl⟩
  have HK := Lib.hid hK
  have HG := Lib.hid (show Below K w w from Below.refl K w)
  have hKw0 : K ≤ w.heap.size := by omega
  have HKa := Lib.hid (show ∀ wr, Below K w wr → OutsAt wr (.slice Aa la ca) a from fun wr hb => by rw [← hK] at hb; exact HA.out.keep (Keeps.of_below hb))
  have HKb := Lib.hid (show ∀ wr, Below K w wr → OutsAt wr (.slice Ab lb cb) b from fun wr hb => by rw [← hK] at hb; exact HB.out.keep (Keeps.of_below hb))
  have HKe := Lib.hid (show ∀ wr, Below K w wr → Keeps w wr from fun wr hb => by rw [← hK] at hb; exact Keeps.of_below hb)
  have HKm := Lib.hid (show ∀ wr, Below K w wr → MaxT wr.heap.size wr ∧ MaxAt wr from fun wr hb => by rw [← hK] at hb; exact ⟨(HM.out.keep hb).up hb.size, HM.out.at_.keep (Keeps.of_below hb)⟩)
  clear hcella hcellb hAa hAb hm hla2 hlb2 ha hb hp hs hK HA HB HM
  go_enter Tryz.func16, Tryz.ntmps16
  go_upto_region 4 with (go_at_call 24; go_loud (refine (checkOuts_q a _ 0 _ (HKa.out _ HG.out) (HKm.out _ HG.out).2 HEa.out).mono ?_; rintro e w1 ⟨rfl, hb⟩; replace HG := Lib.hid (HG.out.trans (hb.mono hKw0)); have hKw1 : K ≤ w1.heap.size := Nat.le_trans hKw0 hb.size; clear hb))
  go_upto_region 7 with (go_at_call 24; go_loud (refine (checkOuts_q b _ 0 _ (HKb.out _ HG.out) (HKm.out _ HG.out).2 HEb.out).mono ?_; rintro e w2 ⟨rfl, hb⟩; replace HG := Lib.hid (HG.out.trans (hb.mono hKw1)); have hKw2 : K ≤ w2.heap.size := Nat.le_trans hKw1 hb.size; clear hb))
  go_upto_region 10 with (go_at_call 25; go_loud (refine (pages_q b _ _ (HKb.out _ HG.out) (HKm.out _ HG.out).1 (fun x hx => by have := (HZb.out x hx).1; omega) HAp.out).mono ?_; rintro e w3 hp2; obtain ⟨mp, Fp, rfl, hmp, hP2, hb⟩ := hp2.ok HPg.out; have HPt := Lib.hid hP2; replace HG := Lib.hid (HG.out.trans (hb.mono hKw2)); have hKw3 : K ≤ w3.heap.size := Nat.le_trans hKw2 hb.size; have hKmp : K ≤ mp := Nat.le_trans hKw2 hmp; clear hb hP2 hp2 hmp))
  go_upto_region 13 with (go_at_call 36; go_loud (refine (sitesFault_q a b _ _ 0 _ (HKa.out _ HG.out) (HKb.out _ HG.out) HEa.out HEb.out (fun x hx => (HZa.out x hx).1) (fun x hx => (HZb.out x hx).1) HEs.out).mono ?_; rintro e w4 ⟨rfl, hb⟩; replace HPt := Lib.hid (HPt.out.below hb); replace HG := Lib.hid (HG.out.trans (hb.mono hKw3)); have hKw4 : K ≤ w4.heap.size := Nat.le_trans hKw3 hb.size; clear hb))
  go_wp2_with fail
  refine (bodies_q a _ _ (HKa.out _ HG.out) (fun x hx => ⟨by have := (HZa.out x hx).1; omega, (HZa.out x hx).2⟩)).mono ?_
  rintro e w5 ⟨m1, rfl, hm1, hg1, hb⟩
  have HM1 := Lib.hid hm1
  replace HPt := Lib.hid (HPt.out.below hb); replace HG := Lib.hid (HG.out.trans (hb.mono hKw4)); have hKw5 : K ≤ w5.heap.size := Nat.le_trans hKw4 hb.size
  have hKm1 : K ≤ m1 := Nat.le_trans hKw4 hg1
  clear hm1 hg1 hb
  go_wp2_with fail
  refine (bodies_q b _ _ (HKb.out _ HG.out) (fun x hx => ⟨by have := (HZb.out x hx).1; omega, (HZb.out x hx).2⟩)).mono ?_
  rintro e w6 ⟨m2, rfl, hm2, hg2, hb⟩
  have HM2 := Lib.hid hm2
  replace HM1 := Lib.hid (HM1.out.below hb); replace HPt := Lib.hid (HPt.out.below hb); replace HG := Lib.hid (HG.out.trans (hb.mono hKw5)); have hKw6 : K ≤ w6.heap.size := Nat.le_trans hKw5 hb.size
  have hKm2 : K ≤ m2 := Nat.le_trans hKw5 hg2
  clear hm2 hg2 hb
  go_wp2_with fail
  refine (paths_q b _ _ (HKb.out _ HG.out) (fun x hx => by have := (HZb.out x hx).1; omega)).mono ?_
  rintro e w7 ⟨bm, rfl, hbm, hg3, hb⟩
  have HM3 := Lib.hid hbm
  replace HM1 := Lib.hid (HM1.out.below hb); replace HM2 := Lib.hid (HM2.out.below hb); replace HPt := Lib.hid (HPt.out.below hb); replace HG := Lib.hid (HG.out.trans (hb.mono hKw6)); have hKw7 : K ≤ w7.heap.size := Nat.le_trans hKw6 hb.size
  have hKbm : K ≤ bm := Nat.le_trans hKw6 hg3
  clear hbm hg3 hb hKw0 hKw1 hKw2 hKw3 hKw4 hKw5 hKw6
  go_wp2_with fail
  have HP0 := Lib.hid (PrepAt.start w7 a b)
  obtain ⟨mr, hmr⟩ : ∃ m, w7.heap.size = m := ⟨_, rfl⟩
  have HMr := Lib.hid hmr
  rw [hmr] at HP0 hKw7
  rw [hmr]
  have HFix := Lib.hid (show ∀ wr, Below mr w7 wr → PagesAt wr w2.heap.size mp b.length Fp b b.length ∧ SMap Tryz.prog 9 9 wr m1 a.length (mapF a) ∧ SMap Tryz.prog 9 9 wr m2 b.length (mapF b) ∧ BMap Tryz.prog 9 4 wr bm b.length (pathsF b) ∧ Below K w wr from fun wr hb => by
    have hb2 := hb
    rw [← hmr] at hb2
    exact ⟨HPt.out.below hb2, HM1.out.below hb2, HM2.out.below hb2, HM3.out.below hb2, HG.out.trans (hb.mono hKw7)⟩)
  obtain ⟨W0, hW0⟩ : ∃ W, ((w7.alloc (.map #[] 0)).alloc (.map #[] 0)).alloc (.cells #[.map (some mr), .map (some (mr + 1))] 82) = W := ⟨_, rfl⟩
  have HB0 := Lib.hid (show Below mr w7 W0 by
    rw [← hW0]
    have h0 := Below.refl mr w7
    exact ((h0.alloc (by omega) _).alloc (by rw [World.size_alloc]; omega) _).alloc (by rw [World.size_alloc, World.size_alloc]; omega) _)
  rw [hW0] at HP0
  rw [hW0]
  have hsz0 : mr ≤ W0.heap.size := by have := HB0.out.size; omega
  obtain ⟨ml, hml⟩ : ∃ m, mr + 1 = m := ⟨_, rfl⟩
  rw [hml] at HP0
  rw [hml]
  obtain ⟨xb, hxb⟩ : ∃ m, ml + 1 = m := ⟨_, rfl⟩
  rw [hxb] at HP0
  rw [hxb]
  clear hW0 hmm hmr HPt HM1 HM2 HM3 HG
  go_loopw [15, 16, 68] (fun t15 t16 t68 wr => ∃ (j : Nat) (Af Ac : Option Addr) (qf cf qc cc : Nat), j ≤ lb ∧ t68 = .int .i64 j ∧ t15 = .slice Af qf cf ∧ t16 = .slice Ac qc cc ∧ qf ≤ j ∧ qc ≤ j ∧ Hid ((upK a b 1 j).length = qf) ∧ Hid ((upK a b 2 j).length = qc) ∧ Hid (PrepAt wr mr mr ml xb a b j j (.slice Af qf cf) (.slice Ac qc cc)) ∧ Hid (Below mr w7 wr) ∧ mr ≤ wr.heap.size) (fun _ _ t _ => lb - (intOf t).toNat)
  case atStart => exact ⟨0, none, none, 0, 0, 0, 0, Nat.zero_le _, rfl, rfl, rfl, Nat.le_refl _, Nat.le_refl _, rfl, rfl, HP0, HB0, hsz0⟩
  case round =>
    clear HP0 HB0 hsz0
    obtain ⟨j, Af, Ac, qf, cf, qc, cc, hj, rfl, rfl, rfl, hqf, hqc, HLf, HLc, HP, HG, hKw⟩ := hrel
    obtain ⟨wo, rfl⟩ : ∃ wo : World, wo = wr := ⟨_, rfl⟩
    by_cases hlt : j < lb
    · obtain ⟨x, hx⟩ : ∃ x, b[j]? = some x := ⟨_, List.getElem?_eq_getElem (by rw [HLb.out]; exact hlt)⟩
      obtain rfl := HAb.out (by intro h0; rw [h0] at hx; simp at hx)
      have kc := (HCb.out j x hx).keep (HKe.out _ (HFix.out _ HG.out).2.2.2.2)
      have k0 := kc.c0
      have k1 := kc.c1
      have hlt2 : (j : Int) < (lb : Int) := by omega
      have HX := Lib.hid hx
      have hxz := (HZb.out x (List.mem_of_getElem? hx)).1
      have HKd := Lib.hid (fun h => kindP_none (a := a) (x := x) h)
      have HKs := Lib.hid (fun y h h2 => kindP_same (a := a) (x := x) (y := y) h h2)
      have HKf := Lib.hid (fun y h h2 => kindP_diff (a := a) (x := x) (y := y) h h2)
      clear hx kc
      obtain ⟨kd, hkd⟩ : ∃ k, kindP a x = k := ⟨_, rfl⟩
      have HKk := Lib.hid hkd
      obtain ⟨pg, hpg⟩ : ∃ v, pageB x.path = v := ⟨_, rfl⟩
      rw [hkd] at HKd HKs HKf
      rw [hpg] at HKd HKf
      obtain ⟨xp, xb2⟩ := x
      simp only at k0 k1 hxz HKd HKs HKf hpg
      have HPgq := Lib.hid (fun w => isPageS_q xp pg w (by omega) hpg)
      have HPa2 := Lib.hid (HP.out.alloc (.cells #[.string xp, .string xb2] 62))
      have HGa := Lib.hid (HG.out.alloc hKw (.cells #[.string xp, .string xb2] 62))
      have HLk := Lib.hid (HFix.out _ HGa.out).2.1
      have hxm : xp.size ≤ maxLen := by unfold maxLen; omega
      have hKa : mr ≤ (wo.alloc (.cells #[.string xp, .string xb2] 62)).heap.size := by rw [World.size_alloc]; omega
      clear hkd
      cases hbo : bodyP a xp.data.toList with
      | none =>
        have HRun := Lib.hid (smap_noneP HLk.out Tryz.underlying9 Tryz.underlying9 Tryz.underlying75 hxm (zero_strP _) ((HMa.out _).trans hbo))
        have hk9 := HKd.out hbo
        cases pg with
        | true =>
          obtain rfl : kd = 3 := hk9
          clear hbo HKd HKs HKf
          go_wp2_with (first | (at_lookup; go_loud (refine wpList_lookR rfl _ _ 75 true rfl xp _ rfl rfl HRun.out ?_)) | (go_at_call 30; go_loud (refine (HPgq.out _).mono ?_; rintro e w6 ⟨rfl, hw6⟩; subst w6)))
          obtain ⟨W, hW⟩ : ∃ W, wo.alloc (.cells #[.string xp, .string xb2] 62) = W := ⟨_, rfl⟩
          have HTv := Lib.hid (show CB W wo.heap.size 62 #[.string xp, .string xb2] by rw [← hW]; exact CB.new _ _ _)
          rw [hW] at HPa2 HGa hKa
          rw [hW]
          obtain ⟨T, hT⟩ : ∃ T, wo.heap.size = T := ⟨_, rfl⟩
          rw [hT] at HTv
          rw [hT]
          clear hW hT HLk HRun HP HG
          have t0 : W.cell? ⟨T, 0, none⟩ = some (.string xp) := HTv.out.c 0
          have x1 : W.cell? ⟨xb, 1, none⟩ = some (.map (some ml)) := HPa2.out.box.c 1
          go_still_tail 6, (by kernel_rfl)
          change wpList _ _ _ _ _ (World.drew W)
          go_wp2_with (at_mapUpdate; go_loud (refine wpList_storeR rfl _ _ _ 77 rfl Tryz.underlying9 Tryz.underlying77 HPa2.out.drew.left (by unfold maxLen; omega) rfl xp hxm _ true rfl rfl (plainElem_bool Tryz.underlying4 true) ?_); intro w2 hm2 ht2; have HPb2 := Lib.hid (HPa2.out.drew.take HX.out HKk.out hm2 ht2); have HGb := Lib.hid (HGa.out.drew.trans (turned_below ht2 (by have := HPa2.out.lo; omega) hKa)); have HTb := Lib.hid (HTv.out.drew.keepX (GrownX.of_grown (p := fun x => x = ml) ht2.grown (fun g hg => (Option.some.inj hg).symm)) (map_block_ne HPa2.out.left.block HTv.out)); clear hm2 ht2)
          refine wp_region_any (by kernel_rfl) ?_
          change wpAny _ _ _ _ _ _ _ w2.drew
          obtain ⟨W1, hW1⟩ : ∃ W1, w2.drew = W1 := ⟨_, rfl⟩
          have HPc2 := Lib.hid (show PrepAt W1 mr mr ml xb a b j (j + 1) (.slice Af qf cf) (.slice Ac qc cc) by rw [← hW1]; exact HPb2.out.drew)
          have HTc := Lib.hid (show CB W1 T 62 #[.string xp, .string xb2] by rw [← hW1]; exact HTb.out.drew)
          have HGc := Lib.hid (show Below mr w7 W1 by rw [← hW1]; exact HGb.out.drew)
          have hK1 : mr ≤ W1.heap.size := by have := HGc.out.size; have := HMr.out; omega
          rw [hW1]
          clear hW1 HPb2 HTb HGb HPa2 HGa HTv
          obtain ⟨tv, Lt, htv, hto, hln, htl, hat⟩ := (HFix.out _ HGc.out).1.at_ HX.out (by rw [HLb.out]; exact hlt) HAp.out
          have HTv9 := Lib.hid htv
          have HRef := Lib.hid (show ∀ w', Below W1.heap.size W1 w' → Calls Tryz.prog 39 #[.string xp, tv, .map (some bm)] w' (RefsPost (refsK b j) w') from fun w' hB => by
            have hG' := HFix.out _ (HGc.out.trans (hB.mono hK1))
            rw [refsK_at HX.out]
            exact references_q xp Lt tv (outLinks ⟨xp, xb2⟩) bm b.length (pathsF b) w' (ToksIn.of_own (hto.keepN (GrownX.of_below (p := fun _ => False) hB) (fun _ e => e.elim))) (by omega) hat hln (fun y hy => by have := outLinks_size hy; omega) (outLinks_len ⟨xp, xb2⟩) (HPb.out _ (List.mem_of_getElem? HX.out)) (HKm.out _ hG'.2.2.2.2).2 hG'.2.2.2.1)
          clear htv hto hln htl hat
          refine wpAny_inv [0, 1, 2, 3, 4, 5, 6, 7, 8, 9, 10, 11, 12, 13] (Inv22 (fun v85 v86 v87 v88 v89 v90 v91 v92 v93 v94 v95 v96 v97 v98 => ⟨#[Value.slice Aa la ca, Value.slice (some { block := bb, off := ob }) lb cb, undef, undef, Value.slice none 0 0, Value.int IntKind.i64 0, Value.int IntKind.i64 0, Value.int IntKind.i64 0, Value.map (some mp), Value.int IntKind.i64 0, Value.int IntKind.i64 0, Value.map (some m1), Value.map (some m2), Value.map (some bm), Value.pointer (some { block := xb, off := 0 }), Value.slice Af qf cf, Value.slice Ac qc cc, undef, Value.pointer (some { block := T, off := 0 }), Value.string { data := #[] }, Value.bool false, undef, undef, undef, undef, undef, undef, undef, undef, undef, undef, undef, Value.slice Aa la ca, Value.int IntKind.i64 0, Value.int IntKind.i64 0, Value.bool false, undef, Value.slice (some { block := bb, off := ob }) lb cb, Value.int IntKind.i64 0, Value.int IntKind.i64 0, Value.bool false, undef, Value.tuple #[Value.map (some mp), Value.int IntKind.i64 0], Value.slice (some { block := bb, off := ob }) lb cb, Value.tuple #[Value.map (some mp), Value.int IntKind.i64 0], Value.map (some mp), Value.int IntKind.i64 0, Value.int IntKind.i64 0, Value.bool false, undef, Value.slice Aa la ca, Value.slice (some { block := bb, off := ob }) lb cb, Value.int IntKind.i64 0, Value.int IntKind.i64 0, Value.bool false, undef, Value.slice Aa la ca, Value.map (some m1), Value.slice (some { block := bb, off := ob }) lb cb, Value.map (some m2), Value.slice (some { block := bb, off := ob }) lb cb, Value.map (some bm), Value.map (some mr), Value.map (some ml), Value.agg #[Value.map (some mr), Value.map (some ml)], Value.pointer (some { block := xb, off := 0 }), Value.slice (some { block := bb, off := ob }) lb cb, Value.int IntKind.i64 (lb : Int), Value.int IntKind.i64 (j : Int), Value.bool true, Value.pointer (some { block := bb, off := ob + j * 2 }), Value.agg #[Value.string xp, Value.string xb2], Value.tuple #[Value.string { data := #[] }, Value.bool false], Value.map (some m1), Value.pointer (some { block := T, off := 0 }), Value.string xp, Value.tuple #[Value.string { data := #[] }, Value.bool false], Value.string { data := #[] }, Value.bool false, Value.pointer (some { block := xb, off := 0 }), Value.pointer (some { block := xb, off := 0 }), Value.pointer (some { block := xb, off := 1 }), Value.map (some ml), Value.pointer (some { block := T, off := 0 }), Value.string xp, v85, v86, v87, v88, v89, v90, v91, v92, v93, v94, v95, v96, v97, v98, Value.bool false, Value.bool false, Value.bool false, undef, undef, undef, undef, Value.bool false, Value.bool false, Value.pointer (some { block := T, off := 0 }), Value.string xp, Value.bool true, Value.bool false, u112, u113, u114, u115, Value.bool false, Value.bool false, u118, u119, u120, u121, u122, undef, undef, undef, undef, undef, undef, undef, undef, undef, undef, undef, undef, undef, undef, undef, undef, undef, undef, undef, undef, undef, undef, undef, undef, undef, undef, undef, undef, undef, undef, undef, undef, undef, undef, undef, undef, undef, undef, undef, undef, undef, undef, undef, undef, undef, undef, undef, undef, undef, undef, undef, undef, undef, undef, undef, undef, undef, undef, undef, undef, undef, undef, undef, undef, undef, undef, undef, undef, undef, undef, undef, undef, undef, undef, undef, undef, undef, undef, undef, undef, undef, undef, undef, undef, undef], []⟩) xb T mr mp bm xp tv (refsK b j) W1) #[true, true, true, true, true, true, true, true, true, true, true, true, true, true, false] (g := 1) (by kernel_rfl) (by kernel_rfl) (by kernel_rfl) (Inv22.start u85 u86 u87 u88 u89 u90 u91 u92 u93 u94 u95 u96 u97 u98 rfl) ?step ?last
          case step =>
            intro i hi L a' w' hs hr hI
            obtain ⟨x0, x1, x2, x3, x4, x5, x6, x7, x8, x9, x10, x11, x12, x13, rfl, hB, h0, h1, h2, h3, h4, h5, h6, h7, h8, h9, h10, h11, h12, h13⟩ := hI
            simp only [List.mem_cons, List.not_mem_nil, or_false] at hi
            rcases hi with rfl | rfl | rfl | rfl | rfl | rfl | rfl | rfl | rfl | rfl | rfl | rfl | rfl | rfl
            · refine wpOp_step rfl (fun K hK => ?_)
              go_simp
              exact hK _ _ ⟨_, _, _, _, _, _, _, _, _, _, _, _, _, _, rfl, hB, fun _ => rfl, fun h => h1 (getD_was (by decide) h), fun h => h2 (getD_was (by decide) h), fun h => h3 (getD_was (by decide) h), fun h => h4 (getD_was (by decide) h), fun h => h5 (getD_was (by decide) h), fun h => h6 (getD_was (by decide) h), fun h => h7 (getD_was (by decide) h), fun h => h8 (getD_was (by decide) h), fun h => h9 (getD_was (by decide) h), fun h => h10 (getD_was (by decide) h), fun h => h11 (getD_was (by decide) h), fun h => h12 (getD_was (by decide) h), fun h => h13 (getD_was (by decide) h)⟩
            · have q0 := h0 (ready_dep hr (by kernel_rfl))
              subst q0
              refine wpOp_step rfl (fun K hK => ?_)
              go_simp
              exact hK _ _ ⟨_, _, _, _, _, _, _, _, _, _, _, _, _, _, rfl, hB, fun _ => rfl, fun _ => rfl, fun h => h2 (getD_was (by decide) h), fun h => h3 (getD_was (by decide) h), fun h => h4 (getD_was (by decide) h), fun h => h5 (getD_was (by decide) h), fun h => h6 (getD_was (by decide) h), fun h => h7 (getD_was (by decide) h), fun h => h8 (getD_was (by decide) h), fun h => h9 (getD_was (by decide) h), fun h => h10 (getD_was (by decide) h), fun h => h11 (getD_was (by decide) h), fun h => h12 (getD_was (by decide) h), fun h => h13 (getD_was (by decide) h)⟩
            · have q1 := h1 (ready_dep hr (by kernel_rfl))
              subst q1
              refine wpOp_step rfl (fun K hK => ?_)
              go_simp
              exact hK _ _ ⟨_, _, _, _, _, _, _, _, _, _, _, _, _, _, rfl, hB, fun h => h0 (getD_was (by decide) h), fun _ => rfl, fun _ => rfl, fun h => h3 (getD_was (by decide) h), fun h => h4 (getD_was (by decide) h), fun h => h5 (getD_was (by decide) h), fun h => h6 (getD_was (by decide) h), fun h => h7 (getD_was (by decide) h), fun h => h8 (getD_was (by decide) h), fun h => h9 (getD_was (by decide) h), fun h => h10 (getD_was (by decide) h), fun h => h11 (getD_was (by decide) h), fun h => h12 (getD_was (by decide) h), fun h => h13 (getD_was (by decide) h)⟩
            · have q2 := h2 (ready_dep hr (by kernel_rfl))
              subst q2
              have z : w'.cell? ⟨xb, 0, none⟩ = some (.map (some mr)) := (HPc2.out.box.below hB).c 0
              refine wpOp_step rfl (fun K hK => ?_)
              go_simp
              exact hK _ _ ⟨_, _, _, _, _, _, _, _, _, _, _, _, _, _, rfl, hB, fun h => h0 (getD_was (by decide) h), fun h => h1 (getD_was (by decide) h), fun _ => rfl, fun _ => rfl, fun h => h4 (getD_was (by decide) h), fun h => h5 (getD_was (by decide) h), fun h => h6 (getD_was (by decide) h), fun h => h7 (getD_was (by decide) h), fun h => h8 (getD_was (by decide) h), fun h => h9 (getD_was (by decide) h), fun h => h10 (getD_was (by decide) h), fun h => h11 (getD_was (by decide) h), fun h => h12 (getD_was (by decide) h), fun h => h13 (getD_was (by decide) h)⟩
            · refine wpOp_step rfl (fun K hK => ?_)
              go_simp
              exact hK _ _ ⟨_, _, _, _, _, _, _, _, _, _, _, _, _, _, rfl, hB, fun h => h0 (getD_was (by decide) h), fun h => h1 (getD_was (by decide) h), fun h => h2 (getD_was (by decide) h), fun h => h3 (getD_was (by decide) h), fun _ => rfl, fun h => h5 (getD_was (by decide) h), fun h => h6 (getD_was (by decide) h), fun h => h7 (getD_was (by decide) h), fun h => h8 (getD_was (by decide) h), fun h => h9 (getD_was (by decide) h), fun h => h10 (getD_was (by decide) h), fun h => h11 (getD_was (by decide) h), fun h => h12 (getD_was (by decide) h), fun h => h13 (getD_was (by decide) h)⟩
            · have q4 := h4 (ready_dep hr (by kernel_rfl))
              subst q4
              have z : w'.cell? ⟨T, 0, none⟩ = some (.string xp) := (HTc.out.below hB).c 0
              refine wpOp_step rfl (fun K hK => ?_)
              go_simp
              exact hK _ _ ⟨_, _, _, _, _, _, _, _, _, _, _, _, _, _, rfl, hB, fun h => h0 (getD_was (by decide) h), fun h => h1 (getD_was (by decide) h), fun h => h2 (getD_was (by decide) h), fun h => h3 (getD_was (by decide) h), fun _ => rfl, fun _ => rfl, fun h => h6 (getD_was (by decide) h), fun h => h7 (getD_was (by decide) h), fun h => h8 (getD_was (by decide) h), fun h => h9 (getD_was (by decide) h), fun h => h10 (getD_was (by decide) h), fun h => h11 (getD_was (by decide) h), fun h => h12 (getD_was (by decide) h), fun h => h13 (getD_was (by decide) h)⟩
            · refine wpOp_step rfl (fun K hK => ?_)
              go_simp
              exact hK _ _ ⟨_, _, _, _, _, _, _, _, _, _, _, _, _, _, rfl, hB, fun h => h0 (getD_was (by decide) h), fun h => h1 (getD_was (by decide) h), fun h => h2 (getD_was (by decide) h), fun h => h3 (getD_was (by decide) h), fun h => h4 (getD_was (by decide) h), fun h => h5 (getD_was (by decide) h), fun _ => rfl, fun h => h7 (getD_was (by decide) h), fun h => h8 (getD_was (by decide) h), fun h => h9 (getD_was (by decide) h), fun h => h10 (getD_was (by decide) h), fun h => h11 (getD_was (by decide) h), fun h => h12 (getD_was (by decide) h), fun h => h13 (getD_was (by decide) h)⟩
            · have q6 := h6 (ready_dep hr (by kernel_rfl))
              subst q6
              have z : w'.cell? ⟨T, 0, none⟩ = some (.string xp) := (HTc.out.below hB).c 0
              refine wpOp_step rfl (fun K hK => ?_)
              go_simp
              exact hK _ _ ⟨_, _, _, _, _, _, _, _, _, _, _, _, _, _, rfl, hB, fun h => h0 (getD_was (by decide) h), fun h => h1 (getD_was (by decide) h), fun h => h2 (getD_was (by decide) h), fun h => h3 (getD_was (by decide) h), fun h => h4 (getD_was (by decide) h), fun h => h5 (getD_was (by decide) h), fun _ => rfl, fun _ => rfl, fun h => h8 (getD_was (by decide) h), fun h => h9 (getD_was (by decide) h), fun h => h10 (getD_was (by decide) h), fun h => h11 (getD_was (by decide) h), fun h => h12 (getD_was (by decide) h), fun h => h13 (getD_was (by decide) h)⟩
            · refine wpOp_step rfl (fun K hK => ?_)
              go_simp
              exact hK _ _ ⟨_, _, _, _, _, _, _, _, _, _, _, _, _, _, rfl, hB, fun h => h0 (getD_was (by decide) h), fun h => h1 (getD_was (by decide) h), fun h => h2 (getD_was (by decide) h), fun h => h3 (getD_was (by decide) h), fun h => h4 (getD_was (by decide) h), fun h => h5 (getD_was (by decide) h), fun h => h6 (getD_was (by decide) h), fun h => h7 (getD_was (by decide) h), fun _ => rfl, fun h => h9 (getD_was (by decide) h), fun h => h10 (getD_was (by decide) h), fun h => h11 (getD_was (by decide) h), fun h => h12 (getD_was (by decide) h), fun h => h13 (getD_was (by decide) h)⟩
            · refine wpOp_step rfl (fun K hK => ?_)
              go_simp
              exact hK _ _ ⟨_, _, _, _, _, _, _, _, _, _, _, _, _, _, rfl, hB, fun h => h0 (getD_was (by decide) h), fun h => h1 (getD_was (by decide) h), fun h => h2 (getD_was (by decide) h), fun h => h3 (getD_was (by decide) h), fun h => h4 (getD_was (by decide) h), fun h => h5 (getD_was (by decide) h), fun h => h6 (getD_was (by decide) h), fun h => h7 (getD_was (by decide) h), fun h => h8 (getD_was (by decide) h), fun _ => rfl, fun h => h10 (getD_was (by decide) h), fun h => h11 (getD_was (by decide) h), fun h => h12 (getD_was (by decide) h), fun h => h13 (getD_was (by decide) h)⟩
            · have q9 := h9 (ready_dep hr (by kernel_rfl))
              subst q9
              have z : w'.cell? ⟨T, 0, none⟩ = some (.string xp) := (HTc.out.below hB).c 0
              refine wpOp_step rfl (fun K hK => ?_)
              go_simp
              exact hK _ _ ⟨_, _, _, _, _, _, _, _, _, _, _, _, _, _, rfl, hB, fun h => h0 (getD_was (by decide) h), fun h => h1 (getD_was (by decide) h), fun h => h2 (getD_was (by decide) h), fun h => h3 (getD_was (by decide) h), fun h => h4 (getD_was (by decide) h), fun h => h5 (getD_was (by decide) h), fun h => h6 (getD_was (by decide) h), fun h => h7 (getD_was (by decide) h), fun h => h8 (getD_was (by decide) h), fun _ => rfl, fun _ => rfl, fun h => h11 (getD_was (by decide) h), fun h => h12 (getD_was (by decide) h), fun h => h13 (getD_was (by decide) h)⟩
            · have q8 := h8 (ready_dep hr (by kernel_rfl))
              have q10 := h10 (ready_dep hr (by kernel_rfl))
              subst q8
              subst q10
              refine wpOp_step rfl (fun K hK => ?_)
              have hrun := VMap.look ((HFix.out _ (HGc.out.trans (hB.mono hK1))).1).map Tryz.underlying9 Tryz.underlying58 (s := xp) hxm (zero_toks w')
              rw [HTv9.out] at hrun
              refine step_lookR rfl (.tmp 93) (.tmp 95) 58 false rfl xp tv rfl rfl hrun ?_
              exact hK _ _ ⟨_, _, _, _, _, _, _, _, _, _, _, _, _, _, rfl, hB, fun h => h0 (getD_was (by decide) h), fun h => h1 (getD_was (by decide) h), fun h => h2 (getD_was (by decide) h), fun h => h3 (getD_was (by decide) h), fun h => h4 (getD_was (by decide) h), fun h => h5 (getD_was (by decide) h), fun h => h6 (getD_was (by decide) h), fun h => h7 (getD_was (by decide) h), fun _ => rfl, fun h => h9 (getD_was (by decide) h), fun _ => rfl, fun _ => rfl, fun h => h12 (getD_was (by decide) h), fun h => h13 (getD_was (by decide) h)⟩
            · refine wpOp_step rfl (fun K hK => ?_)
              go_simp
              exact hK _ _ ⟨_, _, _, _, _, _, _, _, _, _, _, _, _, _, rfl, hB, fun h => h0 (getD_was (by decide) h), fun h => h1 (getD_was (by decide) h), fun h => h2 (getD_was (by decide) h), fun h => h3 (getD_was (by decide) h), fun h => h4 (getD_was (by decide) h), fun h => h5 (getD_was (by decide) h), fun h => h6 (getD_was (by decide) h), fun h => h7 (getD_was (by decide) h), fun h => h8 (getD_was (by decide) h), fun h => h9 (getD_was (by decide) h), fun h => h10 (getD_was (by decide) h), fun h => h11 (getD_was (by decide) h), fun _ => rfl, fun h => h13 (getD_was (by decide) h)⟩
            · have q7 := h7 (ready_dep hr (by kernel_rfl))
              have q11 := h11 (ready_dep hr (by kernel_rfl))
              have q12 := h12 (ready_dep hr (by kernel_rfl))
              subst q7
              subst q11
              subst q12
              refine wpOp_step rfl (fun K hK => ?_)
              go_simp
              refine (HRef.out w' hB).mono ?_
              rintro e w6 ⟨B9, A9, c9, hB9, rfl, hown, hb⟩
              exact hK _ _ ⟨_, _, _, _, _, _, _, _, _, _, _, _, _, _, rfl, hB.trans (hb.mono hB.size), fun h => h0 (getD_was (by decide) h), fun h => h1 (getD_was (by decide) h), fun h => h2 (getD_was (by decide) h), fun h => h3 (getD_was (by decide) h), fun h => h4 (getD_was (by decide) h), fun h => h5 (getD_was (by decide) h), fun h => h6 (getD_was (by decide) h), fun _ => rfl, fun h => h8 (getD_was (by decide) h), fun h => h9 (getD_was (by decide) h), fun h => h10 (getD_was (by decide) h), fun _ => rfl, fun _ => rfl, fun _ => ⟨A9, c9, rfl, own_lowP hown (Nat.le_trans (Nat.le_trans hK1 hB.size) hB9)⟩⟩
          case last =>
            intro a' w' hI
            obtain ⟨x0, x1, x2, x3, x4, x5, x6, x7, x8, x9, x10, x11, x12, x13, rfl, hB, h0, h1, h2, h3, h4, h5, h6, h7, h8, h9, h10, h11, h12, h13⟩ := hI
            have q0 := h0 rfl
            have q1 := h1 rfl
            have q2 := h2 rfl
            have q3 := h3 rfl
            have q4 := h4 rfl
            have q5 := h5 rfl
            have q6 := h6 rfl
            have q7 := h7 rfl
            have q8 := h8 rfl
            have q9 := h9 rfl
            have q10 := h10 rfl
            have q11 := h11 rfl
            have q12 := h12 rfl
            subst q0
            subst q1
            subst q2
            subst q3
            subst q4
            subst q5
            subst q6
            subst q7
            subst q8
            subst q9
            subst q10
            subst q11
            subst q12
            obtain ⟨A9, c9, rfl, hown⟩ := h13 rfl
            clear h0 h1 h2 h3 h4 h5 h6 h7 h8 h9 h10 h11 h12 h13
            have HP6 := Lib.hid (HPc2.out.below hB)
            have HG6 := Lib.hid (HGc.out.trans (hB.mono hK1))
            have hK6 : mr ≤ w'.heap.size := Nat.le_trans hK1 hB.size
            have HOw := Lib.hid hown
            clear hown hB HRef HTv9 HPc2 HGc HTc
            obtain ⟨fr, hfr1, hfr2⟩ := HP6.out.refs
            have HFr1 := Lib.hid hfr1; have HFr2 := Lib.hid hfr2
            clear hfr1 hfr2
            refine wpAny_of_seqA 1 14 rfl (by kernel_rfl) ?_
            simp only [List.drop_succ_cons, List.drop_zero]
            go_wp2_with (at_mapUpdate; go_loud (refine wpList_storeV rfl _ _ _ 80 rfl Tryz.underlying9 Tryz.underlying80 HFr1.out (by unfold maxLen; omega) rfl xp hxm _ rfl rfl ?_); intro w9 hm9 ht9; have HP9 := Lib.hid (HP6.out.ref HRi.out HX.out HKk.out HFr2.out hm9 ht9 HOw.out); have HG9 := Lib.hid (HG6.out.trans (turned_below ht9 (by have := HP6.out.lo; omega) hK6)); have hK9 : mr ≤ w9.heap.size := (by have := HG9.out.size; have := HMr.out; omega); clear hm9 ht9)
            go_roundw
            case rel => exact ⟨j + 1, Af, Ac, qf, cf, qc, cc, by omega, by go_num, rfl, rfl, by omega, by omega, Lib.hid (by rw [upK_no HX.out (by rw [HKk.out]; decide)]; exact HLf.out), Lib.hid (by rw [upK_no HX.out (by rw [HKk.out]; decide)]; exact HLc.out), HP9, HG9, hK9⟩
            case measure => simp [intOf]; omega
        | false =>
          obtain rfl : kd = 1 := hk9
          clear hbo HKd HKs HKf
          go_wp2_with (first | (at_lookup; go_loud (refine wpList_lookR rfl _ _ 75 true rfl xp _ rfl rfl HRun.out ?_)) | (go_at_call 30; go_loud (refine (HPgq.out _).mono ?_; rintro e w6 ⟨rfl, hw6⟩; subst w6)) | (at_builtin; go_loud (have hh := own_alloc (by have := HPa2.out.files; rw [HLf.out] at this; exact this) (.cells #[.string xp, .string xb2] 62); have k1 : (qf + 1) * 32 ≤ 140737488355328 := (by omega); have k2 : qf + 1 ≤ maxLen := (by unfold maxLen; omega); have k3 : mr ≤ (World.alloc (wo.alloc (.cells #[.string xp, .string xb2] 62)) (.cells #[.string xp, .string xb2] 62)).heap.size := (by simp; omega); have k4 := cell_new (wo.alloc (.cells #[.string xp, .string xb2] 62)) [.string xp, .string xb2] 62 (wo.heap.size + 1) (by rw [World.size_alloc]); go_must (refine wpList_push _ rfl (.tmp 112) (.tmp 114) 22 rfl mr 62 _ 2 32 Tryz.underlying22 info_out rfl (by omega) (.slice Af qf cf) qf _ rfl hh [.string xp, .string xb2] rfl _ (by first | rfl | simp) k4 (by intro u hu; simp at hu; rcases hu with rfl | rfl <;> rfl) k1 k2 k3 ?_); clear k1 k2 k3 k4; intro g9 c9 w9 own9 hg9 hgg9 hb9; have HP9 := Lib.hid (PrepAt.file (HPa2.out.alloc (.cells #[.string xp, .string xb2] 62)) HX.out HKk.out HLf.out own9 hg9 hgg9); have HG9 := Lib.hid ((HGa.out.alloc hKa (.cells #[.string xp, .string xb2] 62)).trans hb9); have hK9 : mr ≤ w9.heap.size := (by have h9 := hb9.size; rw [World.size_alloc, World.size_alloc] at h9; omega); clear hh own9 hg9 hgg9 hb9)))
          go_roundw
          case rel => exact ⟨j + 1, _, Ac, qf + 1, _, qc, cc, by omega, by go_num, rfl, rfl, by omega, by omega, Lib.hid (by rw [upK_yes HX.out HKk.out, List.length_append, HLf.out]; rfl), Lib.hid (by rw [upK_no HX.out (by rw [HKk.out]; decide)]; exact HLc.out), HP9, HG9, hK9⟩
          case measure => simp [intOf]; omega
      | some y =>
        obtain ⟨z, hz⟩ : ∃ z, str0 y = z := ⟨_, rfl⟩
        have HRun := Lib.hid (smap_someP HLk.out Tryz.underlying9 Tryz.underlying9 Tryz.underlying75 hxm (zero_strP _) ((HMa.out _).trans hbo))
        rw [hz] at HRun
        by_cases hs : z = xb2
        · obtain rfl : kd = 0 := HKs.out y hbo (hz.trans hs)
          clear hbo HKd HKs HKf hz
          subst hs
          go_wp2_with (first | (at_lookup; go_loud (refine wpList_lookR rfl _ _ 75 true rfl xp _ rfl rfl HRun.out ?_)) | (go_at_call 30; go_loud (refine (HPgq.out _).mono ?_; rintro e w6 ⟨rfl, hw6⟩; subst w6)))
          go_roundw
          case rel => exact ⟨j + 1, Af, Ac, qf, cf, qc, cc, by omega, by go_num, rfl, rfl, by omega, by omega, Lib.hid (by rw [upK_no HX.out (by rw [HKk.out]; decide)]; exact HLf.out), Lib.hid (by rw [upK_no HX.out (by rw [HKk.out]; decide)]; exact HLc.out), Lib.hid (HPa2.out.skip HX.out HKk.out), HGa, hKa⟩
          case measure => simp [intOf]; omega
        · have hk9 := HKf.out y hbo (by rw [hz]; exact hs)
          have hs1 := str_ne hs
          have hs2 := str_ne2 hs
          clear hbo HKd HKs HKf hz hs
          cases pg with
          | true =>
            obtain rfl : kd = 2 := hk9
            go_wp2_with (first | (at_lookup; go_loud (refine wpList_lookR rfl _ _ 75 true rfl xp _ rfl rfl HRun.out ?_)) | (go_at_call 30; go_loud (refine (HPgq.out _).mono ?_; rintro e w6 ⟨rfl, hw6⟩; subst w6)) | (at_builtin; go_loud (have hh := own_alloc (by have := HPa2.out.chg; rw [HLc.out] at this; exact this) (.cells #[.string xp, .string xb2] 62); have k1 : (qc + 1) * 32 ≤ 140737488355328 := (by omega); have k2 : qc + 1 ≤ maxLen := (by unfold maxLen; omega); have k3 : mr ≤ (World.alloc (wo.alloc (.cells #[.string xp, .string xb2] 62)) (.cells #[.string xp, .string xb2] 62)).heap.size := (by simp; omega); have k4 := cell_new (wo.alloc (.cells #[.string xp, .string xb2] 62)) [.string xp, .string xb2] 62 (wo.heap.size + 1) (by rw [World.size_alloc]); go_must (refine wpList_push _ rfl (.tmp 118) (.tmp 120) 22 rfl mr 62 _ 2 32 Tryz.underlying22 info_out rfl (by omega) (.slice Ac qc cc) qc _ rfl hh [.string xp, .string xb2] rfl _ (by first | rfl | simp) k4 (by intro u hu; simp at hu; rcases hu with rfl | rfl <;> rfl) k1 k2 k3 ?_); clear k1 k2 k3 k4; intro g9 c9 w9 own9 hg9 hgg9 hb9; have HP9 := Lib.hid (PrepAt.change (HPa2.out.alloc (.cells #[.string xp, .string xb2] 62)) HX.out HKk.out HLc.out own9 hg9 hgg9); have HG9 := Lib.hid ((HGa.out.alloc hKa (.cells #[.string xp, .string xb2] 62)).trans hb9); have hK9 : mr ≤ w9.heap.size := (by have h9 := hb9.size; rw [World.size_alloc, World.size_alloc] at h9; omega); clear hh own9 hg9 hgg9 hb9)))
            go_roundw
            case rel => exact ⟨j + 1, Af, _, qf, cf, qc + 1, _, by omega, by go_num, rfl, rfl, by omega, by omega, Lib.hid (by rw [upK_no HX.out (by rw [HKk.out]; decide)]; exact HLf.out), Lib.hid (by rw [upK_yes HX.out HKk.out, List.length_append, HLc.out]; rfl), HP9, HG9, hK9⟩
            case measure => simp [intOf]; omega
          | false =>
            obtain rfl : kd = 1 := hk9
            go_wp2_with (first | (at_lookup; go_loud (refine wpList_lookR rfl _ _ 75 true rfl xp _ rfl rfl HRun.out ?_)) | (go_at_call 30; go_loud (refine (HPgq.out _).mono ?_; rintro e w6 ⟨rfl, hw6⟩; subst w6)) | (at_builtin; go_loud (have hh := own_alloc (by have := HPa2.out.files; rw [HLf.out] at this; exact this) (.cells #[.string xp, .string xb2] 62); have k1 : (qf + 1) * 32 ≤ 140737488355328 := (by omega); have k2 : qf + 1 ≤ maxLen := (by unfold maxLen; omega); have k3 : mr ≤ (World.alloc (wo.alloc (.cells #[.string xp, .string xb2] 62)) (.cells #[.string xp, .string xb2] 62)).heap.size := (by simp; omega); have k4 := cell_new (wo.alloc (.cells #[.string xp, .string xb2] 62)) [.string xp, .string xb2] 62 (wo.heap.size + 1) (by rw [World.size_alloc]); go_must (refine wpList_push _ rfl (.tmp 112) (.tmp 114) 22 rfl mr 62 _ 2 32 Tryz.underlying22 info_out rfl (by omega) (.slice Af qf cf) qf _ rfl hh [.string xp, .string xb2] rfl _ (by first | rfl | simp) k4 (by intro u hu; simp at hu; rcases hu with rfl | rfl <;> rfl) k1 k2 k3 ?_); clear k1 k2 k3 k4; intro g9 c9 w9 own9 hg9 hgg9 hb9; have HP9 := Lib.hid (PrepAt.file (HPa2.out.alloc (.cells #[.string xp, .string xb2] 62)) HX.out HKk.out HLf.out own9 hg9 hgg9); have HG9 := Lib.hid ((HGa.out.alloc hKa (.cells #[.string xp, .string xb2] 62)).trans hb9); have hK9 : mr ≤ w9.heap.size := (by have h9 := hb9.size; rw [World.size_alloc, World.size_alloc] at h9; omega); clear hh own9 hg9 hgg9 hb9)))
            go_roundw
            case rel => exact ⟨j + 1, _, Ac, qf + 1, _, qc, cc, by omega, by go_num, rfl, rfl, by omega, by omega, Lib.hid (by rw [upK_yes HX.out HKk.out, List.length_append, HLf.out]; rfl), Lib.hid (by rw [upK_no HX.out (by rw [HKk.out]; decide)]; exact HLc.out), HP9, HG9, hK9⟩
            case measure => simp [intOf]; omega
    · obtain rfl : j = lb := by omega
      have hlt2 : ¬ (j : Int) < (j : Int) := by omega
      obtain ⟨lf, hlf⟩ : ∃ f, (fun k => (freshL a b).getD k false) = f := ⟨_, rfl⟩
      have HLfe := Lib.hid hlf
      have HT0 := Lib.hid (show TakeAt wo mr mr ml xb a b lf by rw [← hlf]; have := HP.out; rw [← HLb.out] at this; exact this.all HRi.out)
      have HFi := Lib.hid (show wo.ownsRow mr 62 2 (.slice Af qf cf) qf (outsC (upK a b 1 j)) by have := HP.out.files; rw [HLf.out] at this; exact this)
      have HCh := Lib.hid (show wo.ownsRow mr 62 2 (.slice Ac qc cc) qc (outsC (upK a b 2 j)) by have := HP.out.chg; rw [HLc.out] at this; exact this)
      clear HP hlf
      obtain ⟨F1, hF1⟩ : ∃ f, upK a b 1 j = f := ⟨_, rfl⟩
      obtain ⟨F2, hF2⟩ : ∃ f, upK a b 2 j = f := ⟨_, rfl⟩
      rw [hF1] at HLf HFi
      rw [hF2] at HLc HCh
      have HF1 := Lib.hid hF1; have HF2 := Lib.hid hF2
      clear hF1 hF2
      go_upto_region 31 with fail
      have hao := (Below.refl wo.heap.size wo).alloc (Nat.le_refl _) (.cells #[.slice none 0 0] 43)
      have HA0 := Lib.hid (AddAt.nil wo mr hKw)
      replace HT0 := Lib.hid (HT0.out.below hao); replace HFi := Lib.hid (own_stay HFi.out hao); replace HCh := Lib.hid (own_stay HCh.out hao); replace HG := Lib.hid (HG.out.trans (hao.mono hKw))
      replace hKw := Nat.le_trans hKw hao.size
      clear hao
      obtain ⟨W1, hW1⟩ : ∃ W, wo.alloc (.cells #[.slice none 0 0] 43) = W := ⟨_, rfl⟩
      rw [hW1] at HA0 HT0 HFi HCh HG hKw
      rw [hW1]
      obtain ⟨O, hO⟩ : ∃ O, wo.heap.size = O := ⟨_, rfl⟩
      rw [hO] at HA0
      rw [hO]
      clear hW1 hO
      go_upto_region 32 with (go_at_call 40; go_loud (refine (add_q mr O [] false F1 Af qf cf _ HA0.out HFi.out HLf.out (by simp)).mono ?_; rintro e w1 ⟨rfl, hA, hg, hb⟩; have HA1 := Lib.hid hA; have HT1 := Lib.hid (HT0.out.keepN hg (fun x hx => hx.ok)); have HC1 := Lib.hid (own_steps HCh.out hg (by decide) (by decide)); have HG1 := Lib.hid (HG.out.trans hb); have hK1 : mr ≤ w1.heap.size := Nat.le_trans hKw hb.size; clear hA hg hb))
      obtain ⟨L0, hL0⟩ : ∃ L, (if F1.length = 0 then ([] : List (StepR × Value)) else [] ++ [((⟨false, F1⟩ : StepR), Value.slice Af qf cf)]) = L := ⟨_, rfl⟩
      have HM0 := Lib.hid (show L0.map (·.1) = oneS false F1 ∧ L0.length ≤ 1 by
        rw [← hL0]
        have := add_map [] ((⟨false, F1⟩ : StepR), Value.slice Af qf cf)
        exact ⟨this.1, this.2⟩)
      have HA2 := Lib.hid (show AddAt w1 mr O L0 by rw [← hL0]; exact HA1.out)
      clear hL0 HA0 HT0 HFi HCh HG hKw HA1
      have hz9 : ∀ k, (pathA b k).size ≤ 200 := fun k => by
        cases hk : b[k]? with
        | none => rw [pathA, hk]; exact Nat.zero_le _
        | some o => rw [pathA_at hk]; exact (HZb.out o (List.mem_of_getElem? hk)).1
      have HZ9 := Lib.hid hz9
      clear hz9
      have hN0 := leftL_len b lf
      rw [HLb.out] at hN0
      go_loopw [] (fun wr => ∃ (Cs : List (List Nat)) (left : Nat → Bool) (L : List (StepR × Value)), Hid (L.length + (leftL b left).length ≤ 481) ∧ Hid (TakeAt wr mr mr ml xb a b left) ∧ Hid (AddAt wr mr O L) ∧ Hid (L.map (·.1) = oneS false F1 ++ stepsOf b Cs) ∧ Hid (∀ R, StepsC (tosP b) left R → StepsC (tosP b) lf (Cs ++ R)) ∧ Hid (wr.ownsRow mr 62 2 (.slice Ac qc cc) qc (outsC F2)) ∧ Hid (Below mr w7 wr) ∧ mr ≤ wr.heap.size) (fun wr => lenW wr ml)
      case atStart => exact ⟨[], lf, L0, Lib.hid (by have := HM0.out.2; omega), HT1, HA2, Lib.hid (by rw [HM0.out.1]; simp [stepsOf]), Lib.hid (fun R h => h), HC1, HG1, hK1⟩
      case round =>
        clear HT1 HA2 HC1 HG1 hK1 hN0
        obtain ⟨Cs, left, L, HLn, HT, HA, HMp, HSt, HCh, HG, hKw⟩ := hrel
        obtain ⟨wp, rfl⟩ : ∃ wo : World, wo = wr := ⟨_, rfl⟩
        obtain ⟨fl, hm4, hf5, hf6⟩ := HT.out.lefts
        have HMl := Lib.hid hm4; have HF5 := Lib.hid hf5; have HF6 := Lib.hid hf6
        clear hm4 hf5 hf6
        have HND := Lib.hid (leftL_nodup (left := left) HRi.out)
        have HLm := Lib.hid (leftL_mem HF5.out HF6.out)
        have HLl := Lib.hid (show ∀ k, left k = true → k < b.length from fun k hk => (HT.out.planIn.lt k hk).1)
        have HEx := Lib.hid (fun h => leftL_ex (b := b) (left := left) h)
        have HNo := Lib.hid (fun h => leftL_no (b := b) (left := left) h HLl.out)
        obtain ⟨n, hn⟩ : ∃ n, (leftL b left).length = n := ⟨_, rfl⟩
        have HNn := Lib.hid hn
        have hlen : ∀ ty, (Builtin.len_ #[77] ty #[.map (some ml)]).run Tryz.prog wp = .ok (.int .i64 (n : Nat)) wp := fun ty => by
          have := HMl.out.count Tryz.underlying9 Tryz.underlying77 HND.out HLm.out ty
          rw [hn] at this; exact this
        rw [hn] at HLn HEx HNo
        have HLw := Lib.hid (lenW_of (hlen _))
        clear hn
        have x1 : wp.cell? ⟨xb, 1, none⟩ = some (.map (some ml)) := HT.out.box.c 1
        have hn9 : n ≤ 481 := by have := HLn.out; omega
        by_cases hn0 : n = 0
        · have hni : ¬ (0 : Int) < (n : Int) := by omega
          have HCs := Lib.hid (show StepsC (tosP b) lf Cs by have := HSt.out [] (.done (HNo.out hn0)); simpa using this)
          clear hn0 HNo HEx HMl HF5 HF6 HND HLm
          have HC0 := Lib.hid (show Below mr w7 wp from HG.out)
          have hL1 : L.length ≤ 481 := by have := HLn.out; omega
          obtain ⟨S1, hS1⟩ : ∃ S, oneS false F1 ++ stepsOf b Cs = S := ⟨_, rfl⟩
          rw [hS1] at HMp
          have HS1 := Lib.hid hS1
          have hqc9 : qc ≤ 480 := by omega
          clear hS1 HLw HLn HNn HSt HZ9
          go_wp2_with fail
          clear hlen
          go_loopw [163] (fun t163 wr => ∃ (p : Nat) (L : List (StepR × Value)), p ≤ qc ∧ t163 = .int .i64 p ∧ L.length ≤ 481 + p ∧ Hid (AddAt wr mr O L) ∧ Hid (L.map (·.1) = S1 ++ (F2.take p).map (fun x => ⟨false, [x]⟩)) ∧ Hid (wr.ownsRow mr 62 2 (.slice Ac qc cc) qc (outsC F2)) ∧ Hid (Below mr w7 wr) ∧ mr ≤ wr.heap.size) (fun t _ => qc - (intOf t).toNat)
          case atStart => exact ⟨0, L, Nat.zero_le _, rfl, by omega, HA, Lib.hid (by rw [HMp.out]; simp), HCh, HG, hKw⟩
          case round =>
            clear HT HA HMp HCh HG hKw x1 HC0 hL1
            obtain ⟨p, L, hp, rfl, hLp, HA, HMp, HCh, HG, hKw⟩ := hrel
            obtain ⟨wx, rfl⟩ : ∃ wo : World, wo = wr := ⟨_, rfl⟩
            by_cases hpt : p < qc
            · have hpt2 : (p : Int) < (qc : Int) := by omega
              obtain ⟨x, hx⟩ : ∃ x, F2[p]? = some x := ⟨_, List.getElem?_eq_getElem (by rw [HLc.out]; exact hpt)⟩
              have HTk := Lib.hid (show F2.take (p + 1) = F2.take p ++ [x] by rw [List.take_add_one, hx]; rfl)
              obtain ⟨gcx, rfl⟩ : ∃ g, Ac = some ⟨g, 0, none⟩ := by
                obtain ⟨A', c', hv, _, _, hA⟩ := own_form HCh.out
                cases hv
                obtain ⟨g, hg, _⟩ := hA (by omega)
                exact ⟨g, hg⟩
              have hc := outsC_at _ _ _ hx
              have k0 : wx.cell? ⟨gcx, p * 2, none⟩ = some (.string x.path) := by rw [HCh.out.cellAt (p * 2) (by omega)]; exact hc.1
              have k1 : wx.cell? ⟨gcx, p * 2 + 1, none⟩ = some (.string x.body) := by rw [HCh.out.cellAt (p * 2 + 1) (by omega)]; exact hc.2
              clear hx hc
              obtain ⟨xp, xb2⟩ := x
              simp only at k0 k1
              have hao := (Below.refl wx.heap.size wx).alloc (Nat.le_refl _) (.cells #[.string xp, .string xb2] 62)
              have HTv := Lib.hid (CB.new wx #[.string xp, .string xb2] 62)
              have HAa9 := Lib.hid (HA.out.below hao); have HCa9 := Lib.hid (own_stay HCh.out hao); have HGa := Lib.hid (HG.out.trans (hao.mono hKw))
              have hKa := Nat.le_trans hKw hao.size
              clear hao
              obtain ⟨Wx, hWx⟩ : ∃ W, wx.alloc (.cells #[.string xp, .string xb2] 62) = W := ⟨_, rfl⟩
              have HFo := Lib.hid (own_lowP (own_fresh2 Wx 62 (.string xp) (.string xb2)) (show mr ≤ Wx.heap.size by rw [← hWx]; exact hKa))
              have hao := (Below.refl Wx.heap.size Wx).alloc (Nat.le_refl _) (.cells #[.string xp, .string xb2] 62)
              rw [hWx] at HAa9 HCa9 HGa hKa
              have HAb9 := Lib.hid (HAa9.out.below hao); have HCb9 := Lib.hid (own_stay HCa9.out hao); have HGb := Lib.hid (HGa.out.trans (hao.mono hKa))
              have hKb := Nat.le_trans hKa hao.size
              clear hao
              rw [← hWx] at HFo HAb9 HCb9 HGb hKb
              rw [World.size_alloc] at HFo
              clear hWx
              go_wp2_with (go_at_call 40; go_loud (refine (add_q mr O L false [⟨xp, xb2⟩] _ 1 1 _ HAb9.out HFo.out rfl (by omega)).mono ?_; rintro e w12 ⟨rfl, hA, hg, hb⟩; have HA12 := Lib.hid hA; have HC12 := Lib.hid (own_steps HCb9.out hg (by decide) (by decide)); have HG12 := Lib.hid (HGb.out.trans hb); have hK12 : mr ≤ w12.heap.size := Nat.le_trans hKb hb.size; clear hA hg hb))
              go_roundw
              case rel => exact ⟨p + 1, _, by omega, by go_num, by have := (add_map L ((⟨false, [⟨xp, xb2⟩]⟩ : StepR), Value.slice (some ⟨wx.heap.size + 1, 0, none⟩) 1 1)).2; exact Nat.le_trans this (by omega), HA12, Lib.hid (by refine (add_map L ((⟨false, [⟨xp, xb2⟩]⟩ : StepR), Value.slice (some ⟨wx.heap.size + 1, 0, none⟩) 1 1)).1.trans ?_; rw [HMp.out, HTk.out, List.map_append, ← List.append_assoc]; rfl), HC12, HG12, hK12⟩
              case measure => simp [intOf]; omega
            · obtain rfl : p = qc := by omega
              have hpt2 : ¬ (p : Int) < (p : Int) := by omega
              have HMq := Lib.hid (show L.map (·.1) = S1 ++ F2.map (fun x => ⟨false, [x]⟩) by rw [HMp.out, List.take_of_length_le (by rw [HLc.out]; exact Nat.le_refl _)])
              have hLp9 : L.length ≤ 961 := by omega
              obtain ⟨M5, hM5⟩ : ∃ m, wx.heap.size = m := ⟨_, rfl⟩
              have HM5 := Lib.hid hM5
              have hKM : mr ≤ M5 := by omega
              have hMw0 : M5 ≤ wx.heap.size := by omega
              have HAx := Lib.hid (show ∀ wr, Below M5 wx wr → AddAt wr mr O L ∧ Below mr w7 wr from fun wr hb => by
                have hb2 := hb
                rw [← hM5] at hb2
                exact ⟨HA.out.below hb2, HG.out.trans (hb.mono hKM)⟩)
              clear hM5
              go_wp2_with fail
              go_loopw [28, 29, 175] (fun t28 t29 t175 wr => ∃ (i : Nat) (A1 A2 : Option Addr) (q1 c1 q2 c2 : Nat), i ≤ la ∧ t175 = .int .i64 i ∧ t28 = .slice A1 q1 c1 ∧ t29 = .slice A2 q2 c2 ∧ q1 ≤ i ∧ q2 ≤ i ∧ Hid ((goneG a b true i).length = q1) ∧ Hid ((goneG a b false i).length = q2) ∧ Hid (wr.ownsRow M5 62 2 (.slice A1 q1 c1) q1 (outsC (goneG a b true i))) ∧ Hid (wr.ownsRow M5 62 2 (.slice A2 q2 c2) q2 (outsC (goneG a b false i))) ∧ Hid (Apart (.slice A1 q1 c1) (.slice A2 q2 c2)) ∧ Hid (Below M5 wx wr) ∧ M5 ≤ wr.heap.size) (fun _ _ t _ => la - (intOf t).toNat)
              case atStart => exact ⟨0, none, none, 0, 0, 0, 0, Nat.zero_le _, rfl, rfl, rfl, Nat.le_refl _, Nat.le_refl _, Lib.hid rfl, Lib.hid rfl, Lib.hid (World.ownsRow_nil _ _ _ _), Lib.hid (World.ownsRow_nil _ _ _ _), Lib.hid (Apart.nil _ 0), Lib.hid (Below.refl _ _), hMw0⟩
              case round =>
                clear hMw0 HA HCh HG hKw
                obtain ⟨i, A1, A2, q1, c1, q2, c2, hi, rfl, rfl, rfl, hq1, hq2, HL1, HL2, HG1, HG2, HAp2, HBM, hMw⟩ := hrel
                obtain ⟨wy, rfl⟩ : ∃ wo : World, wo = wr := ⟨_, rfl⟩
                by_cases hit : i < la
                · obtain ⟨x, hx⟩ : ∃ x, a[i]? = some x := ⟨_, List.getElem?_eq_getElem (by rw [HLa.out]; exact hit)⟩
                  obtain rfl := HAa.out (by intro h0; rw [h0] at hx; simp at hx)
                  have kc := (HCa.out i x hx).keep (HKe.out _ (HFix.out _ (HAx.out _ HBM.out).2).2.2.2.2)
                  have k0 := kc.c0
                  have k1 := kc.c1
                  have hit2 : (i : Int) < (la : Int) := by omega
                  have HY := Lib.hid (fun p h1 h2 => goneG_yes (b := b) (p := p) hx h1 h2); have HN := Lib.hid (fun p h1 => goneG_no (b := b) (p := p) hx h1)
                  have hxz := (HZa.out x (List.mem_of_getElem? hx)).1
                  clear hx kc
                  obtain ⟨xp, xb2⟩ := x
                  simp only at k0 k1 hxz HY HN
                  obtain ⟨pg, hpg⟩ : ∃ v, pageB xp = v := ⟨_, rfl⟩
                  rw [hpg] at HY HN
                  have HPgq := Lib.hid (fun w => isPageS_q xp pg w (by omega) hpg)
                  have hao := (Below.refl wy.heap.size wy).alloc (Nat.le_refl _) (.cells #[.string xp, .string xb2] 62)
                  have hMy : M5 ≤ wy.heap.size := hMw
                  replace HBM := Lib.hid (HBM.out.trans (hao.mono hMw))
                  replace HG1 := Lib.hid (own_stay HG1.out hao); replace HG2 := Lib.hid (own_stay HG2.out hao)
                  replace hMw := Nat.le_trans hMw hao.size
                  have HRun0 := Lib.hid (bmap_look (HFix.out _ (HAx.out _ HBM.out).2).2.2.2.1 Tryz.underlying9 Tryz.underlying4 Tryz.underlying77 (show xp.size ≤ maxLen by unfold maxLen; omega) (zero_boolP _))
                  clear hpg hao
                  by_cases hv0 : 0 ≤ outAtI b xp.data.toList
                  · have hv1 : (pathsF b xp.data.toList).getD false = true := hasF_iff.2 hv0
                    have HRun := HRun0.out
                    rw [hv1] at HRun
                    have HRun := Lib.hid HRun
                    have E1 := HN.out true (Or.inl (by omega)); have E2 := HN.out false (Or.inl (by omega))
                    have HE1 := Lib.hid E1; have HE2 := Lib.hid E2
                    clear E1 E2 HY HN HRun0 hv0 hv1
                    go_wp2_with (at_lookup; go_loud (refine wpList_lookR rfl _ _ 77 false rfl xp _ rfl rfl HRun.out ?_))
                    go_roundw
                    case rel => exact ⟨i + 1, A1, A2, q1, c1, q2, c2, by omega, by go_num, rfl, rfl, by omega, by omega, Lib.hid (by rw [HE1.out]; exact HL1.out), Lib.hid (by rw [HE2.out]; exact HL2.out), Lib.hid (by rw [HE1.out]; exact HG1.out), Lib.hid (by rw [HE2.out]; exact HG2.out), HAp2, HBM, hMw⟩
                    case measure => simp [intOf]; omega
                  · have hv1 : (pathsF b xp.data.toList).getD false = false := by
                      cases hh : (pathsF b xp.data.toList).getD false with
                      | false => rfl
                      | true => exact absurd (hasF_iff.1 hh) hv0
                    have HRun := HRun0.out
                    rw [hv1] at HRun
                    have HRun := Lib.hid HRun
                    clear HRun0 hv1
                    have hv2 : outAtI b xp.data.toList < 0 := by omega
                    cases pg with
                    | true =>
                      have E1 := HY.out true hv2 rfl; have E2 := HN.out false (Or.inr (by decide))
                      have HE1 := Lib.hid E1; have HE2 := Lib.hid E2
                      clear E1 E2 HY HN hv0 hv2
                      go_wp2_with (first | (at_lookup; go_loud (refine wpList_lookR rfl _ _ 77 false rfl xp _ rfl rfl HRun.out ?_)) | (go_at_call 30; go_loud (refine (HPgq.out _).mono ?_; rintro e w6 ⟨rfl, hw6⟩; subst w6)) | (at_builtin; go_loud (have hh := own_alloc HG1.out (.cells #[.string xp, .string ⟨#[]⟩] 62); have k1 : (q1 + 1) * 32 ≤ 140737488355328 := (by omega); have k2 : q1 + 1 ≤ maxLen := (by unfold maxLen; omega); have k3 : M5 ≤ (World.alloc (wy.alloc (.cells #[.string xp, .string xb2] 62)) (.cells #[.string xp, .string ⟨#[]⟩] 62)).heap.size := (by simp; omega); have k4 := cell_new (wy.alloc (.cells #[.string xp, .string xb2] 62)) [.string xp, .string ⟨#[]⟩] 62 (wy.heap.size + 1) (by rw [World.size_alloc]); go_must (refine wpList_push _ rfl (.tmp 186) (.tmp 190) 22 rfl M5 62 _ 2 32 Tryz.underlying22 info_out rfl (by omega) (.slice A1 q1 c1) q1 _ rfl hh [.string xp, .string ⟨#[]⟩] rfl _ (by first | rfl | simp) k4 (by intro u hu; simp at hu; rcases hu with rfl | rfl <;> rfl) k1 k2 k3 ?_); clear k1 k2 k3 k4; intro g9 c9 w9 own9 hg9 hgg9 hb9; have HX9 := Lib.hid own9; have HY9 := Lib.hid (own_other (own_alloc HG2.out (.cells #[.string xp, .string ⟨#[]⟩] 62)) hh hg9 (Apart.or (Apart.symm (HAp2.out)))); have HA9 := Lib.hid (Apart.push (v := .slice A2 q2 c2) (n := q1 + 1) (cap := c9) HAp2.out (hgg9) (fun k hk => by have := own_lt HG2.out k hk; simp at this ⊢; omega)); have HB9 := Lib.hid ((HBM.out.alloc hMw (.cells #[.string xp, .string ⟨#[]⟩] 62)).trans hb9); clear hh own9 hg9 hgg9 hb9)))
                      go_roundw
                      case rel => exact ⟨i + 1, _, A2, q1 + 1, _, q2, c2, by omega, by go_num, rfl, rfl, by omega, by omega, Lib.hid (by rw [HE1.out, List.length_append, HL1.out]; rfl), Lib.hid (by rw [HE2.out]; exact HL2.out), Lib.hid (by rw [HE1.out, outsC_snoc]; exact HX9.out), Lib.hid (by rw [HE2.out]; exact HY9.out), HA9, HB9, by have := HB9.out.size; have := HM5.out; omega⟩
                      case measure => simp [intOf]; omega
                    | false =>
                      have E1 := HN.out true (Or.inr (by decide)); have E2 := HY.out false hv2 rfl
                      have HE1 := Lib.hid E1; have HE2 := Lib.hid E2
                      clear E1 E2 HY HN hv0 hv2
                      go_wp2_with (first | (at_lookup; go_loud (refine wpList_lookR rfl _ _ 77 false rfl xp _ rfl rfl HRun.out ?_)) | (go_at_call 30; go_loud (refine (HPgq.out _).mono ?_; rintro e w6 ⟨rfl, hw6⟩; subst w6)) | (at_builtin; go_loud (have hh := own_alloc HG2.out (.cells #[.string xp, .string ⟨#[]⟩] 62); have k1 : (q2 + 1) * 32 ≤ 140737488355328 := (by omega); have k2 : q2 + 1 ≤ maxLen := (by unfold maxLen; omega); have k3 : M5 ≤ (World.alloc (wy.alloc (.cells #[.string xp, .string xb2] 62)) (.cells #[.string xp, .string ⟨#[]⟩] 62)).heap.size := (by simp; omega); have k4 := cell_new (wy.alloc (.cells #[.string xp, .string xb2] 62)) [.string xp, .string ⟨#[]⟩] 62 (wy.heap.size + 1) (by rw [World.size_alloc]); go_must (refine wpList_push _ rfl (.tmp 192) (.tmp 196) 22 rfl M5 62 _ 2 32 Tryz.underlying22 info_out rfl (by omega) (.slice A2 q2 c2) q2 _ rfl hh [.string xp, .string ⟨#[]⟩] rfl _ (by first | rfl | simp) k4 (by intro u hu; simp at hu; rcases hu with rfl | rfl <;> rfl) k1 k2 k3 ?_); clear k1 k2 k3 k4; intro g9 c9 w9 own9 hg9 hgg9 hb9; have HX9 := Lib.hid own9; have HY9 := Lib.hid (own_other (own_alloc HG1.out (.cells #[.string xp, .string ⟨#[]⟩] 62)) hh hg9 (Apart.or (Apart.symm (HAp2.out.symm)))); have HA9 := Lib.hid (Apart.push (v := .slice A1 q1 c1) (n := q2 + 1) (cap := c9) HAp2.out.symm (hgg9) (fun k hk => by have := own_lt HG1.out k hk; simp at this ⊢; omega)); have HB9 := Lib.hid ((HBM.out.alloc hMw (.cells #[.string xp, .string ⟨#[]⟩] 62)).trans hb9); clear hh own9 hg9 hgg9 hb9)))
                      go_roundw
                      case rel => exact ⟨i + 1, A1, _, q1, c1, q2 + 1, _, by omega, by go_num, rfl, rfl, by omega, by omega, Lib.hid (by rw [HE1.out]; exact HL1.out), Lib.hid (by rw [HE2.out, List.length_append, HL2.out]; rfl), Lib.hid (by rw [HE1.out]; exact HY9.out), Lib.hid (by rw [HE2.out, outsC_snoc]; exact HX9.out), Lib.hid (Apart.symm HA9.out), HB9, by have := HB9.out.size; have := HM5.out; omega⟩
                      case measure => simp [intOf]; omega
                · obtain rfl : i = la := by omega
                  have hit2 : ¬ (i : Int) < (i : Int) := by omega
                  have HAy := Lib.hid (HAx.out _ HBM.out).1
                  have HGy := Lib.hid (HAx.out _ HBM.out).2
                  obtain ⟨g1, hg1⟩ : ∃ F, goneG a b true i = F := ⟨_, rfl⟩
                  obtain ⟨g2, hg2⟩ : ∃ F, goneG a b false i = F := ⟨_, rfl⟩
                  have HG1e := Lib.hid hg1; have HG2e := Lib.hid hg2
                  rw [hg1] at HG1 HL1
                  rw [hg2] at HG2 HL2
                  clear hg1 hg2 HAx HBM
                  have hmy : mr ≤ wy.heap.size := by omega
                  go_upto_region 56 with (go_at_call 40; go_loud (refine (add_q mr O L true g1 A1 q1 c1 _ HAy.out (own_lowP HG1.out hKM) HL1.out (by omega)).mono ?_; rintro e w12 ⟨rfl, hA, hg, hb⟩; have HA12 := Lib.hid hA; have HR12 := Lib.hid (own_steps HG2.out hg (by decide) (by decide)); have HG12 := Lib.hid (HGy.out.trans hb); clear hA hg hb))
                  have HQ1 := Lib.hid (add_map L ((⟨true, g1⟩ : StepR), Value.slice A1 q1 c1))
                  obtain ⟨L1, hL1⟩ : ∃ L9, (if g1.length = 0 then L else L ++ [((⟨true, g1⟩ : StepR), Value.slice A1 q1 c1)]) = L9 := ⟨_, rfl⟩
                  have HA13 := Lib.hid (show AddAt w12 mr O L1 by rw [← hL1]; exact HA12.out)
                  have HQ3 := Lib.hid (show L1.map (·.1) = L.map (·.1) ++ oneS true g1 ∧ L1.length ≤ L.length + 1 by rw [← hL1]; exact HQ1.out)
                  clear hL1 HA12 HQ1
                  have hL13 := HQ3.out.2
                  go_wp2_with (go_at_call 40; go_loud (refine (add_q mr O L1 true g2 A2 q2 c2 _ HA13.out (own_lowP HR12.out hKM) HL2.out (by omega)).mono ?_; rintro e w14 ⟨rfl, hA, hg, hb⟩; obtain ⟨L2, hL2⟩ : ∃ L9, (if g2.length = 0 then L1 else L1 ++ [((⟨true, g2⟩ : StepR), Value.slice A2 q2 c2)]) = L9 := ⟨_, rfl⟩; have HQ5 := Lib.hid (show L2.map (·.1) = L1.map (·.1) ++ oneS true g2 ∧ L2.length ≤ L1.length + 1 by rw [← hL2]; exact add_map L1 ((⟨true, g2⟩ : StepR), Value.slice A2 q2 c2)); have hA2 : AddAt w14 mr O L2 := (by rw [← hL2]; exact hA); clear hL2 hA; obtain ⟨⟨A9, c9, hcb9, hso9⟩, ho9⟩ := hA2; have HSo := Lib.hid hso9; have HG14 := Lib.hid (HG12.out.trans hb); have z0 : w14.cell? ⟨O, 0, none⟩ = _ := hcb9.c 0; clear hcb9 hso9 ho9 hg hb))
                  go_ret2
                  refine ⟨.slice A9 L2.length c9, L2, Cs, rfl, HSo.out.low (by have := HK.out; omega), ?_, by rw [HLfe.out]; exact HCs.out, by have h8 := HQ5.out.2; exact Nat.le_trans h8 (by omega), by rw [HK.out]; exact (HFix.out _ HG14.out).2.2.2.2⟩
                  rw [HQ5.out.1, HQ3.out.1, HMq.out, ← HS1.out, ← HF1.out, ← HF2.out, ← HG1e.out, ← HG2e.out, planL, HLa.out, HLb.out]
        · have hni : (0 : Int) < (n : Int) := by omega
          have HEx2 := Lib.hid (HEx.out (by omega))
          clear hn0 HNo HEx
          go_upto_region 34 with fail
          have hao := (Below.refl wp.heap.size wp).alloc (Nat.le_refl _) (.cells #[.bool false, .slice none 0 0] 86)
          have HS0 := Lib.hid (CB.new wp #[.bool false, .slice none 0 0] 86)
          have HT1 := Lib.hid (HT.out.below hao)
          have HX0 := Lib.hid (show GrownX (fun x => x = ml) wp (wp.alloc (.cells #[.bool false, .slice none 0 0] 86)) from .of_below hao)
          have HM5 := Lib.hid (HMl.out.below hao)
          have hmlp : ml < wp.heap.size := HMl.out.lt
          obtain ⟨W2, hW2⟩ : ∃ W, wp.alloc (.cells #[.bool false, .slice none 0 0] 86) = W := ⟨_, rfl⟩
          have hsz2 : wp.heap.size + 1 = W2.heap.size := by rw [← hW2, World.size_alloc]
          rw [hW2] at HS0 HT1 HX0 HM5
          rw [hW2]
          obtain ⟨sb, hsb⟩ : ∃ s, wp.heap.size = s := ⟨_, rfl⟩
          have HSb := Lib.hid hsb
          rw [hsb] at HS0 hsz2 hmlp hKw
          rw [hsb]
          clear hW2 hsb hao hlen
          go_upto_region 35 with (go_at_call 41; go_loud (refine (nextP_q b (tosP b) left xb mr ml _ HT1.out.planIn HEx2.out HRi.out HZ9.out (by rw [HLb.out]; exact hlb)).mono ?_; rintro e w1 ⟨C, A1, c1, hbest, rfl, hC4, ownC, hb⟩; have HBe := Lib.hid hbest; have HS1 := Lib.hid (show StepAt wp w1 sb ml b left C (.slice A1 C.length c1) 0 0 fl (.slice none 0 0) (.slice none 0 0) from ⟨HX0.out.over hb (by rw [HSb.out]; omega), ⟨HSb.out, hmlp⟩, HS0.out.below hb, World.ownsRow_nil _ _ _ _, own_lowP ownC (by omega), HM5.out.below hb, (fun k hk => by rw [List.take_zero, without_nil]; exact HF5.out k hk), HF6.out⟩); have hsz1 : sb < w1.heap.size := (by have := hb.size; omega); clear hbest ownC hb))
          have HCl := Lib.hid (show ∀ c ∈ C, c < b.length from fun c hc => by obtain ⟨i, hi, hI⟩ := HBe.out.ex; exact HLl.out c (((hI.mem c).1 hc).isLeft hi))
          have HC0 := Lib.hid (show 0 < C.length from by obtain ⟨i, hi, hI⟩ := HBe.out.ex; exact clo_ne hI)
          have HFull := Lib.hid (pickL_full HCl.out)
          obtain ⟨nC, hnC⟩ : ∃ n, C.length = n := ⟨_, rfl⟩
          have HnC := Lib.hid hnC
          rw [hnC] at hC4 HS1 HC0 HFull
          rw [hnC]
          clear hnC HS0 HT1 HX0 HM5 HMl HF5 HF6 HND HLm
          go_loopw [138] (fun t138 wr => ∃ (i : Nat) (fi : List UInt8 → Option Bool) (A2 : Option Addr) (q2 c2 : Nat), i ≤ nC ∧ t138 = .int .i64 i ∧ q2 ≤ i ∧ Hid ((pickL b (C.take i)).length = q2) ∧ Hid (StepAt wp wr sb ml b left C (.slice A1 nC c1) i i fi (.slice A2 q2 c2) (.slice A2 q2 c2)) ∧ sb < wr.heap.size) (fun t _ => nC - (intOf t).toNat)
          case atStart => exact ⟨0, fl, none, 0, 0, Nat.zero_le _, rfl, Nat.le_refl _, Lib.hid rfl, HS1, hsz1⟩
          case round =>
            clear HS1 hsz1
            obtain ⟨i, fi, A2, q2, c2, hi, rfl, hq2, HLq, HS, hsw⟩ := hrel
            obtain ⟨wv, rfl⟩ : ∃ wo : World, wo = wr := ⟨_, rfl⟩
            have HGv := Lib.hid (HS.out.lowB HG.out (by rw [HSb.out]; exact hKw) (by have := HT.out.lo; omega))
            have s0 : wv.cell? ⟨sb, 0, none⟩ = some (.bool false) := HS.out.box.c 0
            have s1 : wv.cell? ⟨sb, 1, none⟩ = some (.slice A2 q2 c2) := HS.out.box.c 1
            have s1f := HS.out.box.f 1
            by_cases hit : i < nC
            · have hit2 : (i : Int) < (nC : Int) := by omega
              obtain ⟨ci, hci⟩ : ∃ c, C[i]? = some c := ⟨_, List.getElem?_eq_getElem (by rw [HnC.out]; exact hit)⟩
              have HCi := Lib.hid hci
              have HCb9 := Lib.hid (HCl.out ci (List.mem_of_getElem? hci))
              obtain ⟨o, ho⟩ : ∃ o, b[ci]? = some o := ⟨_, List.getElem?_eq_getElem HCb9.out⟩
              have HO := Lib.hid ho
              have HPA := Lib.hid (pathA_at ho)
              have hoz := (HZb.out o (List.mem_of_getElem? ho)).1
              have HBo := Lib.hid (bodyP_some HAp.out (List.mem_of_getElem? ho))
              clear ho
              obtain ⟨op, ob2⟩ := o
              simp only at hoz HBo HPA
              obtain ⟨gC, rfl⟩ : ∃ g, A1 = some ⟨g, 0, none⟩ := by
                obtain ⟨A', c', hv, _, _, hA⟩ := own_form HS.out.names
                cases hv
                obtain ⟨g, hg, _⟩ := hA (by rw [HnC.out]; omega)
                exact ⟨g, hg⟩
              have HNm := Lib.hid (show wv.ownsRow sb 9 1 (.slice (some ⟨gC, 0, none⟩) nC c1) nC (strCells (C.map (pathK b))) by have := HS.out.names; rw [HnC.out] at this; exact this)
              have y0 : wv.cell? ⟨gC, i, none⟩ = some (.string op) := by rw [← HPA.out]; exact own_cell HNm.out (by rw [strK]; simp [hci])
              have HRun := Lib.hid (smap_lookP (HFix.out _ HGv.out).2.2.1 Tryz.underlying9 Tryz.underlying9 Tryz.underlying75 (show op.size ≤ maxLen by unfold maxLen; omega) (zero_strP _) ((HMb.out _).trans HBo.out))
              have HFr := Lib.hid (show wv.ownsRow sb 62 2 (.slice A2 q2 c2) q2 (outsC (pickL b (C.take i))) by have := HS.out.files; rw [HLq.out] at this; exact this)
              have hq9 : q2 ≤ 480 := by omega
              clear hci
              go_upto_region 38 with (first | (at_lookup; go_loud (refine wpList_lookR rfl _ _ 75 false rfl op _ rfl rfl HRun.out ?_)) | (at_builtin; go_loud (have hh := own_alloc HFr.out (.cells #[.string op, .string ob2] 62); have k1 : (q2 + 1) * 32 ≤ 140737488355328 := (by omega); have k2 : q2 + 1 ≤ maxLen := (by unfold maxLen; omega); have k3 : sb ≤ (World.alloc wv (.cells #[.string op, .string ob2] 62)).heap.size := (by simp; omega); have k4 := cell_new wv [.string op, .string ob2] 62 (World.heap wv).size rfl; go_must (refine wpList_push _ rfl (.tmp 143) (.tmp 149) 22 rfl sb 62 _ 2 32 Tryz.underlying22 info_out rfl (by omega) (.slice A2 q2 c2) q2 _ rfl hh [.string op, .string ob2] rfl _ (by first | rfl | simp) k4 (by intro u hu; simp at hu; rcases hu with rfl | rfl <;> rfl) k1 k2 k3 ?_); clear k1 k2 k3 k4; intro g9 c9 w9 own9 hg9 hgg9 hb9; have HS9 := Lib.hid ((HS.out.alloc (.cells #[.string op, .string ob2] 62)).grow HCi.out HO.out HLq.out own9 hg9 hb9); have v1 : w9.cell? ⟨sb, 1, none⟩ = some (.slice A2 q2 c2) := HS9.out.box.c 1; have v1f := HS9.out.box.f 1; have v2 : (w9.setCell ⟨sb, 1, none⟩ (.slice (some ⟨g9, 0, none⟩) (q2 + 1) c9)).cell? ⟨xb, 1, none⟩ = some (.map (some ml)) := (HS9.out.set.planner HT.out).c 1; clear hh own9 hg9 hgg9 hb9)))
              go_wp2_with (at_delete; go_loud (refine wpList_dropR rfl _ _ 77 rfl Tryz.underlying9 Tryz.underlying77 HS9.out.set.map rfl op (by unfold maxLen; omega) rfl ?_); intro w11 hm11 ht11; have HS11 := Lib.hid (HS9.out.set.del HRi.out HCi.out HCb9.out (by rw [pathK, HPA.out]; exact hm11) ht11); have hs11 : sb < w11.heap.size := HS11.out.box.lt; clear hm11 ht11)
              go_roundw
              case rel => exact ⟨i + 1, _, _, q2 + 1, _, by omega, by go_num, by omega, Lib.hid (by rw [pickL_take HCi.out HO.out, List.length_append, HLq.out]; rfl), HS11, hs11⟩
              case measure => simp [intOf]; omega
            · obtain rfl : i = nC := by omega
              have hit2 : ¬ (i : Int) < (i : Int) := by omega
              have HLi := Lib.hid (show C.take i = C by rw [List.take_of_length_le (by rw [HnC.out]; exact Nat.le_refl _)])
              have hqi : q2 = i := by rw [← HLq.out, HLi.out]; exact HFull.out
              subst hqi
              have HFr := Lib.hid (show wv.ownsRow sb 62 2 (.slice A2 q2 c2) q2 (outsC (pickL b C)) by have := HS.out.files; rw [HLq.out, HLi.out] at this; exact this)
              have HA3 := Lib.hid (HA.out.keepN HS.out.gx (fun g e => by rw [e]; obtain ⟨es, cl, hm⟩ := HS.out.map.block; obtain ⟨f0, h1, _⟩ := HT.out.lefts; obtain ⟨es, cl, hm⟩ := h1.block; exact NoSt.map hm) (fun e => by obtain ⟨f0, h1, _⟩ := HT.out.lefts; obtain ⟨⟨A9, c9, h2, _⟩, _⟩ := HA.out; exact map_block_ne h1.block h2 e))
              have HT3 := Lib.hid (show TakeAt wv mr mr ml xb a b (without left C) by have := HS.out; rw [← HnC.out] at this; exact this.take HT.out)
              have HC3 := Lib.hid (own_keepX HCh.out HS.out.gx (fun g hg e => by obtain ⟨f0, h1, _⟩ := HT.out.lefts; exact own_no_map HCh.out h1.block (by rw [hg, e])))
              have HLs := Lib.hid (leftL_less HBe.out HLl.out)
              have hL9 : L.length ≤ 2000 := by have := HLn.out; omega
              go_wp2_with (go_at_call 40; go_loud (refine (add_q mr O L false (pickL b C) A2 q2 c2 _ HA3.out (own_lowP HFr.out hKw) HFull.out hL9).mono ?_; rintro e w12 ⟨rfl, hA, hg, hb⟩; have HA12 := Lib.hid hA; have HT12 := Lib.hid (HT3.out.keepN hg (fun x hx => hx.ok)); have HC12 := Lib.hid (own_steps HC3.out hg (by decide) (by decide)); have HG12 := Lib.hid (HGv.out.trans hb); have hK12 : mr ≤ w12.heap.size := (by have := hb.size; omega); clear hA hg hb))
              go_roundw
              case rel => exact ⟨Cs ++ [C], without left C, L ++ [((⟨false, pickL b C⟩ : StepR), Value.slice A2 q2 c2)], Lib.hid (by rw [List.length_append]; have h1 := HLs.out; have h2 := HLn.out; rw [HNn.out] at h1; simp; omega), HT12, Lib.hid (by have := HA12.out; rw [if_neg (by show ¬ (pickL b C).length = 0; rw [HFull.out]; have := HC0.out; omega)] at this; exact this), Lib.hid (by rw [List.map_append, HMp.out, stepsOf_snoc, List.append_assoc]; rfl), Lib.hid (fun R hR => by rw [List.append_assoc]; exact HSt.out _ (.next HBe.out hR)), HC12, HG12, hK12⟩
              case measure => 
                obtain ⟨f12, hm12, hy12, hb12⟩ := HT12.out.lefts
                have h1 := lenW_of (hm12.count Tryz.underlying9 Tryz.underlying77 (leftL_nodup (left := without left C) HRi.out) (leftL_mem hy12 hb12) _)
                have h2 := HLs.out
                have h3 := HNn.out
                have h4 := HLw.out
                omega

end Go.Proofs.YtbhildmalcfhiaaGreatDoor
