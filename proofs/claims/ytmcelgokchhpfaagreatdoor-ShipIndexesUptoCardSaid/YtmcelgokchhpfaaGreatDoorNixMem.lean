/-
  The map of terms that an index is made with: of each word a box, with two rows of numbers.
-/
import Derived.Test.YtmcelgokchhpfaaGreatDoorGrown
import Derived.Test.YtmcelgokchhpfaaGreatDoorVRange
import Derived.Test.YtmcelgokchhpfaaGreatDoorReadOwn
import Derived.Test.YtmcelgokchhpfaaGreatDoorNixPlain
namespace Go.Proofs.YtmcelgokchhpfaaGreatDoor
open Go.RowKit Go.Deep

/-- a term's box and its rows -/
structure TB where
  blk : Nat
  dv : Value
  mv : Value
def updT {α : Type} (f : List UInt8 → α) (s : List UInt8) (a : α) : List UInt8 → α := fun t => if t = s then a else f t
theorem updT_same {α : Type} (f : List UInt8 → α) (s : List UInt8) (a : α) : updT f s a s = a := if_pos rfl
theorem updT_ne {α : Type} (f : List UInt8 → α) {s t : List UInt8} (a : α) (h : t ≠ s) : updT f s a t = f t := if_neg h
/-- what the map says -/
def ptrF (K : List (List UInt8)) (T : List UInt8 → TB) : List UInt8 → Option Value := fun s => if s ∈ K then some (.pointer (some ⟨(T s).blk, 0, none⟩)) else none
theorem ptrF_in {K : List (List UInt8)} {T : List UInt8 → TB} {s : List UInt8} (h : s ∈ K) : ptrF K T s = some (.pointer (some ⟨(T s).blk, 0, none⟩)) := if_pos h
theorem ptrF_out {K : List (List UInt8)} {T : List UInt8 → TB} {s : List UInt8} (h : s ∉ K) : ptrF K T s = none := if_neg h

structure TermsIn (w : World) (B mb : Nat) (sv : Value) (K : List (List UInt8)) (T : List UInt8 → TB) (D M : List UInt8 → List Int) : Prop where
  nd : K.Nodup
  hmb : B ≤ mb
  map : VMap Tryz.prog 9 w mb K.length (ptrF K T)
  box : ∀ s ∈ K, CB w (T s).blk 44 #[.string (str0 s), (T s).dv, (T s).mv]
  ge : ∀ s ∈ K, B ≤ (T s).blk
  bne : ∀ s ∈ K, ∀ t ∈ K, s ≠ t → (T s).blk ≠ (T t).blk
  od : ∀ s ∈ K, w.ownsRow B 3 1 (T s).dv (D s).length (intCells (D s))
  om : ∀ s ∈ K, w.ownsRow B 3 1 (T s).mv (M s).length (intCells (M s))
  add : ∀ s ∈ K, ∀ t ∈ K, s ≠ t → Apart (T s).dv (T t).dv
  amm : ∀ s ∈ K, ∀ t ∈ K, s ≠ t → Apart (T s).mv (T t).mv
  adm : ∀ s ∈ K, ∀ t ∈ K, Apart (T s).dv (T t).mv
  asd : ∀ s ∈ K, Apart (T s).dv sv ∧ Apart (T s).mv sv

section
variable {w w' : World} {B mb : Nat} {sv : Value} {K : List (List UInt8)} {T : List UInt8 → TB} {D M : List UInt8 → List Int}
theorem TermsIn.start (w : World) (B : Nat) (sv : Value) (hB : B ≤ w.heap.size) (T : List UInt8 → TB) (D M : List UInt8 → List Int) : TermsIn (w.alloc (.map #[] 0)) B w.heap.size sv [] T D M :=
  ⟨List.nodup_nil, hB, vmap_made w, (fun _ h => by cases h), (fun _ h => by cases h), (fun _ h => by cases h), (fun _ h => by cases h), (fun _ h => by cases h), (fun _ h => by cases h), (fun _ h => by cases h), (fun _ h => by cases h), (fun _ h => by cases h)⟩
theorem VMap.keepX {P : Program} {k : TypeId} {b n : Nat} {f : List UInt8 → Option Value} {p : Nat → Prop} (h : VMap P k w b n f) (g : GrownX p w w') (hb : ¬ p b) : VMap P k w' b n f := by
  obtain ⟨D, ⟨es, clock, h1, h2⟩, h3⟩ := h
  exact ⟨D, ⟨es, clock, (g.block b (Array.getElem?_eq_some_iff.1 h1).1 hb).trans h1, h2⟩, h3⟩
/-- what turns is none of its blocks -/
theorem TermsIn.keepX {p : Nat → Prop} (h : TermsIn w B mb sv K T D M) (g : GrownX p w w') (h1 : ¬ p mb) (h2 : ∀ s ∈ K, ¬ p (T s).blk ∧ (∀ b, (T s).dv.ownBlock = some b → ¬ p b) ∧ ∀ b, (T s).mv.ownBlock = some b → ¬ p b) : TermsIn w' B mb sv K T D M :=
  ⟨h.nd, h.hmb, h.map.keepX g h1, fun s hs => (h.box s hs).keepX g (h2 s hs).1, h.ge, h.bne, fun s hs => own_keepX (h.od s hs) g (h2 s hs).2.1, fun s hs => own_keepX (h.om s hs) g (h2 s hs).2.2, h.add, h.amm, h.adm, h.asd⟩
theorem TermsIn.below (h : TermsIn w B mb sv K T D M) (hb : Below w.heap.size w w') : TermsIn w' B mb sv K T D M :=
  h.keepX (p := fun _ => False) (GrownX.of_below hb) (fun h => h) (fun _ _ => ⟨fun h => h, fun _ _ h => h, fun _ _ h => h⟩)
theorem TermsIn.drewN (h : TermsIn w B mb sv K T D M) (q : Nat) : TermsIn (w.drewN q) B mb sv K T D M := h.below (Below.drewN' (Below.refl _ _) q)
theorem TermsIn.alloc (h : TermsIn w B mb sv K T D M) (o : Obj) : TermsIn (w.alloc o) B mb sv K T D M := h.below ((Below.refl _ _).alloc (Nat.le_refl _) o)
/-- a block of cells of another kind turns -/
theorem TermsIn.cells {n : Nat} {t : TypeId} {cs : Array Value} {p : Nat → Prop} (h : TermsIn w B mb sv K T D M) (hc : CB w n t cs) (h1 : t ≠ 44) (h2 : t ≠ 3) (g : GrownX p w w') (hp : ∀ x, p x → x = n) : TermsIn w' B mb sv K T D M := by
  refine h.keepX g (fun e => ?_) (fun s hs => ⟨fun e => ?_, fun b hb e => ?_, fun b hb e => ?_⟩)
  · obtain ⟨es, clock, hm⟩ := h.map.block
    rw [hp _ e, show w.heap[n]? = _ from hc] at hm
    cases hm
  · have hx := h.box s hs
    rw [hp _ e] at hx
    unfold CB at hx hc
    rw [hc] at hx
    cases hx
    exact h1 rfl
  · exact RowT.own (h.od s hs) (Ne.symm h2) b hb _ _ (by rw [hp _ e]; exact hc)
  · exact RowT.own (h.om s hs) (Ne.symm h2) b hb _ _ (by rw [hp _ e]; exact hc)
/-- a row of the call's own, of elements of another kind, is pushed -/
theorem TermsIn.other {K2 n : Nat} {t : TypeId} {v : Value} {xs : List Value} (h : TermsIn w B mb sv K T D M) (ho : w.ownsRow B t K2 v n xs) (h1 : t ≠ 44) (h2 : t ≠ 3) (g : w.grownBy w' v.ownBlock) : TermsIn w' B mb sv K T D M := by
  rcases ho.2 with ⟨rfl, _⟩ | ⟨b, cap, cur, rfl, _, hb, _⟩
  · exact h.keepX (p := fun _ => False) (GrownX.of_grown g (fun x hx => by simp [Value.ownBlock] at hx)) (fun h => h) (fun _ _ => ⟨fun h => h, fun _ _ h => h, fun _ _ h => h⟩)
  · exact h.cells (n := b) (show CB w b t cur from hb) h1 h2 (GrownX.of_grown (p := fun x => x = b) g (fun x hx => by simp [Value.ownBlock] at hx; exact hx.symm)) (fun x hx => hx)
/-- the row of sizes is pushed -/
theorem TermsIn.sizes {n : Nat} {xs : List Value} {sv' : Value} (h : TermsIn w B mb sv K T D M) (ho : w.ownsRow B 3 1 sv n xs) (g : w.grownBy w' sv.ownBlock) (hn : ∀ b, sv'.ownBlock = some b → sv.ownBlock = some b ∨ w.heap.size ≤ b) : TermsIn w' B mb sv' K T D M := by
  have k : TermsIn w' B mb sv K T D M := by
    refine h.keepX (p := fun x => sv.ownBlock = some x) (GrownX.of_grown g (fun x hx => hx)) (fun e => ?_) (fun s hs => ⟨fun e => ?_, fun b hb e => (h.asd s hs).1 b hb e, fun b hb e => (h.asd s hs).2 b hb e⟩)
    · obtain ⟨es, clock, hm⟩ := h.map.block
      rcases ho.2 with ⟨rfl, _⟩ | ⟨b, cap, cur, rfl, _, hb, _⟩
      · simp [Value.ownBlock] at e
      · simp only [Value.ownBlock, Option.some.injEq] at e
        rw [← e, hb] at hm
        cases hm
    · exact RowT.own ho (by decide) _ e _ _ (h.box s hs)
  refine ⟨k.nd, k.hmb, k.map, k.box, k.ge, k.bne, k.od, k.om, k.add, k.amm, k.adm, fun s hs => ⟨fun b hb e => ?_, fun b hb e => ?_⟩⟩
  · rcases hn b e with h1 | h1
    · exact (h.asd s hs).1 b hb h1
    · have := (own_lt (h.od s hs)) b hb; omega
  · rcases hn b e with h1 | h1
    · exact (h.asd s hs).2 b hb h1
    · have := (own_lt (h.om s hs)) b hb; omega
/-- a word's blocks -/
def TB.has (x : TB) (b : Nat) : Prop := b = x.blk ∨ x.dv.ownBlock = some b ∨ x.mv.ownBlock = some b
/-- one word's box and rows turn -/
theorem TermsIn.turn {s : List UInt8} {x : TB} {ds ms : List Int} (h : TermsIn w B mb sv K T D M) (hs : s ∈ K) (g : GrownX (TB.has (T s)) w w') (hx : x.blk = (T s).blk)
    (hc : CB w' x.blk 44 #[.string (str0 s), x.dv, x.mv]) (h1 : w'.ownsRow B 3 1 x.dv ds.length (intCells ds)) (h2 : w'.ownsRow B 3 1 x.mv ms.length (intCells ms))
    (n1 : ∀ b, x.dv.ownBlock = some b → (T s).dv.ownBlock = some b ∨ w.heap.size ≤ b) (n2 : ∀ b, x.mv.ownBlock = some b → (T s).mv.ownBlock = some b ∨ w.heap.size ≤ b) (ap : Apart x.dv x.mv) (hsv : ∀ b, sv.ownBlock = some b → b < w.heap.size) : TermsIn w' B mb sv K (updT T s x) (updT D s ds) (updT M s ms) := by
  have hT : ∀ t, (updT T s x t).blk = (T t).blk := fun t => by
    by_cases e : t = s
    · rw [e, updT_same, hx]
    · rw [updT_ne _ _ e]
  have other : ∀ t ∈ K, t ≠ s → CB w' (T t).blk 44 #[.string (str0 t), (T t).dv, (T t).mv] ∧ w'.ownsRow B 3 1 (T t).dv (D t).length (intCells (D t)) ∧ w'.ownsRow B 3 1 (T t).mv (M t).length (intCells (M t)) := by
    intro t ht hne
    refine ⟨(h.box t ht).keepX g ?_, own_keepX (h.od t ht) g ?_, own_keepX (h.om t ht) g ?_⟩
    · rintro (e | e | e)
      · exact h.bne t ht s hs hne e
      · exact RowT.own (h.od s hs) (by decide) _ e _ _ (h.box t ht)
      · exact RowT.own (h.om s hs) (by decide) _ e _ _ (h.box t ht)
    · rintro b hb (e | e | e)
      · exact RowT.own (h.od t ht) (show (3 : TypeId) ≠ 44 by decide) b hb _ _ (by rw [e]; exact h.box s hs)
      · exact h.add t ht s hs hne b hb e
      · exact h.adm t ht s hs b hb e
    · rintro b hb (e | e | e)
      · exact RowT.own (h.om t ht) (show (3 : TypeId) ≠ 44 by decide) b hb _ _ (by rw [e]; exact h.box s hs)
      · exact h.adm s hs t ht b e hb
      · exact h.amm t ht s hs hne b hb e
  have lt1 : ∀ t ∈ K, ∀ b, (T t).dv.ownBlock = some b → b < w.heap.size := fun t ht b hb => own_lt (h.od t ht) b hb
  have lt2 : ∀ t ∈ K, ∀ b, (T t).mv.ownBlock = some b → b < w.heap.size := fun t ht b hb => own_lt (h.om t ht) b hb
  refine ⟨h.nd, h.hmb, ?_, fun t ht => ?_, fun t ht => by rw [hT]; exact h.ge t ht, fun t ht u hu e => by rw [hT, hT]; exact h.bne t ht u hu e, fun t ht => ?_, fun t ht => ?_, fun t ht u hu e => ?_, fun t ht u hu e => ?_, fun t ht u hu => ?_, fun t ht => ?_⟩
  · have e : ptrF K (updT T s x) = ptrF K T := by funext t; unfold ptrF; rw [hT]
    rw [e]
    refine h.map.keepX g ?_
    obtain ⟨es, clock, hm⟩ := h.map.block
    rintro (e | e | e)
    · have hb := h.box s hs
      unfold CB at hb
      rw [← e, hm] at hb
      cases hb
    · rcases (h.od s hs).2 with ⟨e2, _⟩ | ⟨b, cap, cur, e2, _, hb, _⟩
      · rw [e2] at e; simp [Value.ownBlock] at e
      · rw [e2] at e; simp only [Value.ownBlock, Option.some.injEq] at e
        rw [e, hm] at hb
        cases hb
    · rcases (h.om s hs).2 with ⟨e2, _⟩ | ⟨b, cap, cur, e2, _, hb, _⟩
      · rw [e2] at e; simp [Value.ownBlock] at e
      · rw [e2] at e; simp only [Value.ownBlock, Option.some.injEq] at e
        rw [e, hm] at hb
        cases hb
  · by_cases e : t = s
    · subst e; rw [updT_same]; exact hc
    · rw [updT_ne _ _ e]; exact (other t ht e).1
  · by_cases e : t = s
    · subst e; rw [updT_same, updT_same]; exact h1
    · rw [updT_ne _ _ e, updT_ne _ _ e]; exact (other t ht e).2.1
  · by_cases e : t = s
    · subst e; rw [updT_same, updT_same]; exact h2
    · rw [updT_ne _ _ e, updT_ne _ _ e]; exact (other t ht e).2.2
  · by_cases e1 : t = s
    · subst e1
      have e2 : u ≠ t := Ne.symm e
      rw [updT_same, updT_ne _ _ e2]
      intro b hb hb2
      rcases n1 b hb with h3 | h3
      · exact h.add t ht u hu e b h3 hb2
      · have := lt1 u hu b hb2; omega
    · rw [updT_ne _ _ e1]
      by_cases e2 : u = s
      · subst e2
        rw [updT_same]
        intro b hb hb2
        rcases n1 b hb2 with h3 | h3
        · exact h.add t ht u hu e b hb h3
        · have := lt1 t ht b hb; omega
      · rw [updT_ne _ _ e2]; exact h.add t ht u hu e
  · by_cases e1 : t = s
    · subst e1
      have e2 : u ≠ t := Ne.symm e
      rw [updT_same, updT_ne _ _ e2]
      intro b hb hb2
      rcases n2 b hb with h3 | h3
      · exact h.amm t ht u hu e b h3 hb2
      · have := lt2 u hu b hb2; omega
    · rw [updT_ne _ _ e1]
      by_cases e2 : u = s
      · subst e2
        rw [updT_same]
        intro b hb hb2
        rcases n2 b hb2 with h3 | h3
        · exact h.amm t ht u hu e b hb h3
        · have := lt2 t ht b hb; omega
      · rw [updT_ne _ _ e2]; exact h.amm t ht u hu e
  · by_cases e1 : t = s
    · by_cases e2 : u = s
      · rw [e1, e2, updT_same]; exact ap
      · rw [e1, updT_same, updT_ne _ _ e2]
        intro b hb hb2
        rcases n1 b hb with h3 | h3
        · exact h.adm s hs u hu b h3 hb2
        · have := lt2 u hu b hb2; omega
    · rw [updT_ne _ _ e1]
      by_cases e2 : u = s
      · rw [e2, updT_same]
        intro b hb hb2
        rcases n2 b hb2 with h3 | h3
        · exact h.adm t ht s hs b hb h3
        · have := lt1 t ht b hb; omega
      · rw [updT_ne _ _ e2]; exact h.adm t ht u hu
  · by_cases e1 : t = s
    · rw [e1, updT_same]
      refine ⟨fun b hb hb2 => ?_, fun b hb hb2 => ?_⟩
      · rcases n1 b hb with h3 | h3
        · exact (h.asd s hs).1 b h3 hb2
        · have := hsv b hb2; omega
      · rcases n2 b hb with h3 | h3
        · exact (h.asd s hs).2 b h3 hb2
        · have := hsv b hb2; omega
    · rw [updT_ne _ _ e1]; exact h.asd t ht
/-- a new word: its box, and no rows yet; the map is stored into -/
theorem TermsIn.add_new {s : List UInt8} (h : TermsIn w B mb sv K T D M) (hs : s ∉ K) (hB : B ≤ w.heap.size)
    (hm : VMap Tryz.prog 9 w' mb (K.length + 1) (putF (ptrF K T) s (.pointer (some ⟨w.heap.size, 0, none⟩)))) (ht : (w.alloc (.cells #[.string (str0 s), .slice none 0 0, .slice none 0 0] 44)).mapTurned w' mb) (hD : D s = []) (hM : M s = []) :
    TermsIn w' B mb sv (K ++ [s]) (updT T s ⟨w.heap.size, .slice none 0 0, .slice none 0 0⟩) D M := by
  have hmb : mb < w.heap.size := h.map.lt
  have g1 : GrownX (fun x => x = mb) w w' := (GrownX.alloc (GrownX.refl _ _) _).trans (GrownX.of_grown (r := some mb) ht.grown (fun x hx => (Option.some.inj hx).symm))
  have nec : ∀ n t cs, CB w n t cs → n ≠ mb := fun n t cs hc e => by
    obtain ⟨es, clock, hm⟩ := h.map.block
    unfold CB at hc
    rw [e, hm] at hc
    cases hc
  have neo : ∀ (v : Value) (n : Nat) (xs : List Value), w.ownsRow B 3 1 v n xs → ∀ b, v.ownBlock = some b → b ≠ mb := fun v n xs ho b hb e => by
    rcases ho.2 with ⟨rfl, _⟩ | ⟨b', cap, cur, rfl, _, hb', _⟩
    · simp [Value.ownBlock] at hb
    · simp only [Value.ownBlock, Option.some.injEq] at hb
      exact nec b' _ cur hb' (by rw [hb]; exact e)
  have tne : ∀ t ∈ K, t ≠ s := fun t ht e => hs (e ▸ ht)
  have hnew : CB w' w.heap.size 44 #[.string (str0 s), .slice none 0 0, .slice none 0 0] := CB.other (CB.new w _ _) ht.grown (fun e => by cases e; omega)
  have hin : ∀ t, t ∈ K ++ [s] → t ∈ K ∨ t = s := fun t ht => by
    rcases List.mem_append.1 ht with h1 | h1
    · exact Or.inl h1
    · right; simpa using h1
  refine ⟨?_, h.hmb, ?_, fun t ht => ?_, fun t ht => ?_, fun t ht u hu e => ?_, fun t ht => ?_, fun t ht => ?_, fun t ht u hu e => ?_, fun t ht u hu e => ?_, fun t ht u hu => ?_, fun t ht => ?_⟩
  · rw [List.nodup_append]
    exact ⟨h.nd, by simp, fun a ha b hb => by simp at hb; subst hb; exact tne a ha⟩
  · have e : putF (ptrF K T) s (.pointer (some ⟨w.heap.size, 0, none⟩)) = ptrF (K ++ [s]) (updT T s ⟨w.heap.size, .slice none 0 0, .slice none 0 0⟩) := by
      funext t
      by_cases e : t = s
      · subst e
        rw [putF_same, ptrF_in (by simp), updT_same]
      · rw [putF_ne _ _ e]
        by_cases ht : t ∈ K
        · rw [ptrF_in ht, ptrF_in (by simp [ht]), updT_ne _ _ e]
        · rw [ptrF_out ht, ptrF_out (by simp [ht, e])]
    rw [List.length_append, ← e]
    exact hm
  · rcases hin t ht with h1 | rfl
    · rw [updT_ne _ _ (tne t h1)]; exact (h.box t h1).keepX g1 (nec _ _ _ (h.box t h1))
    · rw [updT_same]; exact hnew
  · rcases hin t ht with h1 | rfl
    · rw [updT_ne _ _ (tne t h1)]; exact h.ge t h1
    · rw [updT_same]; exact hB
  · rcases hin t ht with h1 | rfl
    · rw [updT_ne _ _ (tne t h1)]
      rcases hin u hu with h2 | rfl
      · rw [updT_ne _ _ (tne u h2)]; exact h.bne t h1 u h2 e
      · rw [updT_same]; have := (h.box t h1).lt; exact Nat.ne_of_lt this
    · rcases hin u hu with h2 | rfl
      · rw [updT_same, updT_ne _ _ (tne u h2)]; have := (h.box u h2).lt; exact (Nat.ne_of_lt this).symm
      · exact absurd rfl e
  · rcases hin t ht with h1 | rfl
    · rw [updT_ne _ _ (tne t h1)]; exact own_keepX (h.od t h1) g1 (neo _ _ _ (h.od t h1))
    · rw [updT_same, hD]; exact World.ownsRow_nil _ _ _ _
  · rcases hin t ht with h1 | rfl
    · rw [updT_ne _ _ (tne t h1)]; exact own_keepX (h.om t h1) g1 (neo _ _ _ (h.om t h1))
    · rw [updT_same, hM]; exact World.ownsRow_nil _ _ _ _
  · rcases hin t ht with h1 | rfl
    · rcases hin u hu with h2 | rfl
      · rw [updT_ne _ _ (tne t h1), updT_ne _ _ (tne u h2)]; exact h.add t h1 u h2 e
      · rw [updT_same]; exact (Apart.nil _ _).symm
    · rw [updT_same]; exact Apart.nil _ _
  · rcases hin t ht with h1 | rfl
    · rcases hin u hu with h2 | rfl
      · rw [updT_ne _ _ (tne t h1), updT_ne _ _ (tne u h2)]; exact h.amm t h1 u h2 e
      · rw [updT_same]; exact (Apart.nil _ _).symm
    · rw [updT_same]; exact Apart.nil _ _
  · rcases hin t ht with h1 | rfl
    · rcases hin u hu with h2 | rfl
      · rw [updT_ne _ _ (tne t h1), updT_ne _ _ (tne u h2)]; exact h.adm t h1 u h2
      · rw [updT_same]; exact (Apart.nil _ _).symm
    · rw [updT_same]; exact Apart.nil _ _
  · rcases hin t ht with h1 | rfl
    · rw [updT_ne _ _ (tne t h1)]; exact h.asd t h1
    · rw [updT_same]; exact ⟨Apart.nil _ _, Apart.nil _ _⟩
end

end Go.Proofs.YtmcelgokchhpfaaGreatDoor
