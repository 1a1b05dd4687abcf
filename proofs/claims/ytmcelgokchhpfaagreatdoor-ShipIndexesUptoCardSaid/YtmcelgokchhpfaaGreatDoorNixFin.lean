/-
  ship.NewIndex: the terms gathered out of the map into the index's row.
-/
import Derived.Test.YtmcelgokchhpfaaGreatDoorNixReg
import Derived.Test.YtmcelgokchhpfaaGreatDoorNixSort
import Derived.Test.YtmcelgokchhpfaaGreatDoorNixLen
namespace Go.Proofs.YtmcelgokchhpfaaGreatDoor
open Go.RowKit Go.Deep

def slc : Value → Value
  | .slice A n c => .slice A n c
  | _ => .slice none 0 0
theorem slc_slice (A : Option Addr) (n c : Nat) : slc (.slice A n c) = .slice A n c := rfl
theorem slc_one (v : Value) : (slc v).oneCell' = true := by cases v <;> rfl
/-- a term in the index's row -/
def encT (T : List UInt8 → TB) (s : List UInt8) : List Value := [.string (str0 s), slc (T s).dv, slc (T s).mv]
theorem encT_len (T : List UInt8 → TB) (s : List UInt8) : (encT T s).length = 3 := rfl
theorem encT_one (T : List UInt8 → TB) (s : List UInt8) : ∀ v ∈ encT T s, v.oneCell' = true := by
  intro v hv
  simp only [encT, List.mem_cons, List.not_mem_nil, or_false] at hv
  rcases hv with rfl | rfl | rfl
  · rfl
  · exact slc_one _
  · exact slc_one _
/-- what turns while terms are gathered: the index's box, and what is new -/
def Far (X r : Nat) : Nat → Prop := fun x => x = X ∨ r ≤ x
section
variable {w w' : World} {N X mb : Nat} {dv sv : Value} {ds : List DocR} {ss : List Int} {K : List (List UInt8)} {T : List UInt8 → TB} {Dd Mm : List UInt8 → List Int}
theorem NixIn.terms_far (h : NixIn w N X mb dv sv ds ss K T Dd Mm) (g : GrownX (Far X w.heap.size) w w') : TermsIn w' N mb sv K T Dd Mm := by
  refine h.ht.keepX g ?_ (fun s hs => ⟨?_, fun b hb => ?_, fun b hb => ?_⟩)
  · have h1 := h.ht.map.lt
    obtain ⟨es, clock, hm⟩ := h.ht.map.block
    rintro (e | e)
    · have hx := h.hx
      unfold CB at hx
      rw [← e, hm] at hx
      cases hx
    · omega
  · have h1 := (h.ht.box s hs).lt
    rintro (e | e)
    · have hx := h.hx
      have hb := h.ht.box s hs
      unfold CB at hx hb
      rw [← e, hb] at hx
      simp only [Option.some.injEq, Obj.cells.injEq] at hx
      exact absurd hx.2.1 (by decide)
    · omega
  · have h1 := own_lt (h.ht.od s hs) b hb
    rintro (e | e)
    · exact RowT.own (h.ht.od s hs) (show (3 : TypeId) ≠ 26 by decide) b hb _ _ (by rw [e]; exact h.hx)
    · omega
  · have h1 := own_lt (h.ht.om s hs) b hb
    rintro (e | e)
    · exact RowT.own (h.ht.om s hs) (show (3 : TypeId) ≠ 26 by decide) b hb _ _ (by rw [e]; exact h.hx)
    · omega
theorem NixIn.rows_far (h : NixIn w N X mb dv sv ds ss K T Dd Mm) (g : GrownX (Far X w.heap.size) w w') : w'.ownsRow N 33 3 dv ds.length (docCells ds) ∧ w'.ownsRow N 3 1 sv ss.length (intCells ss) := by
  refine ⟨own_keepX h.hd g (fun b hb => ?_), own_keepX h.hs g (fun b hb => ?_)⟩
  · have h1 := own_lt h.hd b hb
    rintro (e | e)
    · exact RowT.own h.hd (show (33 : TypeId) ≠ 26 by decide) b hb _ _ (by rw [e]; exact h.hx)
    · omega
  · have h1 := own_lt h.hs b hb
    rintro (e | e)
    · exact RowT.own h.hs (show (3 : TypeId) ≠ 26 by decide) b hb _ _ (by rw [e]; exact h.hx)
    · omega
theorem NixIn.res_far (h : NixIn w N X mb dv sv ds ss K T Dd Mm) (g : GrownX (Far X w.heap.size) w w') : CB w' N 26 #[.slice none 0 0, .slice none 0 0, .slice none 0 0] :=
  h.hr.keepX g (by
    have h1 := h.hr.lt
    have h2 := h.hNX
    rintro (e | e) <;> omega)
end

/-- the index's box and row while terms are gathered; r: the range's block -/
structure FinIn (w0 w : World) (X r : Nat) (dv sv tv : Value) (T : List UInt8 → TB) (Ks : List (List UInt8)) : Prop where
  hx : CB w X 26 #[dv, sv, tv]
  ho : w.ownsRow (r + 1) 44 3 tv Ks.length (Ks.flatMap (encT T))
  hg : GrownX (Far X r) w0 w
  hr : r < w.heap.size
  hX : X < r
section
variable {w0 w w' : World} {X r : Nat} {dv sv tv : Value} {T : List UInt8 → TB} {Ks : List (List UInt8)}
theorem FinIn.start (h : CB w X 26 #[dv, sv, .slice none 0 0]) (hg : w.grownBy w' none) (hs : w'.heap.size = w.heap.size + 1) (T : List UInt8 → TB) : FinIn w w' X w.heap.size dv sv (.slice none 0 0) T [] :=
  ⟨h.other hg (by simp), World.ownsRow_nil _ _ _ _, GrownX.of_grown hg (fun g hg => by cases hg), by omega, h.lt⟩
theorem FinIn.below (h : FinIn w0 w X r dv sv tv T Ks) (hb : Below w.heap.size w w') : FinIn w0 w' X r dv sv tv T Ks :=
  ⟨h.hx.below hb, own_rowT h.ho (grown_none hb) (RowT.none _ _), h.hg.trans (GrownX.of_below hb), Nat.lt_of_lt_of_le h.hr hb.size, h.hX⟩
theorem FinIn.iter (h : FinIn w0 w X r dv sv tv T Ks) (hg : w.grownBy w' (some r)) : FinIn w0 w' X r dv sv tv T Ks := by
  refine ⟨h.hx.other hg (fun e => by have := Option.some.inj e; have := h.hX; omega), h.ho.kept hg ?_, h.hg.trans (GrownX.of_grown hg (fun g hg => Or.inr (by have := Option.some.inj hg; omega))), Nat.lt_of_lt_of_le h.hr hg.size, h.hX⟩
  cases hv : tv.ownBlock with
  | none => exact Or.inl rfl
  | some g => exact Or.inr (fun e => by have := (h.ho.lt g hv).1; have := Option.some.inj e; omega)
theorem FinIn.push {tv' : Value} {s : List UInt8} (h : FinIn w0 w X r dv sv tv T Ks) (hg : w.grownBy w' tv.ownBlock) (ho : w'.ownsRow (r + 1) 44 3 tv' (Ks.length + 1) (Ks.flatMap (encT T) ++ encT T s)) : FinIn w0 (w'.setCell ⟨X, 2, none⟩ tv') X r dv sv tv' T (Ks ++ [s]) := by
  have hx1 : CB w' X 26 #[dv, sv, tv] := h.hx.push h.ho (by decide) hg
  have g2 := grown_setB w' X 2 tv'
  refine ⟨hx1.put 2 _, ?_, ?_, ?_, h.hX⟩
  · rw [List.flatMap_append, List.length_append]
    simp only [List.flatMap_cons, List.flatMap_nil, List.append_nil, List.length_cons, List.length_nil]
    exact own_rowT ho g2 (RowT.cb hx1 (by decide))
  · refine (h.hg.trans (GrownX.of_grown hg (fun g hg2 => Or.inr ?_))).trans (GrownX.of_grown g2 (fun g hg2 => Or.inl (Option.some.inj hg2).symm))
    have := (h.ho.lt g hg2).1; omega
  · have := h.hr; have := hg.size; have := g2.size; omega
theorem FinIn.sorted {Ks' : List (List UInt8)} (h : FinIn w0 w X r dv sv tv T Ks) (hg : w.grownBy w' tv.ownBlock) (hl : Ks'.length = Ks.length) (ho : w'.ownsRow (r + 1) 44 3 tv Ks.length (Ks'.flatMap (encT T))) : FinIn w0 w' X r dv sv tv T Ks' := by
  refine ⟨h.hx.push h.ho (by decide) hg, by rw [hl]; exact ho, h.hg.trans (GrownX.of_grown hg (fun g hg2 => Or.inr ?_)), Nat.lt_of_lt_of_le h.hr hg.size, h.hX⟩
  have := (h.ho.lt g hg2).1; omega
theorem FinIn.tv_ne (h : FinIn w0 w X r dv sv tv T Ks) : tv.ownBlock ≠ some X := fun e => by
  have := (h.ho.lt X e).1
  have := h.hX
  omega
end

/-- which keys have been met -/
structure Met (K : List (List UInt8)) (left : List UInt8 → Bool) (Ks : List (List UInt8)) : Prop where
  nd : Ks.Nodup
  mem : ∀ s, s ∈ Ks ↔ s ∈ K ∧ left s = false
theorem Met.start (K : List (List UInt8)) (T : List UInt8 → TB) : Met K (fun s => (ptrF K T s).isSome) [] :=
  ⟨List.nodup_nil, fun s => ⟨(fun h => by cases h), (fun ⟨h1, h2⟩ => by rw [ptrF_in h1] at h2; cases h2)⟩⟩
theorem Met.step {K : List (List UInt8)} {left : List UInt8 → Bool} {Ks : List (List UInt8)} {s : List UInt8} (h : Met K left Ks) (hs : s ∈ K) (hl : left s = true) : Met K (fun t => left t && !(t == s)) (Ks ++ [s]) := by
  refine ⟨?_, fun t => ?_⟩
  · rw [List.nodup_append]
    exact ⟨h.nd, by simp, fun a ha b hb e => by simp at hb; subst hb; subst e; have := ((h.mem a).1 ha).2; rw [hl] at this; cases this⟩
  · rw [List.mem_append, h.mem t]
    by_cases e : t = s
    · subst e; simp [hs]
    · have : (t == s) = false := by simpa using e
      simp [this, e]
theorem Met.len {K : List (List UInt8)} {left : List UInt8 → Bool} {Ks : List (List UInt8)} (h : Met K left Ks) : Ks.length ≤ K.length := List.Nodup.length_le_of_subset h.nd (fun x hx => ((h.mem x).1 hx).1)
theorem Met.done {K : List (List UInt8)} {left : List UInt8 → Bool} {Ks : List (List UInt8)} (h : Met K left Ks) (hl : ∀ s, left s = false) : ∀ s, s ∈ Ks ↔ s ∈ K := fun s => by rw [h.mem s, hl s]; simp
/-- the sorted keys are the words of all documents -/
theorem met_sorted {D : List DocR} {K Ks Ks' : List (List UInt8)} (hK : ∀ s, s ∈ K ↔ pD (wAt D) D.length s ≠ []) (hn : Ks.Nodup) (hm : ∀ s, s ∈ Ks ↔ s ∈ K) (hp : Ks'.Perm Ks) (hs : Ks'.Pairwise fun x y => ¬ y < x) : Ks' = nixK D := by
  refine lt_unique ?_ (nixK_lt D) (fun s => by rw [hp.mem_iff, hm, hK, nixK_mem])
  have hnd : Ks'.Nodup := hp.nodup_iff.2 hn
  have := List.pairwise_and_iff.2 ⟨hs, hnd⟩
  refine this.imp (fun {a b} h => ?_)
  rcases List.le_total a b with h1 | h1
  · exact Std.lt_of_le_of_ne h1 h.2
  · by_cases e : b = a
    · exact absurd e.symm h.2
    · exact absurd (Std.lt_of_le_of_ne h1 e) h.1
/-- the whole index of the call's own -/
theorem nix_own {w0 w : World} {N X mb r : Nat} {dv sv tv : Value} {D : List DocR} {K : List (List UInt8)} {T : List UInt8 → TB} (h0 : NixIn w0 N X mb dv sv (nixD D) (nixS D) K T (pD (wAt D) D.length) (pM (wAt D) D.length)) (hr : r = w0.heap.size) (h : FinIn w0 w X r dv sv tv T (nixK D)) (hK : ∀ s, s ∈ nixK D → s ∈ K) (hi : (∀ n ∈ nixS D, I64 n) ∧ ∀ t ∈ nixT D, (∀ n ∈ t.docs, I64 n) ∧ ∀ n ∈ t.many, I64 n) :
    IdxOwn w N dv sv tv ⟨nixD D, nixS D, nixT D⟩ ((nixK D).map fun s => (nixTerm D s, (T s).dv, (T s).mv)) := by
  subst hr
  have ht := h0.terms_far h.hg
  obtain ⟨hd, hs⟩ := h0.rows_far h.hg
  refine ⟨?_, hd, hs, ?_, ?_, hi.1, ?_⟩
  · rw [List.map_map]; rfl
  · have e : termCells ((nixK D).map fun s => (nixTerm D s, (T s).dv, (T s).mv)) = (nixK D).flatMap (encT T) := by
      unfold termCells
      rw [List.flatMap_map]
      have : ∀ L : List (List UInt8), (∀ s ∈ L, s ∈ K) → (L.flatMap fun s => [Value.string (nixTerm D s).word, (T s).dv, (T s).mv]) = L.flatMap (encT T) := fun L => by
        induction L with
        | nil => intro _; rfl
        | cons s r ih =>
          intro hL
          rw [List.flatMap_cons, List.flatMap_cons, ih (fun x hx => hL x (by simp [hx]))]
          obtain ⟨A1, c1, e1, _⟩ := own_form (ht.od s (hL s (by simp)))
          obtain ⟨A2, c2, e2, _⟩ := own_form (ht.om s (hL s (by simp)))
          rw [encT, e1, e2, slc_slice, slc_slice]; rfl
      exact this _ hK
    rw [e, List.length_map]
    exact own_base h.ho (by have := h0.hNX; have := h.hX; omega)
  · intro x hx
    obtain ⟨s, hs2, rfl⟩ := List.mem_map.1 hx
    exact ⟨ht.od s (hK s hs2), ht.om s (hK s hs2)⟩
  · intro x hx
    obtain ⟨s, hs2, rfl⟩ := List.mem_map.1 hx
    exact hi.2 _ (List.mem_map.2 ⟨s, hs2, rfl⟩)

end Go.Proofs.YtmcelgokchhpfaaGreatDoor
