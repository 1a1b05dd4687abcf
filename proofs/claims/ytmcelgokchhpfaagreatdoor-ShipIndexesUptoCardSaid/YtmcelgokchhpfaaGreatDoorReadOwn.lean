/-
  The index that a reader makes: rows of the call's own.
-/
import Derived.Test.YtmcelgokchhpfaaGreatDoorReadPlain
import Derived.Test.YtmcelgokchhpfaaGreatDoorIdxDocs
import Derived.Test.YtmcelgokchhpfaaGreatDoorBuilderK
import Derived.Deep.RegionLaw
import Derived.BigQuiet
import Derived.Deep.QuietTactic
import Derived.RegionTactic
import Derived.Laws.Strings2
import Derived.Deep.DeepMust
namespace Go.Proofs.YtmcelgokchhpfaaGreatDoor
open Go.RowKit Go.Deep

/-- the block that is written holds no elements of a type -/
def RowT (row : Option Nat) (w : World) (e : TypeId) : Prop := ∀ g, row = some g → ∀ (cs : Array Value) (fz : Nat × Nat), w.heap[g]? ≠ some (.cells cs e fz)
theorem RowT.none (w : World) (e : TypeId) : RowT none w e := fun g h => by cases h
theorem RowT.own {w : World} {B K n : Nat} {e e' : TypeId} {v : Value} {xs : List Value} (h : w.ownsRow B e' K v n xs) (hne : e' ≠ e) : RowT v.ownBlock w e := by
  intro g hg cs fz hc
  rcases h.2 with ⟨rfl, _⟩ | ⟨g', cap, cur, rfl, _, hg', _⟩
  · simp [Value.ownBlock] at hg
  · simp only [Value.ownBlock, Option.some.injEq] at hg
    subst hg
    rw [hg'] at hc
    cases hc
    exact hne rfl
theorem RowT.cb {w : World} {n : Nat} {t e : TypeId} {cs : Array Value} (h : CB w n t cs) (hne : t ≠ e) : RowT (some n) w e := by
  intro g hg cs' fz hc
  cases hg
  rw [show w.heap[n]? = _ from h] at hc
  cases hc
  exact hne rfl
theorem RowT.new {w : World} {g : Nat} {e : TypeId} (h : w.heap.size ≤ g) : RowT (some g) w e := by
  intro g' hg cs fz hc
  cases hg
  have := (Array.getElem?_eq_some_iff.1 hc).1
  omega
theorem own_rowT {w w' : World} {B K n : Nat} {e : TypeId} {v : Value} {xs : List Value} {row : Option Nat} (h : w.ownsRow B e K v n xs) (hg : w.grownBy w' row) (hr : RowT row w e) : w'.ownsRow B e K v n xs := by
  refine h.kept hg ?_
  rcases h.2 with ⟨rfl, _⟩ | ⟨g', cap, cur, rfl, _, hg', _⟩
  · exact Or.inl rfl
  · refine Or.inr (fun he => ?_)
    exact hr g' he.symm _ _ hg'
theorem CB.push {w w' : World} {n B K m : Nat} {t e : TypeId} {cs : Array Value} {v : Value} {xs : List Value} (h : CB w n t cs) (k : w.ownsRow B e K v m xs) (hne : t ≠ e) (hg : w.grownBy w' v.ownBlock) : CB w' n t cs := by
  refine h.other hg (fun he => ?_)
  exact RowT.own k (Ne.symm hne) n he.symm _ _ h

def docCells (D : List DocR) : List Value := D.flatMap fun d => [.string d.addr, .string d.title, .string d.text]
def termCells (L : List (TermR × Value × Value)) : List Value := L.flatMap fun x => [.string x.1.word, x.2.1, x.2.2]
def intCells (l : List Int) : List Value := l.map (Value.int .i64)
theorem flat3 {α : Type} (f : α → List Value) (hf : ∀ a, (f a).length = 3) : ∀ (l : List α) (i : Nat) (a : α), l[i]? = some a → ∀ j, j < 3 → (l.flatMap f)[i * 3 + j]? = (f a)[j]?
  | [], i, a, h, _, _ => by simp at h
  | b :: r, 0, a, h, j, hj => by
    simp at h
    subst h
    rw [List.flatMap_cons, List.getElem?_append_left (by rw [hf]; omega)]
    simp
  | b :: r, i + 1, a, h, j, hj => by
    rw [List.flatMap_cons, List.getElem?_append_right (by rw [hf]; omega), hf, show (i + 1) * 3 + j - 3 = i * 3 + j by omega]
    exact flat3 f hf r i a (by simpa using h) j hj
theorem docCells_len (D : List DocR) : (docCells D).length = D.length * 3 := by
  induction D with
  | nil => rfl
  | cons d r ih => simp only [docCells, List.flatMap_cons, List.length_append, List.length_cons, List.length_nil] at ih ⊢; omega
theorem docCells_snoc (D : List DocR) (d : DocR) : docCells (D ++ [d]) = docCells D ++ [.string d.addr, .string d.title, .string d.text] := by simp [docCells]
theorem termCells_snoc (L : List (TermR × Value × Value)) (x : TermR × Value × Value) : termCells (L ++ [x]) = termCells L ++ [.string x.1.word, x.2.1, x.2.2] := by simp [termCells]
theorem intCells_snoc (l : List Int) (n : Int) : intCells (l ++ [n]) = intCells l ++ [.int .i64 n] := by simp [intCells]

structure IdxOwn (w : World) (B : Nat) (dv sv tv : Value) (s : St) (L : List (TermR × Value × Value)) : Prop where
  oL : L.map (·.1) = s.T
  od : w.ownsRow B 33 3 dv s.D.length (docCells s.D)
  os : w.ownsRow B 3 1 sv s.S.length (intCells s.S)
  ot : w.ownsRow B 44 3 tv L.length (termCells L)
  ow : ∀ x ∈ L, w.ownsRow B 3 1 x.2.1 x.1.docs.length (intCells x.1.docs) ∧ w.ownsRow B 3 1 x.2.2 x.1.many.length (intCells x.1.many)
  oi : (∀ n ∈ s.S, I64 n) ∧ ∀ x ∈ L, (∀ n ∈ x.1.docs, I64 n) ∧ ∀ n ∈ x.1.many, I64 n
theorem IdxOwn.start (w : World) (B : Nat) : IdxOwn w B (.slice none 0 0) (.slice none 0 0) (.slice none 0 0) st0 [] :=
  ⟨rfl, World.ownsRow_nil w B _ 3, World.ownsRow_nil w B _ 1, World.ownsRow_nil w B _ 3, (fun x h => by cases h), ⟨(fun x h => by cases h), (fun x h => by cases h)⟩⟩
theorem IdxOwn.keep {w w' : World} {B : Nat} {dv sv tv : Value} {s : St} {L : List (TermR × Value × Value)} {row : Option Nat} (h : IdxOwn w B dv sv tv s L) (hg : w.grownBy w' row) (hD : RowT row w 33) (hI : RowT row w 3) (hT : RowT row w 44) : IdxOwn w' B dv sv tv s L :=
  ⟨h.oL, own_rowT h.od hg hD, own_rowT h.os hg hI, own_rowT h.ot hg hT, fun x hx => ⟨own_rowT (h.ow x hx).1 hg hI, own_rowT (h.ow x hx).2 hg hI⟩, h.oi⟩
theorem grown_none {w w' : World} (hb : Below w.heap.size w w') : w.grownBy w' none := ⟨hb.os, hb.tape, hb.output, hb.size, fun x hx _ => hb.block x hx⟩
theorem IdxOwn.below {w w' : World} {B : Nat} {dv sv tv : Value} {s : St} {L : List (TermR × Value × Value)} (h : IdxOwn w B dv sv tv s L) (hb : Below w.heap.size w w') : IdxOwn w' B dv sv tv s L :=
  h.keep (grown_none hb) (RowT.none _ _) (RowT.none _ _) (RowT.none _ _)
theorem IdxOwn.drew {w : World} {B : Nat} {dv sv tv : Value} {s : St} {L : List (TermR × Value × Value)} (h : IdxOwn w B dv sv tv s L) : IdxOwn w.drew B dv sv tv s L := h.below (Below.refl _ _).drew
theorem IdxOwn.alloc {w : World} {B : Nat} {dv sv tv : Value} {s : St} {L : List (TermR × Value × Value)} (h : IdxOwn w B dv sv tv s L) (o : Obj) : IdxOwn (w.alloc o) B dv sv tv s L := h.below ((Below.refl _ _).alloc (Nat.le_refl _) o)
/-- the box of the index is written -/
theorem IdxOwn.box {w : World} {B b o : Nat} {dv sv tv : Value} {s : St} {L : List (TermR × Value × Value)} {t : TypeId} {cs : Array Value} (h : IdxOwn w B dv sv tv s L) (hc : CB w b t cs) (hD : t ≠ 33) (hI : t ≠ 3) (hT : t ≠ 44) (v : Value) : IdxOwn (w.setCell ⟨b, o, none⟩ v) B dv sv tv s L :=
  h.keep (grown_setB w b o v) (RowT.cb hc hD) (RowT.cb hc hI) (RowT.cb hc hT)
theorem IdxOwn.pushD {w w' : World} {B : Nat} {dv sv tv v' : Value} {s : St} {L : List (TermR × Value × Value)} (h : IdxOwn w B dv sv tv s L) (d : DocR) (hg : w.grownBy w' dv.ownBlock)
    (ho : w'.ownsRow B 33 3 v' (s.D.length + 1) (docCells s.D ++ [.string d.addr, .string d.title, .string d.text])) : IdxOwn w' B v' sv tv ⟨s.D ++ [d], s.S, s.T⟩ L :=
  ⟨h.oL, by simp only [List.length_append, List.length_cons, List.length_nil]; rw [docCells_snoc]; exact ho, own_rowT h.os hg (RowT.own h.od (by decide)), own_rowT h.ot hg (RowT.own h.od (by decide)),
    fun x hx => ⟨own_rowT (h.ow x hx).1 hg (RowT.own h.od (by decide)), own_rowT (h.ow x hx).2 hg (RowT.own h.od (by decide))⟩, h.oi⟩
theorem IdxOwn.pushS {w w' : World} {B : Nat} {dv sv tv v' : Value} {s : St} (h : IdxOwn w B dv sv tv s []) (n : Int) (hn : I64 n) (hg : w.grownBy w' sv.ownBlock)
    (ho : w'.ownsRow B 3 1 v' (s.S.length + 1) (intCells s.S ++ [.int .i64 n])) : IdxOwn w' B dv v' tv ⟨s.D, s.S ++ [n], s.T⟩ [] :=
  ⟨h.oL, own_rowT h.od hg (RowT.own h.os (by decide)), by simp only [List.length_append, List.length_cons, List.length_nil]; rw [intCells_snoc]; exact ho, own_rowT h.ot hg (RowT.own h.os (by decide)),
    (fun x hx => by cases hx), ⟨fun x hx => by rcases List.mem_append.1 hx with h1 | h1; exact h.oi.1 x h1; simp at h1; subst h1; exact hn, h.oi.2⟩⟩
theorem IdxOwn.pushT {w w' : World} {B : Nat} {dv sv tv v' : Value} {s : St} {L : List (TermR × Value × Value)} (h : IdxOwn w B dv sv tv s L) (x : TermR × Value × Value) (hx1 : w.ownsRow B 3 1 x.2.1 x.1.docs.length (intCells x.1.docs)) (hx2 : w.ownsRow B 3 1 x.2.2 x.1.many.length (intCells x.1.many))
    (hi : (∀ n ∈ x.1.docs, I64 n) ∧ ∀ n ∈ x.1.many, I64 n) (hg : w.grownBy w' tv.ownBlock) (ho : w'.ownsRow B 44 3 v' (L.length + 1) (termCells L ++ [.string x.1.word, x.2.1, x.2.2])) : IdxOwn w' B dv sv v' ⟨s.D, s.S, s.T ++ [x.1]⟩ (L ++ [x]) := by
  have hr : RowT tv.ownBlock w 3 := RowT.own h.ot (by decide)
  refine ⟨by simp [h.oL], own_rowT h.od hg (RowT.own h.ot (by decide)), own_rowT h.os hg hr, by simp only [List.length_append, List.length_cons, List.length_nil]; rw [termCells_snoc]; exact ho, fun y hy => ?_, h.oi.1, fun y hy => ?_⟩
  · rcases List.mem_append.1 hy with h1 | h1
    · exact ⟨own_rowT (h.ow y h1).1 hg hr, own_rowT (h.ow y h1).2 hg hr⟩
    · simp at h1; subst h1
      exact ⟨own_rowT hx1 hg hr, own_rowT hx2 hg hr⟩
  · rcases List.mem_append.1 hy with h1 | h1
    · exact h.oi.2 y h1
    · simp at h1; subst h1; exact hi

/-- a row of the call's own, read -/
theorem own_read {w : World} {B K : Nat} {e : TypeId} {v : Value} {n : Nat} {xs : List Value} (h : w.ownsRow B e K v n xs) : ∃ (A : Option Addr) (c b : Nat), v = .slice A n c ∧ n ≤ c ∧ c ≤ maxLen ∧ (0 < n → A = some ⟨b, 0, none⟩) ∧ ∀ j x, xs[j]? = some x → w.cell? ⟨b, j, none⟩ = some x := by
  obtain ⟨hl, h2⟩ := h
  rcases h2 with ⟨rfl, rfl⟩ | ⟨g, cap, cur, rfl, hB, hg, hnc, hm, hsz, htake⟩
  · have : xs = [] := List.eq_nil_of_length_eq_zero (by omega)
    subst this
    exact ⟨none, 0, 0, rfl, Nat.le_refl _, by simp [maxLen], fun h => absurd h (by omega), fun i x hx => by simp at hx⟩
  · refine ⟨some ⟨g, 0, none⟩, cap, g, rfl, by omega, hm, fun _ => rfl, fun i x hx => ?_⟩
    rw [cell_of_row w g i cur e (0, 0) hg]
    rw [← htake, List.getElem?_take] at hx
    split at hx
    · simpa using hx
    · cases hx
theorem ints_own {w : World} {B : Nat} {v : Value} {l : List Int} (h : w.ownsRow B 3 1 v l.length (intCells l)) (hi : ∀ n ∈ l, I64 n) : IntsAt w v l := by
  obtain ⟨A, c, b, h1, h2, h3, h4, h5⟩ := own_read h
  refine ⟨A, c, b, 0, h1, h2, h3, fun hne => h4 ?_, fun i n hn => ⟨?_, hi n (List.mem_of_getElem? hn)⟩⟩
  · cases l with
    | nil => exact absurd rfl hne
    | cons _ _ => simp
  · rw [Nat.zero_add]
    exact h5 i _ (by simp [intCells, hn])
theorem docs_own {w : World} {B : Nat} {v : Value} {D : List DocR} (h : w.ownsRow B 33 3 v D.length (docCells D)) : DocsAt w v D := by
  obtain ⟨A, c, b, h1, h2, h3, h4, h5⟩ := own_read h
  refine ⟨A, c, b, 0, h1, h2, h3, fun hne => h4 ?_, fun i d hd => ?_⟩
  · cases D with
    | nil => exact absurd rfl hne
    | cons _ _ => simp
  · have k := flat3 (fun d : DocR => [Value.string d.addr, .string d.title, .string d.text]) (fun _ => rfl) D i d hd
    rw [Nat.zero_add]
    exact ⟨h5 _ _ (k 0 (by omega)), h5 _ _ (k 1 (by omega)), h5 _ _ (k 2 (by omega))⟩
theorem IdxOwn.at {w : World} {B : Nat} {dv sv tv : Value} {s : St} {L : List (TermR × Value × Value)} (h : IdxOwn w B dv sv tv s L) : IdxAt w dv sv tv s.D s.S s.T := by
  refine ⟨docs_own h.od, ints_own h.os h.oi.1, ?_⟩
  obtain ⟨A, c, b, h1, h2, h3, h4, h5⟩ := own_read h.ot
  have hl : s.T.length = L.length := by rw [← h.oL, List.length_map]
  refine ⟨A, c, b, 0, fun i => ((L[i]?).map (·.2.1)).getD undef, fun i => ((L[i]?).map (·.2.2)).getD undef, by rw [hl]; exact h1, by omega, h3, fun hne => h4 ?_, fun i t ht => ?_⟩
  · rw [← hl]
    cases hT : s.T with
    | nil => exact absurd hT hne
    | cons _ _ => simp
  · rw [← h.oL, List.getElem?_map, Option.map_eq_some_iff] at ht
    obtain ⟨x, hx, rfl⟩ := ht
    have k := flat3 (fun x : TermR × Value × Value => [Value.string x.1.word, x.2.1, x.2.2]) (fun _ => rfl) L i x hx
    have hm := List.mem_of_getElem? hx
    rw [Nat.zero_add]
    simp only [hx, Option.map_some, Option.getD_some]
    exact ⟨h5 _ _ (k 0 (by omega)), h5 _ _ (k 1 (by omega)), h5 _ _ (k 2 (by omega)), ints_own (h.ow x hm).1 (h.oi.2 x hm).1, ints_own (h.ow x hm).2 (h.oi.2 x hm).2⟩

theorem num_i64 (l : List UInt8) : I64 ((numV l : Nat) : Int) := by
  unfold numV
  split
  · rename_i h
    have h1 : numForm l = true ∧ digitsB l = true := by simpa [numB] using h
    have h2 : l.length ≤ 9 := by
      have := h1.1
      simp only [numForm, Bool.and_eq_true, decide_eq_true_eq] at this
      exact this.1.2
    have h3 := decV_lt (l := l) l.length (Nat.le_refl _) (by rw [List.take_length]; exact h1.2)
    rw [List.take_length] at h3
    have h4 : 10 ^ l.length ≤ 10 ^ 9 := Nat.pow_le_pow_right (by omega) h2
    unfold I64
    omega
  · unfold I64; omega

theorem bytes_eq {a b : ByteArray} (h : a.data.toList = b.data.toList) : a = b := Go.WideShapes.bytes_inj h
theorem ext_take (s : ByteArray) (k : Nat) : (s.extract 0 k).data.toList = s.data.toList.take k := by rw [Lib.extract_data]; simp
theorem ext_drop (s : ByteArray) (k : Nat) : (s.extract k s.size).data.toList = s.data.toList.drop k := by
  rw [Lib.extract_data, ← size_toList, List.take_of_length_le (by simp)]

end Go.Proofs.YtmcelgokchhpfaaGreatDoor
