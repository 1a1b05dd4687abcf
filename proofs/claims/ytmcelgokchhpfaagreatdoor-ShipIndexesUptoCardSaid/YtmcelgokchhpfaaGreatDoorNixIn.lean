/-
  ship.NewIndex: the index in its box, its rows and the map of terms, while documents are taken in.
-/
import Derived.Test.YtmcelgokchhpfaaGreatDoorNixMem
import Derived.Test.YtmcelgokchhpfaaGreatDoorNixOwn
import Derived.Test.YtmcelgokchhpfaaGreatDoorWords2
import Derived.Laws.AppendOwnNone
namespace Go.Proofs.YtmcelgokchhpfaaGreatDoor
open Go.RowKit Go.Deep

theorem flush_le (cur : List UInt8) : ∀ x ∈ flush cur, x.length ≤ 30 := by
  intro x hx
  unfold flush at hx
  split at hx
  · rename_i h
    simp only [List.mem_singleton] at hx
    subst hx; exact h.2
  · cases hx
theorem word_le : ∀ (l cur : List UInt8), ∀ x ∈ wordsAux l cur, x.length ≤ 30
  | [], cur => flush_le cur
  | c :: r, cur => by
    intro x hx
    rw [wordsAux] at hx
    split at hx
    · exact word_le r _ x hx
    · rcases List.mem_append.1 hx with h | h
      · exact flush_le _ x h
      · exact word_le r _ x h
theorem words_many : ∀ (l cur : List UInt8), (wordsAux l cur).length ≤ l.length + 1
  | [], cur => by have := flush_len cur; simp only [wordsAux, List.length_nil]; omega
  | c :: r, cur => by
    rw [wordsAux]
    split
    · have := words_many r (cur ++ [lowerB c]); rw [List.length_cons]; omega
    · have := words_many r []; have := flush_len cur; rw [List.length_append, List.length_cons]; omega
theorem stemFrom_le (l : List UInt8) : ∀ (f k : Nat), (stemFrom l f k).length ≤ l.length
  | 0, _ => Nat.le_refl _
  | f + 1, k => by
    rw [stemFrom]
    split
    · rw [List.length_take]; omega
    · exact stemFrom_le l f (k + 1)
theorem stem_le (l : List UInt8) : (stemL l).length ≤ l.length := by
  unfold stemL
  split
  · exact stemFrom_le l 7 0
  · exact Nat.le_refl _
/-- append of another row of the call's own -/
theorem wpList_join {P : Program} {ops : Array Oper} {rest : List Oper} {o : Oper} {a : Act} {Q : Exit → Act → World → Prop} (W : World) (hgd : o.guard = none) (s x : Operand) (t : TypeId)
    (ho : o.op = .call { callee := .builtin .append, args := #[s, x], argTypes := #[t, t] })
    (B : Nat) (e : TypeId) (z : Value) (bytes : Nat) (ht : P.underlying t = some (.slice e)) (hi : (P.info? e).map (fun i => (i.zero, i.size, i.bytes)) = some (some z, 1, bytes)) (hzs : z.cells.size = 1)
    (v : Value) (n : Nat) (xs : List Value) (hs : a.eval s = v) (hown : W.ownsRow B e 1 v n xs)
    (B2 : Nat) (u : Value) (m : Nat) (ys : List Value) (hx : a.eval x = u) (hu : W.ownsRow B2 e 1 u m ys) (h1 : ∀ y ∈ ys, y.oneCell' = true)
    (hn : (n + m) * bytes ≤ 140737488355328) (hn' : n + m ≤ maxLen) (hB : B ≤ W.heap.size)
    (h : ∀ A c w', w'.ownsRow B e 1 (.slice A (n + m) c) (n + m) (xs ++ ys) → Below B W w' → W.heap.size ≤ w'.heap.size → wpList P ops Q rest (a.put o.dst (.slice A (n + m) c)) w') :
    wpList P ops Q (o :: rest) a W := by
  obtain ⟨i, hi1, hi2, hi3, hi4⟩ := info_parts hi
  rcases hu.2 with ⟨rfl, hm⟩ | ⟨g, cap, cur, rfl, hBg, hg, hnc, hcm, hcs, htake⟩
  · subst hm
    have hy : ys = [] := List.eq_nil_of_length_eq_zero (by have := hu.1; omega)
    subst hy
    refine wpList_append_own_none hgd s x t ho B e i 1 ht hi1 v n xs hs hown hx ?_
    obtain ⟨A, c, rfl, _, _, _⟩ := own_form hown
    exact h A c W (by simpa using hown) (Below.refl _ _) (Nat.le_refl _)
  · refine wpList_append_own_at (P := P) W hgd s x t ho B e i z 1 bytes ht hi1 hi2 hi3 hi4 hzs (by omega) v n xs hs hown ⟨g, 0, none⟩ m cap ys hx hu.1 ?_ h1 hn' hn hB ?_
    · intro j y hj
      have hadd : (⟨g, 0, none⟩ : Addr).add j = ⟨g, j, none⟩ := by unfold Addr.add; split <;> simp_all
      rw [hadd]
      exact own_cell hu hj
    · intro v' w' h2 hg2 _ _
      obtain ⟨A, c, rfl, _, _, _⟩ := own_form h2
      exact h A c w' h2 (below_of_grown hg2 hB (own_block_ge hown)) hg2.size

def strsW (L : List (List UInt8)) : List Value := strCells L
def zIdx : Array Value := #[.slice none 0 0, .slice none 0 0, .slice none 0 0]
structure NixIn (w : World) (N X mb : Nat) (dv sv : Value) (ds : List DocR) (ss : List Int) (K : List (List UInt8)) (T : List UInt8 → TB) (Dd Mm : List UInt8 → List Int) : Prop where
  hr : CB w N 26 #[.slice none 0 0, .slice none 0 0, .slice none 0 0]
  hx : CB w X 26 #[dv, sv, .slice none 0 0]
  hNX : N < X
  hd : w.ownsRow N 33 3 dv ds.length (docCells ds)
  hs : w.ownsRow N 3 1 sv ss.length (intCells ss)
  ht : TermsIn w N mb sv K T Dd Mm
  si : ∀ n ∈ ss, I64 n
section
variable {w w' : World} {N X mb : Nat} {dv sv : Value} {ds : List DocR} {ss : List Int} {K : List (List UInt8)} {T : List UInt8 → TB} {Dd Mm : List UInt8 → List Int}
theorem NixIn.start (hr : CB w N 26 #[.slice none 0 0, .slice none 0 0, .slice none 0 0]) (hX : X = w.heap.size) (T : List UInt8 → TB) (Dd Mm : List UInt8 → List Int) :
    NixIn ((w.alloc (.cells #[.slice none 0 0, .slice none 0 0, .slice none 0 0] 26)).alloc (.map #[] 0)) N X (X + 1) (.slice none 0 0) (.slice none 0 0) [] [] [] T Dd Mm := by
  subst hX
  have h := TermsIn.start (w.alloc (.cells #[.slice none 0 0, .slice none 0 0, .slice none 0 0] 26)) N (.slice none 0 0) (by rw [World.size_alloc]; have := hr.lt; omega) T Dd Mm
  rw [World.size_alloc] at h
  exact ⟨(hr.alloc _).alloc _, (CB.new w _ _).alloc _, hr.lt, World.ownsRow_nil _ _ _ _, World.ownsRow_nil _ _ _ _, h, fun _ h => by cases h⟩
theorem NixIn.below (h : NixIn w N X mb dv sv ds ss K T Dd Mm) (hb : Below w.heap.size w w') : NixIn w' N X mb dv sv ds ss K T Dd Mm :=
  ⟨h.hr.below hb, h.hx.below hb, h.hNX, own_rowT h.hd (grown_none hb) (RowT.none _ _), own_rowT h.hs (grown_none hb) (RowT.none _ _), h.ht.below hb, h.si⟩
theorem NixIn.congr {D2 M2 : List UInt8 → List Int} (h : NixIn w N X mb dv sv ds ss K T Dd Mm) (h1 : ∀ s, D2 s = Dd s) (h2 : ∀ s, M2 s = Mm s) : NixIn w N X mb dv sv ds ss K T D2 M2 := by
  rw [funext h1, funext h2]; exact h
/-- a row of documents pushed, its slice stored -/
theorem NixIn.pushD {dv' : Value} (h : NixIn w N X mb dv sv ds ss K T Dd Mm) (d : DocR) (hg : w.grownBy w' dv.ownBlock) (ho : w'.ownsRow N 33 3 dv' (ds.length + 1) (docCells ds ++ [.string d.addr, .string d.title, .string d.text])) :
    NixIn (w'.setCell ⟨X, 0, none⟩ dv') N X mb dv' sv (ds ++ [d]) ss K T Dd Mm := by
  have hx1 : CB w' X 26 #[dv, sv, .slice none 0 0] := h.hx.push h.hd (by decide) hg
  have hr1 : CB w' N 26 #[.slice none 0 0, .slice none 0 0, .slice none 0 0] := h.hr.push h.hd (by decide) hg
  have g2 := grown_setB w' X 0 dv'
  have ne : ∀ {t e : TypeId} {n : Nat} {cs : Array Value}, CB w' n t cs → t ≠ e → RowT (some n) w' e := fun hc hne => RowT.cb hc hne
  refine ⟨hr1.set_other (Nat.ne_of_lt h.hNX) _, hx1.put 0 _, h.hNX, ?_, own_rowT (own_rowT h.hs hg (RowT.own h.hd (by decide))) g2 (ne hx1 (by decide)), ?_, h.si⟩
  · rw [docCells_snoc, List.length_append]
    exact own_rowT ho g2 (ne hx1 (by decide))
  · exact (h.ht.other h.hd (by decide) (by decide) hg).cells (p := fun x => x = X) hx1 (by decide) (by decide) (GrownX.of_grown g2 (fun x hx => (Option.some.inj hx).symm)) (fun x hx => hx)
/-- a size pushed, its slice stored -/
theorem NixIn.pushS {sv' : Value} (h : NixIn w N X mb dv sv ds ss K T Dd Mm) (n : Int) (hn : I64 n) (hg : w.grownBy w' sv.ownBlock) (ho : w'.ownsRow N 3 1 sv' (ss.length + 1) (intCells ss ++ [.int .i64 n])) (hn2 : ∀ b, sv'.ownBlock = some b → sv.ownBlock = some b ∨ w.heap.size ≤ b) :
    NixIn (w'.setCell ⟨X, 1, none⟩ sv') N X mb dv sv' ds (ss ++ [n]) K T Dd Mm := by
  have hx1 : CB w' X 26 #[dv, sv, .slice none 0 0] := h.hx.push h.hs (by decide) hg
  have hr1 : CB w' N 26 #[.slice none 0 0, .slice none 0 0, .slice none 0 0] := h.hr.push h.hs (by decide) hg
  have g2 := grown_setB w' X 1 sv'
  have ne : ∀ {t e : TypeId} {n : Nat} {cs : Array Value}, CB w' n t cs → t ≠ e → RowT (some n) w' e := fun hc hne => RowT.cb hc hne
  refine ⟨hr1.set_other (Nat.ne_of_lt h.hNX) _, hx1.put 1 _, h.hNX, own_rowT (own_rowT h.hd hg (RowT.own h.hs (by decide))) g2 (ne hx1 (by decide)), ?_, ?_, fun x hx => ?_⟩
  · rw [intCells_snoc, List.length_append]
    exact own_rowT ho g2 (ne hx1 (by decide))
  · exact (h.ht.sizes h.hs hg hn2).cells (p := fun x => x = X) hx1 (by decide) (by decide) (GrownX.of_grown g2 (fun x hx => (Option.some.inj hx).symm)) (fun x hx => hx)
  · rcases List.mem_append.1 hx with h1 | h1
    · exact h.si x h1
    · simp at h1; subst h1; exact hn
/-- a word's blocks hold no documents, no index, no words -/
theorem TermsIn.has_type {B : Nat} {s : List UInt8} {b : Nat} {t : TypeId} {cs : Array Value} {fz : Nat × Nat} (h : TermsIn w B mb sv K T Dd Mm) (hs : s ∈ K) (hb : TB.has (T s) b) (hc : w.heap[b]? = some (.cells cs t fz)) : t = 44 ∨ t = 3 := by
  rcases hb with e | e | e
  · have := h.box s hs
    unfold CB at this
    rw [← e, hc] at this
    cases this; exact Or.inl rfl
  · rcases (h.od s hs).2 with ⟨e2, _⟩ | ⟨g, cap, cur, e2, _, hg, _⟩
    · rw [e2] at e; simp [Value.ownBlock] at e
    · rw [e2] at e; simp only [Value.ownBlock, Option.some.injEq] at e
      rw [e, hc] at hg; cases hg; exact Or.inr rfl
  · rcases (h.om s hs).2 with ⟨e2, _⟩ | ⟨g, cap, cur, e2, _, hg, _⟩
    · rw [e2] at e; simp [Value.ownBlock] at e
    · rw [e2] at e; simp only [Value.ownBlock, Option.some.injEq] at e
      rw [e, hc] at hg; cases hg; exact Or.inr rfl
theorem TermsIn.has_lt {B : Nat} {s : List UInt8} {b : Nat} (h : TermsIn w B mb sv K T Dd Mm) (hs : s ∈ K) (hb : TB.has (T s) b) : B ≤ b ∧ b < w.heap.size := by
  rcases hb with e | e | e
  · rw [e]; exact ⟨h.ge s hs, (h.box s hs).lt⟩
  · exact (h.od s hs).lt b e
  · exact (h.om s hs).lt b e
theorem TermsIn.cb_keep {B : Nat} {s : List UInt8} {n : Nat} {t : TypeId} {cs : Array Value} (h : TermsIn w B mb sv K T Dd Mm) (hs : s ∈ K) (g : GrownX (TB.has (T s)) w w') (hc : CB w n t cs) (h1 : t ≠ 44) (h2 : t ≠ 3) : CB w' n t cs :=
  hc.keepX g (fun e => by rcases h.has_type hs e hc with e | e; exact h1 e; exact h2 e)
theorem TermsIn.own_keep {B B2 K2 n : Nat} {s : List UInt8} {t : TypeId} {v : Value} {xs : List Value} (h : TermsIn w B mb sv K T Dd Mm) (hs : s ∈ K) (g : GrownX (TB.has (T s)) w w') (ho : w.ownsRow B2 t K2 v n xs) (h1 : t ≠ 44) (h2 : t ≠ 3) : w'.ownsRow B2 t K2 v n xs := by
  refine own_keepX ho g (fun b hb e => ?_)
  rcases ho.2 with ⟨e2, _⟩ | ⟨g2, cap, cur, e2, _, hg, _⟩
  · rw [e2] at hb; simp [Value.ownBlock] at hb
  · rw [e2] at hb; simp only [Value.ownBlock, Option.some.injEq] at hb
    rcases h.has_type hs (by rw [hb]; exact e) hg with e | e
    · exact h1 e
    · exact h2 e
/-- one word's box and rows turn -/
theorem NixIn.turn {s : List UInt8} {x : TB} {dl ml : List Int} (h : NixIn w N X mb dv sv ds ss K T Dd Mm) (hs : s ∈ K) (g : GrownX (TB.has (T s)) w w') (hx : x.blk = (T s).blk)
    (hc : CB w' x.blk 44 #[.string (str0 s), x.dv, x.mv]) (h1 : w'.ownsRow N 3 1 x.dv dl.length (intCells dl)) (h2 : w'.ownsRow N 3 1 x.mv ml.length (intCells ml))
    (n1 : ∀ b, x.dv.ownBlock = some b → (T s).dv.ownBlock = some b ∨ w.heap.size ≤ b) (n2 : ∀ b, x.mv.ownBlock = some b → (T s).mv.ownBlock = some b ∨ w.heap.size ≤ b) (ap : Apart x.dv x.mv) : NixIn w' N X mb dv sv ds ss K (updT T s x) (updT Dd s dl) (updT Mm s ml) := by
  refine ⟨h.ht.cb_keep hs g h.hr (by decide) (by decide), h.ht.cb_keep hs g h.hx (by decide) (by decide), h.hNX, h.ht.own_keep hs g h.hd (by decide) (by decide), ?_, h.ht.turn hs g hx hc h1 h2 n1 n2 ap (fun b hb => own_lt h.hs b hb), h.si⟩
  refine own_keepX h.hs g ?_
  rintro b hb (e | e | e)
  · exact RowT.own h.hs (show (3 : TypeId) ≠ 44 by decide) b hb _ _ (by rw [e]; exact h.ht.box s hs)
  · exact (h.ht.asd s hs).1 b e hb
  · exact (h.ht.asd s hs).2 b e hb
/-- a new word's box, stored into the map -/
theorem NixIn.add_new {s : List UInt8} (h : NixIn w N X mb dv sv ds ss K T Dd Mm) (hs : s ∉ K)
    (hm : VMap Tryz.prog 9 w' mb (K.length + 1) (putF (ptrF K T) s (.pointer (some ⟨w.heap.size, 0, none⟩)))) (ht : (w.alloc (.cells #[.string (str0 s), .slice none 0 0, .slice none 0 0] 44)).mapTurned w' mb) (hD : Dd s = []) (hM : Mm s = []) :
    NixIn w' N X mb dv sv ds ss (K ++ [s]) (updT T s ⟨w.heap.size, .slice none 0 0, .slice none 0 0⟩) Dd Mm := by
  have hN : N ≤ w.heap.size := Nat.le_of_lt h.hr.lt
  have g1 : GrownX (fun x => x = mb) w w' := (GrownX.alloc (GrownX.refl _ _) _).trans (GrownX.of_grown (r := some mb) ht.grown (fun x hx => (Option.some.inj hx).symm))
  obtain ⟨es, clock, hmb⟩ := h.ht.map.block
  have nec : ∀ {n : Nat} {t : TypeId} {cs : Array Value}, CB w n t cs → ¬ n = mb := fun hc e => by
    unfold CB at hc
    rw [e, hmb] at hc
    cases hc
  have neo : ∀ {v : Value} {n k : Nat} {t : TypeId} {xs : List Value}, w.ownsRow N t k v n xs → ∀ b, v.ownBlock = some b → ¬ b = mb := fun {v n k t xs} ho b hb e => by
    rcases ho.2 with ⟨rfl, _⟩ | ⟨b', cap, cur, rfl, _, hb', _⟩
    · simp [Value.ownBlock] at hb
    · simp only [Value.ownBlock, Option.some.injEq] at hb
      exact nec (n := b') (cs := cur) hb' (by rw [hb]; exact e)
  exact ⟨h.hr.keepX g1 (nec h.hr), h.hx.keepX g1 (nec h.hx), h.hNX, own_keepX h.hd g1 (neo h.hd), own_keepX h.hs g1 (neo h.hs), h.ht.add_new hs hN hm ht hD hM, h.si⟩
end

end Go.Proofs.YtmcelgokchhpfaaGreatDoor
