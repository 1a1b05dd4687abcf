/-
  Links of a site: ship.Links.
-/
import Derived.Test.YtbhildmalcfhiaaGreatDoorTokSame
import Derived.Test.YtbhildmalcfhiaaGreatDoorOutsQ
import Derived.Test.YtbhildmalcfhiaaGreatDoorEvPlain
import Derived.Test.YtbhildmalcfhiaaGreatDoorMapV
import Derived.Laws.AppendOwnNone
namespace Go.Proofs.YtbhildmalcfhiaaGreatDoor
open Go.RowKit Go.Deep

def idN : ByteArray := ⟨#[105, 100]⟩
def hrefN : ByteArray := ⟨#[104, 114, 101, 102]⟩
def srcN : ByteArray := ⟨#[115, 114, 99]⟩
def htmlX : List UInt8 := [46, 104, 116, 109, 108]
/-- the first attribute of a name -/
def attrV (n : ByteArray) (l : List AttrR) : Option ByteArray := match l with
  | [] => none
  | a :: r => if a.name = n then some a.value else attrV n r
def attrS (n : ByteArray) (l : List AttrR) : ByteArray := (attrV n l).getD ⟨#[]⟩
/-- the ids of a token, of tokens -/
def idT (t : TokR) : List (List UInt8) := if t.kind = 2 ∧ (attrS idN t.atts).data.toList ≠ [] then [(attrS idN t.atts).data.toList] else []
def idsV (l : List TokR) : List (List UInt8) := l.flatMap idT
structure LinkR where
  path : ByteArray
  at_ : Nat
  target : ByteArray
def linkB (a : AttrR) : Bool := decide (a.name = hrefN) || decide (a.name = srcN)
def linkA (p : ByteArray) (at0 : Nat) (a : AttrR) : List LinkR := if linkB a then [⟨p, at0, a.value⟩] else []
def linkT (p : ByteArray) (t : TokR) : List LinkR := t.atts.flatMap (linkA p t.at_)
def linksV (p : ByteArray) (l : List TokR) : List LinkR := l.flatMap (linkT p)
theorem flat_take {α β : Type} (f : α → List β) {l : List α} {k : Nat} {x : α} (h : l[k]? = some x) : (l.take (k + 1)).flatMap f = (l.take k).flatMap f ++ f x := by
  obtain ⟨hk, rfl⟩ := List.getElem?_eq_some_iff.1 h
  rw [List.take_succ_eq_append_getElem hk, List.flatMap_append]; simp
theorem linkA_len (p : ByteArray) (n : Nat) (a : AttrR) : (linkA p n a).length ≤ 1 := by unfold linkA; split <;> simp
theorem linkA_sum (p : ByteArray) (n : Nat) (l : List AttrR) : (l.flatMap (linkA p n)).length ≤ l.length := by
  induction l with
  | nil => simp
  | cons a r ih => have := linkA_len p n a; simp only [List.flatMap_cons, List.length_append, List.length_cons]; omega
def linkRow (x : LinkR) : List Value := [.string x.path, .int .i64 (x.at_ : Int), .string x.target]
def linkCells (l : List LinkR) : List Value := l.flatMap linkRow
theorem linkCells_snoc (l : List LinkR) (x : LinkR) : linkCells (l ++ [x]) = linkCells l ++ linkRow x := by simp [linkCells]
theorem info_link : (Tryz.prog.info? 34).map (fun i => (i.zero, i.size, i.bytes)) = some (some (.agg #[.string ⟨#[]⟩, .int .i64 0, .string ⟨#[]⟩]), 3, 40) := by kernel_rfl
/-- pages -/
def pageB (s : ByteArray) : Bool := Lib.hasSuffix s.data.toList htmlX
def pagesE (l : List OutV) : Int := if l.any (fun o => pageB o.path && decide (tokE o.body ≠ 0)) then 4 else 0
def outLinks (o : OutV) : List LinkR := if pageB o.path then linksV o.path (tokR o.body) else []
def allLinks (l : List OutV) : List LinkR := l.flatMap outLinks
theorem tokE_two (s : ByteArray) : tokE s = 0 ∨ tokE s = 4 := by
  unfold tokE
  split
  · exact Or.inr rfl
  · split
    · exact Or.inr rfl
    · exact Or.inl rfl

theorem tokR_len (s : ByteArray) : (tokR s).length ≤ 20000 := by
  unfold tokR
  split
  · rename_i h
    unfold tokE at h
    split at h
    · cases h
    · split at h
      · cases h
      · omega
  · simp
theorem toks_len {L : List (TokR × Value)} {s : ByteArray} (h : L.map (·.1) = tokR s) : L.length ≤ 20000 := by
  have h1 := congrArg List.length h
  rw [List.length_map] at h1
  have := tokR_len s
  omega
theorem tokAt_atts {s : ByteArray} {i : Nat} (h : kindAt s i ≠ 0) : (tokAt s i).1.atts.length ≤ s.size := by
  have h1 := tok_le h
  unfold tokAt
  split
  · exact Nat.zero_le _
  · exact Nat.zero_le _
  · exact Nat.zero_le _
  · exact (attsV_le (skip_le (by omega)).2).2.2
  · exact Nat.zero_le _
theorem charsL_atts {s : ByteArray} {a b : Nat} {t : TokR} (h : t ∈ charsL s a b) : t.atts.length ≤ s.size := by
  unfold charsL at h
  split at h
  · simp at h; subst h; exact Nat.zero_le _
  · simp at h
theorem toksF_atts (s : ByteArray) : ∀ (f i a : Nat) (t : TokR), t ∈ toksF s f i a → t.atts.length ≤ s.size
  | 0, i, a, t, h => charsL_atts h
  | f + 1, i, a, t, h => by
    rw [toksF] at h
    split at h
    · split at h
      · exact toksF_atts s f _ _ t h
      · rename_i hk
        rcases List.mem_append.1 h with h | h
        · rcases List.mem_append.1 h with h | h
          · exact charsL_atts h
          · unfold tokL at h
            rcases List.mem_cons.1 h with rfl | h
            · exact tokAt_atts hk
            · split at h
              · exact charsL_atts h
              · simp at h
        · exact toksF_atts s f _ _ t h
    · exact charsL_atts h
theorem tokR_atts {s : ByteArray} {t : TokR} (h : t ∈ tokR s) : t.atts.length ≤ 200000 := by
  unfold tokR at h
  split at h
  · rename_i h1
    have := toksF_atts s _ _ _ t h
    unfold tokE at h1
    split at h1
    · cases h1
    · omega
  · simp at h
theorem flat_len {α β : Type} {f : α → List β} {n : Nat} : ∀ (l : List α), (∀ x ∈ l, (f x).length ≤ n) → (l.flatMap f).length ≤ l.length * n
  | [], _ => by simp
  | a :: r, h => by
    have := h a (List.mem_cons_self ..)
    have := flat_len r (fun x hx => h x (List.mem_cons_of_mem _ hx))
    rw [List.flatMap_cons, List.length_append, List.length_cons, Nat.add_mul]; omega
theorem linksR_len (p s : ByteArray) : (linksV p (tokR s)).length ≤ 4000000000 := by
  have h := flat_len (f := linkT p) (n := 200000) (tokR s) (fun x hx => Nat.le_trans (linkA_sum _ _ _) (tokR_atts hx))
  have := tokR_len s
  unfold linksV
  omega
theorem outLinks_len (o : OutV) : (outLinks o).length ≤ 4000000000 := by
  unfold outLinks
  split
  · exact linksR_len _ _
  · simp
/-- a row's block is of its elements' type -/
theorem own_type {w : World} {B K n g : Nat} {e : TypeId} {v : Value} {xs : List Value} (h : w.ownsRow B e K v n xs) (hg : v.ownBlock = some g) : ∃ cs, CB w g e cs := by
  rcases h.2 with ⟨h1, _⟩ | ⟨g', cap, cur, h1, _, h4, _⟩
  · rw [h1] at hg; cases hg
  · rw [h1] at hg
    simp only [Value.ownBlock, Option.some.injEq] at hg
    subst hg
    exact ⟨_, h4⟩
theorem own_stay {w w' : World} {B K n : Nat} {e : TypeId} {v : Value} {xs : List Value} (h : w.ownsRow B e K v n xs) (hb : Below w.heap.size w w') : w'.ownsRow B e K v n xs := own_keepX h (GrownX.of_below (p := fun _ => False) hb) (fun _ _ e => e)
/-- no row of tokens or attributes lies there -/
def NoTok (w : World) (g : Nat) : Prop := ∀ cs fz, w.heap[g]? ≠ some (.cells cs 56 fz) ∧ w.heap[g]? ≠ some (.cells cs 68 fz)
theorem NoTok.cb {w : World} {g : Nat} {t : TypeId} {cs : Array Value} (h : CB w g t cs) (h1 : t ≠ 56) (h2 : t ≠ 68) : NoTok w g := fun cs' fz =>
  ⟨(fun e => by rw [show w.heap[g]? = _ from h] at e; cases e; exact h1 rfl), (fun e => by rw [show w.heap[g]? = _ from h] at e; cases e; exact h2 rfl)⟩
theorem NoTok.map {w : World} {g : Nat} {es : Array MapEntry} {c : Nat} (h : w.heap[g]? = some (.map es c)) : NoTok w g := fun cs' fz => ⟨(fun e => by rw [h] at e; cases e), (fun e => by rw [h] at e; cases e)⟩
theorem NoTok.row {w : World} {B K n g : Nat} {e : TypeId} {v : Value} {xs : List Value} (h : w.ownsRow B e K v n xs) (hg : v.ownBlock = some g) (h1 : e ≠ 56) (h2 : e ≠ 68) : NoTok w g := by
  obtain ⟨cs, hc⟩ := own_type h hg
  exact .cb hc h1 h2
theorem ToksOwn.keepN {w w' : World} {B : Nat} {ov : Value} {L : List (TokR × Value)} {p : Nat → Prop} (h : ToksOwn w B ov L) (k : GrownX p w w') (hp : ∀ g, p g → NoTok w g) : ToksOwn w' B ov L :=
  h.keepX k (fun g hg hpg => by
    obtain ⟨cs, hc⟩ := own_type h.row hg
    exact (hp g hpg cs _).1 hc) (fun g hg cs fz => (hp g hg cs fz).2)
theorem ToksOwn.low {w : World} {B B' : Nat} {ov : Value} {L : List (TokR × Value)} (h : ToksOwn w B' ov L) (hB : B ≤ B') : ToksOwn w B ov L := ⟨own_low h.row hB, fun x hx => own_low (h.att x hx) hB⟩
/-- .. where a row of another type grows -/
theorem ToksOwn.grown {w w' : World} {B : Nat} {ov : Value} {L : List (TokR × Value)} {B2 K n : Nat} {e : TypeId} {v : Value} {xs : List Value} (h : ToksOwn w B ov L) (hr : w.ownsRow B2 e K v n xs) (hg : w.grownBy w' v.ownBlock) (h1 : e ≠ 56) (h2 : e ≠ 68) : ToksOwn w' B ov L :=
  h.keepN (GrownX.of_grown (p := fun x => v.ownBlock = some x) hg (fun _ e => e)) (fun _ hx => .row hr hx h1 h2)
theorem CB.grown {w w' : World} {b : Nat} {t : TypeId} {cs : Array Value} {B2 K n : Nat} {e : TypeId} {v : Value} {xs : List Value} (h : CB w b t cs) (hr : w.ownsRow B2 e K v n xs) (hg : w.grownBy w' v.ownBlock) (h1 : t ≠ e) : CB w' b t cs :=
  h.other hg (fun e => own_ne_cb hr h h1 e.symm)
theorem ToksIn.len {w : World} {v : Value} {L : List (TokR × Value)} (h : ToksIn w v L) : ∃ A c, v = .slice A L.length c := by
  obtain ⟨A, c, b, h1, _⟩ := h
  exact ⟨A, c, h1⟩
theorem ToksIn.nil (w : World) : ToksIn w (.slice none 0 0) [] := ⟨none, 0, 0, rfl, Nat.le_refl _, by simp [maxLen], fun h => absurd rfl h, fun i x hx => by simp at hx⟩
theorem ToksOwn.rows {w : World} {B : Nat} {ov : Value} {L : List (TokR × Value)} (h : ToksOwn w B ov L) : ToksIn w ov L := .of_own h

/-- append of a row that is read, K cells an element -/
theorem wpList_joinK {P : Program} {ops : Array Oper} {rest : List Oper} {o : Oper} {a : Act} {Q : Exit → Act → World → Prop} (W : World) (hgd : o.guard = none) (s x : Operand) (t : TypeId)
    (ho : o.op = .call { callee := .builtin .append, args := #[s, x], argTypes := #[t, t] })
    (B : Nat) (e : TypeId) (z : Value) (K bytes : Nat) (ht : P.underlying t = some (.slice e)) (hi : (P.info? e).map (fun i => (i.zero, i.size, i.bytes)) = some (some z, K, bytes)) (hzs : z.cells.size = K) (hK : 0 < K)
    (v : Value) (n : Nat) (xs : List Value) (hs : a.eval s = v) (hown : W.ownsRow B e K v n xs)
    (B2 : Nat) (u : Value) (m : Nat) (ys : List Value) (hx : a.eval x = u) (hu : W.ownsRow B2 e K u m ys) (h1 : ∀ y ∈ ys, y.oneCell' = true)
    (hn : (n + m) * bytes ≤ 140737488355328) (hn' : n + m ≤ maxLen) (hB : B ≤ W.heap.size)
    (h : ∀ A c w', w'.ownsRow B e K (.slice A (n + m) c) (n + m) (xs ++ ys) → W.grownBy w' v.ownBlock → Below B W w' → wpList P ops Q rest (a.put o.dst (.slice A (n + m) c)) w') :
    wpList P ops Q (o :: rest) a W := by
  obtain ⟨i, hi1, hi2, hi3, hi4⟩ := info_parts hi
  rcases hu.2 with ⟨rfl, hm⟩ | ⟨g, cap, cur, rfl, hBg, hg, hnc, hcm, hcs, htake⟩
  · subst hm
    have hy : ys = [] := List.eq_nil_of_length_eq_zero (by have := hu.1; omega)
    subst hy
    refine wpList_append_own_none hgd s x t ho B e i K ht hi1 v n xs hs hown hx ?_
    obtain ⟨A, c, rfl, _, _, _⟩ := own_form hown
    exact h A c W (by simpa using hown) (World.grownBy.refl _ _) (Below.refl _ _)
  · refine wpList_append_own_at (P := P) W hgd s x t ho B e i z K bytes ht hi1 hi2 hi3 hi4 hzs hK v n xs hs hown ⟨g, 0, none⟩ m cap ys hx hu.1 ?_ h1 hn' hn hB ?_
    · intro j y hj
      have hadd : (⟨g, 0, none⟩ : Addr).add j = ⟨g, j, none⟩ := by unfold Addr.add; split <;> simp_all
      rw [hadd]
      have hjl := (List.getElem?_eq_some_iff.1 hj).1
      have hul := hu.1
      rw [hu.cellAt j (by omega), hj]
    · intro v' w' h2 hg2 _ _
      obtain ⟨A, c, rfl, _, _, _⟩ := own_form h2
      exact h A c w' h2 hg2 (below_of_grown hg2 hB (own_block_ge hown))

end Go.Proofs.YtbhildmalcfhiaaGreatDoor

namespace Go.Proofs.YtbhildmalcfhiaaGreatDoor
open Go.RowKit Go.Deep

theorem nm_ne' {a : ByteArray} {l : List UInt8} (h : a ≠ ⟨l.toArray⟩) : (a.toList == l) = false := by
  rw [Go.ByteArray.toList_eq, beq_eq_false_iff_ne]
  exact fun he => h (Go.WideShapes.bytes_inj (by rw [he]))
theorem nm_eq' {a : ByteArray} {l : List UInt8} (h : a = ⟨l.toArray⟩) : (a.toList == l) = true := by
  rw [Go.ByteArray.toList_eq, h, beq_iff_eq]
/-- a token as a value -/
def tokVal (kd : Int) (at0 : Nat) (nm tx : ByteArray) (av : Value) : Value := .agg #[.int .i64 kd, .int .i64 (at0 : Int), .string nm, .string tx, av]

set_option maxHeartbeats 1000000 in
theorem isPageS_q (x : ByteArray) (v : Bool) (w : World) (hs : x.size ≤ 9223372036854775807) (h : pageB x = v) : Calls Tryz.prog 30 #[.string x] w fun e w' => e = .returned (.bool v) ∧ w = w' := by
  have HX := Lib.hid (show Lib.hasSuffix x.data.toList (⟨#[46, 104, 116, 109, 108]⟩ : ByteArray).data.toList = v from h); clear h
  go_enter Tryz.func30, Tryz.ntmps30
  go_wp2_with (go_at_call 57; go_must (refine (hasSuffix_v _ _ v _ hs HX.out).mono ?_); rintro e w1 ⟨rfl, rfl⟩)
  go_ret
  exact ⟨rfl, rfl⟩
set_option maxHeartbeats 1000000 in
theorem isPageR_q (x y : ByteArray) (v : Bool) (w : World) (hs : x.size ≤ 9223372036854775807) (h : pageB x = v) : Calls Tryz.prog 29 #[.agg #[.string x, .string y]] w fun e w' => e = .returned (.bool v) ∧ Below w.heap.size w w' := by
  have HX := Lib.hid (show Lib.hasSuffix x.data.toList (⟨#[46, 104, 116, 109, 108]⟩ : ByteArray).data.toList = v from h); clear h
  go_enter Tryz.func29, Tryz.ntmps29
  go_wp2_with (go_at_call 57; go_must (refine (hasSuffix_v _ _ v _ hs HX.out).mono ?_); rintro e w1 ⟨rfl, rfl⟩)
  go_ret
  exact ⟨rfl, (Below.refl _ _).alloc (Nat.le_refl _) _⟩

end Go.Proofs.YtbhildmalcfhiaaGreatDoor

namespace Go.Proofs.YtbhildmalcfhiaaGreatDoor
open Go.RowKit Go.Deep

def StrsPost (D : List (List UInt8)) (w : World) (e : Ending) (w' : World) : Prop :=
  ∃ (A : Option Addr) (c : Nat), e = .returned (.slice A D.length c) ∧ w'.ownsRow w.heap.size 9 1 (.slice A D.length c) D.length (strCells D) ∧ Below w.heap.size w w'
def StrsE (D : List (List UInt8)) (n : Int) (w : World) (e : Ending) (w' : World) : Prop :=
  ∃ (A : Option Addr) (c : Nat), e = .returned (.tuple #[.slice A D.length c, .int .i64 n]) ∧ w'.ownsRow w.heap.size 9 1 (.slice A D.length c) D.length (strCells D) ∧ Below w.heap.size w w'
theorem StrsPost.mk {D D' : List (List UInt8)} {A : Option Addr} {c q B : Nat} {w w' : World} (hB : B = w.heap.size) (h : D' = D) (hq : D.length = q) (ho : w'.ownsRow B 9 1 (.slice A q c) q (strCells D)) (hb : Below B w w') : StrsPost D' w (.returned (.slice A q c)) w' := by
  subst h; subst hq; subst hB
  exact ⟨A, c, rfl, ho, hb⟩
theorem StrsE.mk {D D' : List (List UInt8)} {n n' : Int} {A : Option Addr} {c q B : Nat} {w w' : World} (hB : B = w.heap.size) (h : D' = D) (hn : n' = n) (hq : D.length = q) (ho : w'.ownsRow B 9 1 (.slice A q c) q (strCells D)) (hb : Below B w w') : StrsE D' n' w (.returned (.tuple #[.slice A q c, .int .i64 n])) w' := by
  subst h; subst hq; subst hB; subst hn
  exact ⟨A, c, rfl, ho, hb⟩
end Go.Proofs.YtbhildmalcfhiaaGreatDoor

namespace Go.Proofs.YtbhildmalcfhiaaGreatDoor
open Go.RowKit Go.Deep

def LinksPost (D : List LinkR) (w : World) (e : Ending) (w' : World) : Prop :=
  ∃ (A : Option Addr) (c : Nat), e = .returned (.slice A D.length c) ∧ w'.ownsRow w.heap.size 34 3 (.slice A D.length c) D.length (linkCells D) ∧ Below w.heap.size w w'
theorem LinksPost.mk {D D' : List LinkR} {A : Option Addr} {c q B : Nat} {w w' : World} (hB : B = w.heap.size) (h : D' = D) (hq : D.length = q) (ho : w'.ownsRow B 34 3 (.slice A q c) q (linkCells D)) (hb : Below B w w') : LinksPost D' w (.returned (.slice A q c)) w' := by
  subst h; subst hq; subst hB
  exact ⟨A, c, rfl, ho, hb⟩
theorem links_step {p : ByteArray} {L : List (TokR × Value)} {k : Nat} {x : TokR × Value} {D : List LinkR} (h : linksV p ((L.take k).map (·.1)) = D) (hx : L[k]? = some x) : linksV p ((L.take (k + 1)).map (·.1)) = D ++ linkT p x.1 := by
  obtain ⟨hk, rfl⟩ := List.getElem?_eq_some_iff.1 hx
  rw [← h, List.take_succ_eq_append_getElem hk, List.map_append, linksV, linksV, List.flatMap_append]; simp
theorem link_step {p : ByteArray} {n : Nat} {l : List AttrR} {k : Nat} {a : AttrR} {D0 D : List LinkR} (h : D = D0 ++ (l.take k).flatMap (linkA p n)) (hx : l[k]? = some a) : D ++ linkA p n a = D0 ++ (l.take (k + 1)).flatMap (linkA p n) := by
  rw [h, flat_take _ hx, List.append_assoc]
theorem linkA_yes {p : ByteArray} {n : Nat} {a : AttrR} (h : a.name = hrefN ∨ a.name = srcN) : linkA p n a = [⟨p, n, a.value⟩] := by
  unfold linkA linkB
  rw [if_pos (by simpa using h)]
theorem linkA_no {p : ByteArray} {n : Nat} {a : AttrR} (h1 : a.name ≠ hrefN) (h2 : a.name ≠ srcN) : linkA p n a = [] := by
  unfold linkA linkB
  rw [if_neg (by simp [h1, h2])]

set_option maxRecDepth 100000 in
set_option maxHeartbeats 8000000 in
theorem linksOf_q (p : ByteArray) (L : List (TokR × Value)) (v : Value) (w : World) (h : ToksIn w v L) (hL : L.length ≤ 1048576) (hat : ∀ x ∈ L, x.1.atts.length ≤ 1048576) :
    Calls Tryz.prog 26 #[.string p, v] w (LinksPost (linksV p (L.map (·.1))) w) := by
  obtain ⟨Av, cv, bv, rfl, hlc, hc, hA, hcell⟩ := h
  have HA := Lib.hid hA; have HC := Lib.hid hcell; have HAt := Lib.hid hat; clear hA hcell hat
  unfold maxLen at hc
  obtain ⟨B, hBe⟩ : ∃ B, w.heap.size = B := ⟨_, rfl⟩
  have HBe := Lib.hid hBe
  have HB0 := Lib.hid (Below.refl B w)
  have HC := Lib.hid (fun wr (hb : Below B w wr) i x hx => by rw [← hBe] at hb; exact (⟨(HC.out i x hx).1.keep (Keeps.of_below hb), fun j u hu => Keeps.of_below hb _ _ ((HC.out i x hx).2 j u hu)⟩ : AttsAt wr x.2 x.1.atts ∧ ∀ j u, (tokRow x)[j]? = some u → wr.cell? ⟨bv, i * 5 + j, none⟩ = some u))
  have hBw : B ≤ w.heap.size := by omega
  clear hBe
  go_enter Tryz.func26, Tryz.ntmps26
  go_wp2_with fail
  go_loopw [5, 12] (fun t5 t12 wr => ∃ (k : Nat) (D : List LinkR) (A : Option Addr) (c q : Nat), t5 = .slice A q c ∧ t12 = .int .i64 k ∧ D.length = q ∧ k ≤ L.length ∧ q ≤ k * 1048576 ∧ Hid (linksV p ((L.take k).map (·.1)) = D) ∧ Hid (wr.ownsRow B 34 3 (.slice A q c) q (linkCells D)) ∧ Hid (Below B w wr)) (fun _ t12 _ => L.length - (intOf t12).toNat)
  case atStart => exact ⟨0, [], none, 0, 0, rfl, rfl, rfl, Nat.zero_le _, Nat.zero_le _, rfl, World.ownsRow_nil _ _ _ _, HB0⟩
  case round =>
    clear HB0
    obtain ⟨k, D, A, c, q, rfl, rfl, hq, hk, hqk, HR, HO, HB⟩ := hrel
    obtain ⟨wo, rfl⟩ : ∃ wo : World, wo = wr := ⟨_, rfl⟩
    have hBr : B ≤ wo.heap.size := by have := HB.out.size; omega
    by_cases hlt : k < L.length
    · obtain rfl := HA.out (by intro h; rw [h] at hlt; simp at hlt)
      obtain ⟨x, hx⟩ : ∃ x, L[k]? = some x := ⟨_, List.getElem?_eq_getElem hlt⟩
      have HR2 := Lib.hid (links_step HR.out hx)
      have hal := HAt.out x (List.mem_of_getElem? hx)
      obtain ⟨hxa, hxc⟩ := HC.out wo HB.out k x hx
      have HXA := Lib.hid (fun wy (hb : Below B w wy) => (HC.out wy hb k x hx).1)
      clear hx
      obtain ⟨⟨kd, at0, nm, tx, atts⟩, av⟩ := x
      obtain ⟨Ax, cx, bx, hxv, hcx, hcm, hAx, _⟩ := hxa
      simp only at hxv HXA HR2 hcx hAx hal
      subst hxv
      have HXA2 := Lib.hid (fun wy (hb : Below B w wy) (i : Nat) (a : AttrR) (ha : atts[i]? = some a) => by
        obtain ⟨A', c', b', he, _, _, hA', hc'⟩ := HXA.out wy hb
        have h1 := hA' (by intro h; rw [h] at ha; simp at ha)
        have h2 := hAx (by intro h; rw [h] at ha; simp at ha)
        cases he
        rw [h1] at h2
        cases h2
        exact hc' i a ha)
      have HAx := Lib.hid hAx
      clear HXA hAx
      unfold maxLen at hcm
      have p0 := hxc 0 _ rfl
      have p1 := hxc 1 _ rfl
      have p2 := hxc 2 _ rfl
      have p3 := hxc 3 _ rfl
      have p4 := hxc 4 _ rfl
      simp only [Nat.add_zero] at p0
      clear hxc
      go_wp2_with fail
      have HT0 := Lib.hid (CB.new wo #[.int .i64 kd, .int .i64 (at0 : Int), .string nm, .string tx, .slice Ax atts.length cx] 56)
      have HO0 := Lib.hid (own_alloc HO.out (.cells #[.int .i64 kd, .int .i64 (at0 : Int), .string nm, .string tx, .slice Ax atts.length cx] 56))
      have HB1 := Lib.hid (HB.out.alloc hBr (.cells #[.int .i64 kd, .int .i64 (at0 : Int), .string nm, .string tx, .slice Ax atts.length cx] 56))
      clear p0 p1 p2 p3 p4 HO
      go_loopw [5, 19] (fun t5 t19 wx => ∃ (j : Nat) (E : List LinkR) (A' : Option Addr) (c' r : Nat), t5 = .slice A' r c' ∧ t19 = .int .i64 j ∧ E.length = r ∧ j ≤ atts.length ∧ r ≤ q + j ∧ Hid (E = D ++ (atts.take j).flatMap (linkA p at0)) ∧ Hid (wx.ownsRow B 34 3 (.slice A' r c') r (linkCells E)) ∧ Hid (CB wx wo.heap.size 56 #[.int .i64 kd, .int .i64 (at0 : Int), .string nm, .string tx, .slice Ax atts.length cx]) ∧ Hid (Below B w wx)) (fun _ t19 _ => atts.length - (intOf t19).toNat)
      case atStart => exact ⟨0, D, A, c, q, rfl, rfl, hq, Nat.zero_le _, Nat.le_refl _, by simp [Hid], HO0, HT0, HB1⟩
      case round =>
        clear HO0 HT0 HB1
        obtain ⟨j, E, A', c', r, rfl, rfl, hr, hj, hrj, HE, HO2, HT2, HB2⟩ := hrel
        obtain ⟨wx, rfl⟩ : ∃ wx : World, wx = wr := ⟨_, rfl⟩
        have hBx : B ≤ wx.heap.size := by have := HB2.out.size; omega
        by_cases hjl : j < atts.length
        · obtain rfl := HAx.out (by intro h; rw [h] at hjl; simp at hjl)
          obtain ⟨a, ha⟩ : ∃ x, atts[j]? = some x := ⟨_, List.getElem?_eq_getElem hjl⟩
          obtain ⟨n0, n1⟩ := HXA2.out wx HB2.out j a ha
          have HE2 := Lib.hid (link_step HE.out ha)
          clear ha
          have t1 : wx.cell? ⟨wo.heap.size, 1, none⟩ = some (.int .i64 (at0 : Int)) := HT2.out.c 1
          have tl : wo.heap.size < wx.heap.size := HT2.out.lt
          by_cases hlk : a.name = hrefN ∨ a.name = srcN
          · have HE3 := Lib.hid (HE2.out.symm.trans (by rw [linkA_yes hlk]))
            have HPush := Lib.hid (fun (W : World) (hW : Below wx.heap.size wx W) (hWo : W.ownsRow B 34 3 (.slice A' r c') r (linkCells E)) (w6 : World) (hg : W.grownBy w6 (Value.slice A' r c').ownBlock) (hb : Below B W w6) => (⟨CB.grown (HT2.out.below hW) hWo hg (by decide), (HB2.out.trans (hW.mono hBx)).trans hb⟩ : CB w6 wo.heap.size 56 #[.int .i64 kd, .int .i64 (at0 : Int), .string nm, .string tx, .slice (some ⟨bx, 0, none⟩) atts.length cx] ∧ Below B w w6))
            by_cases h1 : a.name = hrefN
            · have hs1 : (a.name.toList == [104, 114, 101, 102]) = true := nm_eq' h1
              clear h1 hlk
              go_wp2_with (at_builtin; go_must (refine wpList_push _ rfl (.tmp 31) (.tmp 38) 28 rfl B 34 _ 3 40 Tryz.underlying28 info_link rfl (by omega) (.slice A' r c') r _ rfl (own_alloc (own_alloc HO2.out _) _) (linkRow ⟨p, at0, a.value⟩) rfl _ rfl (cell_new _ (linkRow ⟨p, at0, a.value⟩) 34 _ (by rw [World.size_alloc])) (by intro u hu; simp [linkRow] at hu; rcases hu with rfl | rfl | rfl <;> rfl) (by omega) (by unfold maxLen; omega) (by simp; omega) ?_); intro g6 k6 w6 own6 hg6 hgg6 hb6; have HO6 := Lib.hid own6; have HP6 := Lib.hid (HPush.out _ (((Below.refl _ _).alloc (Nat.le_refl _) _).alloc (by simp) _) (own_alloc (own_alloc HO2.out _) _) _ hg6 hb6); clear own6 hg6 hgg6 hb6)
              go_roundw
              case rel => exact ⟨j + 1, E ++ [(⟨p, at0, a.value⟩ : LinkR)], _, _, r + 1, rfl, by go_num, by simp [hr], by omega, by omega, Lib.hid HE3.out.symm, Lib.hid (by rw [linkCells_snoc]; exact HO6.out), HP6.out.1, HP6.out.2⟩
              case measure => simp [intOf]; omega
            · have hs1 : (a.name.toList == [104, 114, 101, 102]) = false := nm_ne' h1
              have hs2 : (a.name.toList == [115, 114, 99]) = true := nm_eq' (hlk.resolve_left h1)
              clear h1 hlk
              go_wp2_with (at_builtin; go_must (refine wpList_push _ rfl (.tmp 31) (.tmp 38) 28 rfl B 34 _ 3 40 Tryz.underlying28 info_link rfl (by omega) (.slice A' r c') r _ rfl (own_alloc (own_alloc HO2.out _) _) (linkRow ⟨p, at0, a.value⟩) rfl _ rfl (cell_new _ (linkRow ⟨p, at0, a.value⟩) 34 _ (by rw [World.size_alloc])) (by intro u hu; simp [linkRow] at hu; rcases hu with rfl | rfl | rfl <;> rfl) (by omega) (by unfold maxLen; omega) (by simp; omega) ?_); intro g6 k6 w6 own6 hg6 hgg6 hb6; have HO6 := Lib.hid own6; have HP6 := Lib.hid (HPush.out _ (((Below.refl _ _).alloc (Nat.le_refl _) _).alloc (by simp) _) (own_alloc (own_alloc HO2.out _) _) _ hg6 hb6); clear own6 hg6 hgg6 hb6)
              go_roundw
              case rel => exact ⟨j + 1, E ++ [(⟨p, at0, a.value⟩ : LinkR)], _, _, r + 1, rfl, by go_num, by simp [hr], by omega, by omega, Lib.hid HE3.out.symm, Lib.hid (by rw [linkCells_snoc]; exact HO6.out), HP6.out.1, HP6.out.2⟩
              case measure => simp [intOf]; omega
          · have h1 : a.name ≠ hrefN := fun e => hlk (Or.inl e)
            have h2 : a.name ≠ srcN := fun e => hlk (Or.inr e)
            have HE3 := Lib.hid (HE2.out.symm.trans (by rw [linkA_no h1 h2, List.append_nil]))
            have hs1 : (a.name.toList == [104, 114, 101, 102]) = false := nm_ne' h1
            have hs2 : (a.name.toList == [115, 114, 99]) = false := nm_ne' h2
            clear h1 h2 hlk
            go_wp2_with fail
            go_roundw
            case rel => exact ⟨j + 1, E, A', c', r, rfl, by go_num, hr, by omega, by omega, Lib.hid HE3.out.symm, own_alloc HO2.out _, HT2.out.alloc _, HB2.out.alloc hBx _⟩
            case measure => simp [intOf]; omega
        · have HR3 := Lib.hid (show linksV p ((L.take (k + 1)).map (·.1)) = E by rw [HR2.out, HE.out, List.take_of_length_le (by omega)]; rfl)
          go_wp2_with fail
          go_roundw
          case rel => exact ⟨k + 1, E, A', c', r, rfl, by go_num, hr, by omega, by omega, HR3, HO2, HB2⟩
          case measure => simp [intOf]; omega
    · have hkl : k = L.length := by omega
      have HF := Lib.hid (show linksV p (L.map (·.1)) = D by rw [← HR.out, hkl, List.take_length])
      clear hkl
      go_wp2_with fail
      go_ret
      exact LinksPost.mk HBe.out.symm HF.out hq HO.out HB.out

end Go.Proofs.YtbhildmalcfhiaaGreatDoor

namespace Go.Proofs.YtbhildmalcfhiaaGreatDoor
open Go.RowKit Go.Deep

structure PagesAt (w : World) (B bm n : Nat) (F : List UInt8 → Option Value) (l : List OutV) (k : Nat) : Prop where
  map : VMap Tryz.prog 9 w bm n F
  page : ∀ i x, i < k → l[i]? = some x → pageB x.path = true → ∃ ov L, F x.path.data.toList = some ov ∧ ToksOwn w B ov L ∧ L.map (·.1) = tokR x.body
  miss : ∀ s, (∀ i x, i < k → l[i]? = some x → pageB x.path = true → x.path.data.toList ≠ s) → F s = none
section
variable {w w' : World} {B bm n k : Nat} {F : List UInt8 → Option Value} {l : List OutV}
theorem PagesAt.keepN {p : Nat → Prop} (h : PagesAt w B bm n F l k) (g : GrownX p w w') (hb : ¬ p bm) (hp : ∀ x, p x → NoTok w x) : PagesAt w' B bm n F l k := by
  refine ⟨?_, fun i x hi hx hpg => ?_, h.miss⟩
  · obtain ⟨D, ⟨es, clock, h1, h2⟩, h3⟩ := h.map
    exact ⟨D, ⟨es, clock, (g.block bm (Array.getElem?_eq_some_iff.1 h1).1 hb).trans h1, h2⟩, h3⟩
  · obtain ⟨ov, L, h1, h2, h3⟩ := h.page i x hi hx hpg
    exact ⟨ov, L, h1, h2.keepN g hp, h3⟩
theorem PagesAt.below (h : PagesAt w B bm n F l k) (hb : Below w.heap.size w w') : PagesAt w' B bm n F l k := h.keepN (.of_below (p := fun _ => False) hb) (fun e => e) (fun _ e => e.elim)
theorem PagesAt.alloc (h : PagesAt w B bm n F l k) (o : Obj) : PagesAt (w.alloc o) B bm n F l k := h.below ((Below.refl _ _).alloc (Nat.le_refl _) o)
theorem PagesAt.grown {B2 K m : Nat} {e : TypeId} {v : Value} {xs : List Value} (h : PagesAt w B bm n F l k) (hr : w.ownsRow B2 e K v m xs) (hg : w.grownBy w' v.ownBlock) (h1 : e ≠ 56) (h2 : e ≠ 68) : PagesAt w' B bm n F l k :=
  h.keepN (GrownX.of_grown (p := fun x => v.ownBlock = some x) hg (fun _ e => e)) (fun e => by
    obtain ⟨cs, hc⟩ := own_type hr e
    obtain ⟨es, c, hm⟩ := h.map.block
    rw [show w.heap[bm]? = _ from hc] at hm; cases hm) (fun _ hx => .row hr hx h1 h2)
theorem PagesAt.skip {x : OutV} (h : PagesAt w B bm n F l k) (hx : l[k]? = some x) (hp : pageB x.path = false) : PagesAt w B bm n F l (k + 1) :=
  ⟨h.map, (fun i y hi hy hpg => by
    rcases Nat.lt_or_ge i k with h1 | h1
    · exact h.page i y h1 hy hpg
    · obtain rfl : i = k := by omega
      rw [hx] at hy; cases hy; rw [hp] at hpg; cases hpg),
   (fun s hs => h.miss s (fun i y hi hy hpg => hs i y (by omega) hy hpg))⟩
theorem PagesAt.put {x : OutV} {ov : Value} {L : List (TokR × Value)} (h : PagesAt w B bm n F l k) (hx : l[k]? = some x) (hp : pageB x.path = true) (ha : l.Pairwise (fun x y => x.path.data.toList ≠ y.path.data.toList))
    (hM : VMap Tryz.prog 9 w' bm (n + 1) (putF F x.path.data.toList ov)) (ht : w.mapTurned w' bm) (hO : ToksOwn w B ov L) (hl : L.map (·.1) = tokR x.body) : PagesAt w' B bm (n + 1) (putF F x.path.data.toList ov) l (k + 1) := by
  have hN : ∀ g, g = bm → NoTok w g := fun g e => by
    subst e
    obtain ⟨es, c, hm⟩ := h.map.block
    exact .map hm
  have hg : GrownX (fun x => x = bm) w w' := GrownX.of_grown ht.grown (fun g e => (Option.some.inj e).symm)
  refine ⟨hM, fun i y hi hy hpg => ?_, fun s hs => ?_⟩
  · rcases Nat.lt_or_ge i k with h1 | h1
    · obtain ⟨ov', L', h2, h3, h4⟩ := h.page i y h1 hy hpg
      have hne : y.path.data.toList ≠ x.path.data.toList := by
        obtain ⟨i1, e1⟩ := List.getElem?_eq_some_iff.1 hy
        obtain ⟨i2, e2⟩ := List.getElem?_eq_some_iff.1 hx
        have := List.pairwise_iff_getElem.1 ha i k i1 i2 h1
        rw [e1, e2] at this
        exact this
      exact ⟨ov', L', by rw [putF_ne _ _ hne]; exact h2, h3.keepN hg hN, h4⟩
    · obtain rfl : i = k := by omega
      rw [hx] at hy; cases hy
      exact ⟨ov, L, putF_same _ _ _, hO.keepN hg hN, hl⟩
  · rw [putF_ne _ _ (hs k x (by omega) hx hp).symm]
    exact h.miss s (fun i y hi hy hpg => hs i y (by omega) hy hpg)
/-- what is looked up -/
theorem PagesAt.at_ {x : OutV} {j : Nat} (h : PagesAt w B bm n F l k) (hx : l[j]? = some x) (hj : j < k) (ha : l.Pairwise (fun x y => x.path.data.toList ≠ y.path.data.toList)) :
    ∃ tv L, (F x.path.data.toList).getD (.slice none 0 0) = tv ∧ ToksOwn w B tv L ∧ linksV x.path (L.map (·.1)) = outLinks x ∧ L.length ≤ 20000 ∧ ∀ y ∈ L, y.1.atts.length ≤ 1048576 := by
  cases hp : pageB x.path with
  | true =>
    obtain ⟨ov, L, h1, h2, h3⟩ := h.page j x hj hx hp
    refine ⟨ov, L, by rw [h1]; rfl, h2, by rw [h3, outLinks, if_pos hp], toks_len h3, fun y hy => ?_⟩
    have : y.1 ∈ tokR x.body := by rw [← h3]; exact List.mem_map.2 ⟨y, hy, rfl⟩
    exact Nat.le_trans (tokR_atts this) (by omega)
  | false =>
    have hm : F x.path.data.toList = none := by
      refine h.miss _ (fun i y hi hy hpg e => ?_)
      have : y = x := by
        rcases Nat.lt_trichotomy i j with h1 | h1 | h1
        · obtain ⟨i1, e1⟩ := List.getElem?_eq_some_iff.1 hy
          obtain ⟨i2, e2⟩ := List.getElem?_eq_some_iff.1 hx
          have := List.pairwise_iff_getElem.1 ha i j i1 i2 h1
          rw [e1, e2] at this
          exact absurd e this
        · subst h1; rw [hx] at hy; cases hy; rfl
        · obtain ⟨i1, e1⟩ := List.getElem?_eq_some_iff.1 hy
          obtain ⟨i2, e2⟩ := List.getElem?_eq_some_iff.1 hx
          have := List.pairwise_iff_getElem.1 ha j i i2 i1 h1
          rw [e1, e2] at this
          exact absurd e.symm this
      subst this
      rw [hp] at hpg; cases hpg
    exact ⟨_, [], by rw [hm]; rfl, ToksOwn.start _ _, by rw [outLinks, if_neg (by rw [hp]; simp)]; rfl, by simp, fun y hy => by cases hy⟩
end
theorem pagesE_no {l : List OutV} (h : ∀ i x, i < l.length → l[i]? = some x → pageB x.path = true → tokE x.body = 0) : pagesE l = 0 := by
  unfold pagesE
  rw [if_neg]
  rw [List.any_eq_true]
  rintro ⟨x, hx, he⟩
  obtain ⟨i, hi⟩ := List.mem_iff_getElem?.1 hx
  have hil := (List.getElem?_eq_some_iff.1 hi).1
  simp only [Bool.and_eq_true, decide_eq_true_eq] at he
  exact he.2 (h i x hil hi he.1)
theorem pagesE_yes {l : List OutV} {k : Nat} {x : OutV} (hx : l[k]? = some x) (hp : pageB x.path = true) (he : tokE x.body ≠ 0) : pagesE l = 4 := by
  unfold pagesE
  rw [if_pos]
  rw [List.any_eq_true]
  exact ⟨x, List.mem_of_getElem? hx, by simp [hp, he]⟩
def PagesPost (l : List OutV) (w : World) (e : Ending) (w' : World) : Prop :=
  Below w.heap.size w w' ∧ ((pagesE l = 0 ∧ ∃ bm F, e = .returned (.tuple #[.map (some bm), .int .i64 0]) ∧ w.heap.size ≤ bm ∧ PagesAt w' w.heap.size bm l.length F l l.length) ∨ (pagesE l = 4 ∧ e = .returned (.tuple #[.map none, .int .i64 4])))
theorem PagesPost.ok {l : List OutV} {w w' : World} {e : Ending} (h : PagesPost l w e w') (h0 : pagesE l = 0) : ∃ bm F, e = .returned (.tuple #[.map (some bm), .int .i64 0]) ∧ w.heap.size ≤ bm ∧ PagesAt w' w.heap.size bm l.length F l l.length ∧ Below w.heap.size w w' := by
  obtain ⟨hb, ⟨_, bm, F, h1, h2, h3⟩ | ⟨h1, _⟩⟩ := h
  · exact ⟨bm, F, h1, h2, h3, hb⟩
  · rw [h0] at h1; cases h1
theorem PagesPost.bad {l : List OutV} {w w' : World} {e : Ending} (h : PagesPost l w e w') (h0 : pagesE l = 4) : e = .returned (.tuple #[.map none, .int .i64 4]) ∧ Below w.heap.size w w' := by
  obtain ⟨hb, ⟨h1, _⟩ | ⟨_, h1⟩⟩ := h
  · rw [h0] at h1; cases h1
  · exact ⟨h1, hb⟩
theorem PagesAt.low {w : World} {B B' bm n k : Nat} {F : List UInt8 → Option Value} {l : List OutV} (h : PagesAt w B' bm n F l k) (hB : B ≤ B') : PagesAt w B bm n F l k :=
  ⟨h.map, (fun i x hi hx hp => by obtain ⟨ov, L, h1, h2, h3⟩ := h.page i x hi hx hp; exact ⟨ov, L, h1, h2.low hB, h3⟩), h.miss⟩
theorem ok_next {l : List OutV} {k : Nat} {x : OutV} (h : ∀ i x, i < k → l[i]? = some x → pageB x.path = true → tokE x.body = 0) (hx : l[k]? = some x) (hp : pageB x.path = true → tokE x.body = 0) : ∀ i x, i < k + 1 → l[i]? = some x → pageB x.path = true → tokE x.body = 0 := fun i y hi hy => by
  rcases Nat.lt_or_ge i k with h1 | h1
  · exact h i y h1 hy
  · obtain rfl : i = k := by omega
    rw [hx] at hy; cases hy; exact hp

set_option maxRecDepth 100000 in
set_option maxHeartbeats 4000000 in
theorem pages_q (l : List OutV) (v : Value) (w : World) (h : OutsAt w v l) (hm : MaxT w.heap.size w) (hz : ∀ x ∈ l, x.path.size ≤ 1048576) (ha : l.Pairwise (fun x y => x.path.data.toList ≠ y.path.data.toList)) :
    Calls Tryz.prog 25 #[v] w (PagesPost l w) := by
  obtain ⟨A, c, b, o, rfl, hlc, hc, hA, hcell⟩ := h
  have HC := Lib.hid hcell; clear hcell
  have HA := Lib.hid hA; clear hA
  have HZ := Lib.hid hz; clear hz
  have HAp := Lib.hid ha; clear ha
  obtain ⟨K, hK⟩ : ∃ K, w.heap.size = K := ⟨_, rfl⟩
  have HM := Lib.hid (show MaxT K w from hK ▸ hm); clear hm
  have HK := Lib.hid hK
  have HM0 := Lib.hid (show PagesAt (w.alloc (.map #[] 0)) K K 0 (fun _ => none) l 0 from ⟨by rw [← hK]; exact vmap_made w, fun i x hi => absurd hi (by omega), fun _ _ => rfl⟩)
  have HB0 := Lib.hid (show Below K w (w.alloc (.map #[] 0)) from (Below.refl _ _).alloc (by omega) _)
  clear hK
  unfold maxLen at hc
  have hmm := @run_makeMap Tryz.prog
  go_enter Tryz.func25, Tryz.ntmps25
  go_wp2_with fail
  rw [HK.out]
  go_loopw [12] (fun t wr => ∃ (j n : Nat) (F : List UInt8 → Option Value), j ≤ l.length ∧ n ≤ j ∧ t = .int .i64 j ∧ Hid (∀ i x, i < j → l[i]? = some x → pageB x.path = true → tokE x.body = 0) ∧ Hid (PagesAt wr K K n F l j) ∧ Hid (Below K w wr)) (fun t _ => l.length - (intOf t).toNat)
  case atStart => exact ⟨0, 0, _, Nat.zero_le _, Nat.zero_le _, rfl, fun i x hi => absurd hi (by omega), HM0, HB0⟩
  case round =>
    clear HM0 HB0
    obtain ⟨j, n, F, hj, hnj, rfl, HE, HP, HB⟩ := hrel
    have hKr : K ≤ wr.heap.size := by have h1 := HB.out.size; have h2 := HK.out; omega
    by_cases hlt : j < l.length
    · obtain ⟨x, hx⟩ : ∃ x, l[j]? = some x := ⟨_, List.getElem?_eq_getElem hlt⟩
      obtain rfl : A = some ⟨b, o, none⟩ := HA.out (by intro h0; rw [h0] at hlt; simp at hlt)
      have kc := (HC.out j x hx).keep (Keeps.of_below (by have := HB.out; rw [← HK.out] at this; exact this))
      have k0 := kc.c0
      have k1 := kc.c1
      have HX := Lib.hid hx
      have hzx := HZ.out x (List.mem_of_getElem? hx)
      clear hx kc
      obtain ⟨path, body⟩ := x
      simp only at k0 k1 hzx HX
      obtain ⟨pb, hpb⟩ : ∃ v, pageB path = v := ⟨_, rfl⟩
      have HPb := Lib.hid hpb; clear hpb
      cases pb with
      | false =>
        have HE2 := Lib.hid (ok_next HE.out HX.out (fun e => by rw [HPb.out] at e; cases e))
        have HP2 := Lib.hid ((HP.out.skip HX.out HPb.out).alloc (.cells #[.string path, .string body] 62))
        go_wp2_with (go_at_call 30; go_must (refine (isPageS_q path false _ (by omega) HPb.out).mono ?_); rintro e w5 ⟨rfl, rfl⟩)
        go_roundw
        case rel => exact ⟨j + 1, n, F, by omega, by omega, by go_num, HE2, HP2, HB.out.alloc hKr _⟩
        case measure => simp [intOf]; omega
      | true =>
        rcases tokE_two body with hte | hte
        · have HTe := Lib.hid hte
          have HE2 := Lib.hid (ok_next HE.out HX.out (fun _ => hte))
          clear hte
          go_wp2_with (first
            | (go_at_call 30; go_must (refine (isPageS_q path true _ (by omega) HPb.out).mono ?_); rintro e w5 ⟨rfl, rfl⟩)
            | (go_at_call 20; go_must (refine (tokens_q body _ ((HM.out.keep (HB.out.alloc hKr _)).up (by simp; omega))).mono ?_); rintro e w6 ⟨ov6, L6, rfl, hl6, hO6, hb6⟩; rw [HTe.out]; have HL6 := Lib.hid hl6; have HO6 := Lib.hid (hO6.low (show K ≤ _ by simp; omega)); have HP6 := Lib.hid ((HP.out.alloc _).below hb6); have HB6 := Lib.hid ((HB.out.alloc hKr _).trans (hb6.mono (by simp; omega))); have q0 := (hb6.cell (p := ⟨wr.heap.size, 0, none⟩) (by simp)).trans (cell_new wr [.string path, .string body] 62 _ rfl 0 _ rfl); have ql : wr.heap.size < w6.heap.size := (by have := hb6.size; rw [World.size_alloc] at this; omega); clear hl6 hO6 hb6)
            | (at_mapUpdate; go_must (refine wpList_storeV rfl _ _ _ 58 rfl Tryz.underlying9 Tryz.underlying58 HP6.out.map (by unfold maxLen; omega) rfl path (by unfold maxLen; omega) ov6 rfl rfl ?_); intro w7 hm7 ht7; have HP7 := Lib.hid (HP6.out.put HX.out HPb.out HAp.out hm7 ht7 HO6.out HL6.out); have HB7 := Lib.hid (HB6.out.trans (turned_below ht7 (Nat.le_refl _) (by omega))); clear hm7 ht7))
          go_roundw
          case rel => exact ⟨j + 1, n + 1, _, by omega, by omega, by go_num, HE2, HP7, HB7⟩
          case measure => simp [intOf]; omega
        · have HTe := Lib.hid hte
          have HF := Lib.hid (pagesE_yes HX.out HPb.out (show tokE body ≠ 0 by rw [hte]; decide))
          clear hte
          go_wp2_with (first
            | (go_at_call 30; go_must (refine (isPageS_q path true _ (by omega) HPb.out).mono ?_); rintro e w5 ⟨rfl, rfl⟩)
            | (go_at_call 20; go_must (refine (tokens_q body _ ((HM.out.keep (HB.out.alloc hKr _)).up (by simp; omega))).mono ?_); rintro e w6 ⟨ov6, L6, rfl, hl6, hO6, hb6⟩; rw [HTe.out]; have HB6 := Lib.hid ((HB.out.alloc hKr _).trans (hb6.mono (by simp; omega))); clear hl6 hO6 hb6))
          go_ret2
          exact ⟨by rw [HK.out]; exact HB6.out, Or.inr ⟨HF.out, rfl⟩⟩
    · obtain rfl : j = l.length := by omega
      have HF := Lib.hid (pagesE_no HE.out)
      go_wp2_with fail
      go_ret2
      exact ⟨by rw [HK.out]; exact HB.out, Or.inl ⟨HF.out, K, F, rfl, by have := HK.out; omega, by rw [HK.out]; exact ⟨HP.out.map.mono hnj, HP.out.page, HP.out.miss⟩⟩⟩

end Go.Proofs.YtbhildmalcfhiaaGreatDoor

namespace Go.Proofs.YtbhildmalcfhiaaGreatDoor
open Go.RowKit Go.Deep

def linksN (l : List OutV) : Int := if outsE l = 0 then pagesE l else outsE l
def linksL (l : List OutV) : List LinkR := if linksN l = 0 then allLinks l else []
def LinksE (D : List LinkR) (n : Int) (w : World) (e : Ending) (w' : World) : Prop :=
  ∃ (A : Option Addr) (c : Nat), e = .returned (.tuple #[.slice A D.length c, .int .i64 n]) ∧ w'.ownsRow w.heap.size 34 3 (.slice A D.length c) D.length (linkCells D) ∧ Below w.heap.size w w'
theorem LinksE.mk {D D' : List LinkR} {n n' : Int} {A : Option Addr} {c q B : Nat} {w w' : World} (hB : B = w.heap.size) (h : D' = D) (hn : n' = n) (hq : D.length = q) (ho : w'.ownsRow B 34 3 (.slice A q c) q (linkCells D)) (hb : Below B w w') : LinksE D' n' w (.returned (.tuple #[.slice A q c, .int .i64 n])) w' := by
  subst h; subst hq; subst hB; subst hn
  exact ⟨A, c, rfl, ho, hb⟩
theorem zero_toks (w : World) : (zeroValue 50).run Tryz.prog w = .ok (.slice none 0 0) w := by kernel_rfl
theorem MaxT.at_ {B : Nat} {w : World} (h : MaxT B w) : MaxAt w := h.2
theorem all_step {l : List OutV} {k : Nat} {x : OutV} {D : List LinkR} (h : allLinks (l.take k) = D) (hx : l[k]? = some x) : allLinks (l.take (k + 1)) = D ++ outLinks x := by rw [← h, allLinks, flat_take _ hx]; rfl

end Go.Proofs.YtbhildmalcfhiaaGreatDoor
