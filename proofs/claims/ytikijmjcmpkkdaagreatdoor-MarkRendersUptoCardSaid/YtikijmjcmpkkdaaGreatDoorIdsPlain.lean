/-
  The headings of a document, their ids, the entries of its contents, plainly.
-/
import Derived.Test.YtikijmjcmpkkdaaGreatDoorPlainOf
import Derived.Test.YtikijmjcmpkkdaaGreatDoorSlugPlain
import Derived.Test.YtikijmjcmpkkdaaGreatDoorEntries
import Derived.Lib.ItoaMem
import Derived.Lib.ItoaLen
namespace Go.Proofs.YtikijmjcmpkkdaaGreatDoor
open Go.RowKit Go.Deep

/-- every heading, at whatever depth -/
def headsL : List Node → List Node
  | [] => []
  | .mk k lv t d ti ks :: r => (if k = 1 then [.mk k lv t d ti ks] else []) ++ headsL ks ++ headsL r
def headsN (n : Node) : List Node := (if n.kind = 1 then [n] else []) ++ headsL n.kids
theorem headsL_nil : headsL [] = [] := by rw [headsL]
theorem headsL_cons (n : Node) (r : List Node) : headsL (n :: r) = headsN n ++ headsL r := by cases n; rw [headsL]; rfl
theorem headsL_append (a b : List Node) : headsL (a ++ b) = headsL a ++ headsL b := by
  induction a with
  | nil => rw [headsL_nil]; rfl
  | cons n r ih => rw [List.cons_append, headsL_cons, headsL_cons, ih, List.append_assoc]
theorem headsL_take {l : List Node} {k : Nat} {n : Node} (h : l[k]? = some n) : headsL (l.take (k + 1)) = headsL (l.take k) ++ headsN n := by
  obtain ⟨hk, rfl⟩ := List.getElem?_eq_some_iff.1 h
  rw [List.take_succ_eq_append_getElem hk, headsL_append, headsL_cons, headsL_nil, List.append_nil]
theorem headsL_len : ∀ (N : Nat) (l : List Node), SizeOf.sizeOf l ≤ N → (headsL l).length ≤ total l
  | 0, l, h => by cases l <;> simp at h
  | N + 1, [], _ => by rw [headsL_nil]; simp
  | N + 1, n :: r, h => by
    rw [headsL_cons, total_cons, List.length_append]
    have h1 := n.kids_lt
    simp only [List.cons.sizeOf_spec] at h
    have a := headsL_len N n.kids (by omega)
    have b := headsL_len N r (by omega)
    have c : (headsN n).length ≤ 1 + (headsL n.kids).length := by unfold headsN; split <;> simp <;> omega
    omega
theorem heads_len (l : List Node) : (headsL l).length ≤ total l := headsL_len _ l (Nat.le_refl _)

/-- the headings, looked for in blocks alone -/
def headsR : List Node → List Node
  | [] => []
  | .mk k lv t d ti ks :: r => (if k = 1 then [.mk k lv t d ti ks] else if isBlockB k = true then headsR ks else []) ++ headsR r
def headsRN (n : Node) : List Node := if n.kind = 1 then [n] else if isBlockB n.kind = true then headsR n.kids else []
theorem headsR_nil : headsR [] = [] := by rw [headsR]
theorem headsR_cons (n : Node) (r : List Node) : headsR (n :: r) = headsRN n ++ headsR r := by cases n; rw [headsR]; rfl
theorem headsR_append (a b : List Node) : headsR (a ++ b) = headsR a ++ headsR b := by
  induction a with
  | nil => rw [headsR_nil]; rfl
  | cons n r ih => rw [List.cons_append, headsR_cons, headsR_cons, ih, List.append_assoc]
theorem headsR_take {l : List Node} {k : Nat} {n : Node} (h : l[k]? = some n) : headsR (l.take (k + 1)) = headsR (l.take k) ++ headsRN n := by
  obtain ⟨hk, rfl⟩ := List.getElem?_eq_some_iff.1 h
  rw [List.take_succ_eq_append_getElem hk, headsR_append, headsR_cons, headsR_nil, List.append_nil]
theorem headsR_len : ∀ (N : Nat) (l : List Node), SizeOf.sizeOf l ≤ N → (headsR l).length ≤ total l
  | 0, l, h => by cases l <;> simp at h
  | N + 1, [], _ => by rw [headsR_nil]; simp
  | N + 1, n :: r, h => by
    rw [headsR_cons, total_cons, List.length_append]
    have h1 := n.kids_lt
    simp only [List.cons.sizeOf_spec] at h
    have a := headsR_len N n.kids (by omega)
    have b := headsR_len N r (by omega)
    have c : (headsRN n).length ≤ 1 + (headsR n.kids).length := by unfold headsRN; split <;> try (split <;> simp)
                                                                   all_goals (try simp)
    omega
theorem headsR_le (l : List Node) : (headsR l).length ≤ total l := headsR_len _ l (Nat.le_refl _)

theorem heads_weight : ∀ (N : Nat) (l : List Node), SizeOf.sizeOf l ≤ N → ∀ n ∈ headsL l, weight n.kids ≤ weight l
  | 0, l, h => by cases l <;> simp at h
  | N + 1, [], _ => fun n hn => by rw [headsL_nil] at hn; cases hn
  | N + 1, x :: r, h => fun n hn => by
    have h1 := x.kids_lt
    simp only [List.cons.sizeOf_spec] at h
    rw [weight_cons]
    rw [headsL_cons, headsN] at hn
    rcases List.mem_append.1 hn with hn | hn
    · rcases List.mem_append.1 hn with hn | hn
      · split at hn
        · simp only [List.mem_singleton] at hn
          rw [hn]; omega
        · cases hn
      · have := heads_weight N x.kids (by omega) n hn; omega
    · have := heads_weight N r (by omega) n hn; omega
theorem kidless_mem : ∀ {l : List Node} (_ : Kidless l) {n : Node}, n ∈ l → Kidless n.kids := fun {l} h {n} hn => by
  obtain ⟨k, hk⟩ := List.mem_iff_getElem?.1 hn
  exact (h.at_ hk).2
theorem kidless_tail : ∀ {x : Node} {r : List Node}, Kidless (x :: r) → Kidless r
  | .mk _ _ _ _ _ _, r, h => by
    simp only [Kidless] at h
    exact h.2.2
theorem heads_kidless : ∀ (N : Nat) (l : List Node), SizeOf.sizeOf l ≤ N → Kidless l → ∀ n ∈ headsL l, Kidless n.kids
  | 0, l, h, _ => by cases l <;> simp at h
  | N + 1, [], _, _ => fun n hn => by rw [headsL_nil] at hn; cases hn
  | N + 1, x :: r, h, hk => fun n hn => by
    have h1 := x.kids_lt
    simp only [List.cons.sizeOf_spec] at h
    rw [headsL_cons, headsN] at hn
    rcases List.mem_append.1 hn with hn | hn
    · rcases List.mem_append.1 hn with hn | hn
      · split at hn
        · simp only [List.mem_singleton] at hn
          rw [hn]; exact kidless_mem hk (by simp)
        · cases hn
      · exact heads_kidless N x.kids (by omega) (kidless_mem hk (by simp)) n hn
    · exact heads_kidless N r (by omega) (kidless_tail hk) n hn

/-- parents that have inlines alone, or no Kids -/
def noBlk (p : Int) : Bool := decide (p = 1 ∨ p = 2 ∨ p = 10 ∨ isInlineB p = true)
theorem perm_inline {k p : Int} (h : permittedB k p = true) (hp : noBlk p = true) : isInlineB k = true := by
  simp only [noBlk, decide_eq_true_eq] at hp
  unfold permittedB at h
  unfold isInlineB at *
  simp only [decide_eq_true_eq] at *
  have a1 : ¬ (p = 0 ∨ p = 4 ∨ p = 6) := by omega
  have a2 : ¬ p = 5 := by omega
  have a3 : ¬ p = 8 := by omega
  have a4 : ¬ p = 9 := by omega
  rw [if_neg a1, if_neg a2, if_neg a3, if_neg a4] at h
  split at h
  · simpa using h
  · cases h
theorem nodeErr_perm {n : Node} {p : Int} (h : nodeErr n p = 0) : permittedB n.kind p = true := by
  unfold nodeErr at h
  cases hp : permittedB n.kind p with
  | true => rfl
  | false => rw [hp] at h; simp at h
theorem nodesErr_at0 {n : Node} {r : List Node} {p : Int} (h : nodesErr (n :: r) p = 0) : nodeErr n p = 0 ∧ nodesErr n.kids n.kind = 0 ∧ nodesErr r p = 0 := by
  rw [nodesErr_cons] at h
  by_cases h1 : nodeErr n p = 0
  · rw [if_pos h1] at h
    by_cases h2 : nodesErr n.kids n.kind = 0
    · rw [if_pos h2] at h
      exact ⟨h1, h2, h⟩
    · rw [if_neg h2] at h; exact absurd h h2
  · rw [if_neg h1] at h; exact absurd h h1
theorem heads_none : ∀ (N : Nat) (l : List Node) (p : Int), SizeOf.sizeOf l ≤ N → noBlk p = true → nodesErr l p = 0 → headsL l = []
  | 0, l, _, h, _, _ => by cases l <;> simp at h
  | N + 1, [], _, _, _, _ => headsL_nil
  | N + 1, n :: r, p, h, hp, he => by
    have h1 := n.kids_lt
    simp only [List.cons.sizeOf_spec] at h
    obtain ⟨e1, e2, e3⟩ := nodesErr_at0 he
    have hi := perm_inline (nodeErr_perm e1) hp
    have hk : noBlk n.kind = true := by simp [noBlk, hi]
    rw [headsL_cons, heads_none N r p (by omega) hp e3, headsN, heads_none N n.kids n.kind (by omega) hk e2]
    have : n.kind ≠ 1 := by simp only [isInlineB, decide_eq_true_eq] at hi; omega
    rw [if_neg this]; rfl
theorem heads_same : ∀ (N : Nat) (l : List Node) (p : Int), SizeOf.sizeOf l ≤ N → nodesErr l p = 0 → headsR l = headsL l
  | 0, l, _, h, _ => by cases l <;> simp at h
  | N + 1, [], _, _, _ => by rw [headsR_nil, headsL_nil]
  | N + 1, n :: r, p, h, he => by
    have h1 := n.kids_lt
    simp only [List.cons.sizeOf_spec] at h
    obtain ⟨e1, e2, e3⟩ := nodesErr_at0 he
    rw [headsL_cons, headsR_cons, heads_same N r p (by omega) e3]
    congr 1
    unfold headsRN headsN
    by_cases hk : n.kind = 1
    · rw [if_pos hk, if_pos hk, heads_none N n.kids n.kind (by omega) (by simp [noBlk, hk]) e2, List.append_nil]
    · rw [if_neg hk, if_neg hk, List.nil_append]
      by_cases hb : isBlockB n.kind = true
      · rw [if_pos hb]; exact heads_same N n.kids n.kind (by omega) e2
      · rw [if_neg hb]
        have hr := permitted_range (nodeErr_perm e1)
        have hi : isInlineB n.kind = true := by
          simp only [isBlockB, decide_eq_true_eq] at hb
          simp only [isInlineB, decide_eq_true_eq]; omega
        rw [heads_none N n.kids n.kind (by omega) (by simp [noBlk, hi]) e2]
theorem doc_heads {l : List Node} (h : docErr l = 0) : headsR l = headsL l := by
  unfold docErr at h
  by_cases h1 : 4000 < total l
  · rw [if_pos h1] at h; cases h
  · rw [if_neg h1] at h
    by_cases h2 : deepB l 0 0 = true
    · rw [if_pos h2] at h; cases h
    · rw [if_neg h2] at h
      exact heads_same _ l 0 (Nat.le_refl _) h

/-- a name with a number -/
def nm (b : List UInt8) (k : Nat) : List UInt8 := b ++ 45 :: Lib.itoa (k : Int)
theorem dec_ne (u : Nat) : Lib.decDigits u ≠ [] := fun h => by
  have h1 := Lib.decDigits_length u
  have h2 := Lib.nDigits_pos u
  rw [h] at h1
  simp at h1
  omega
theorem dec_inj : ∀ u v : Nat, Lib.decDigits u = Lib.decDigits v → u = v := by
  intro u
  induction u using Nat.strongRecOn with
  | _ u ih =>
    intro v h
    have du : Lib.decDigits u = if h : u < 10 then [UInt8.ofNat (48 + u)] else Lib.decDigits (u / 10) ++ [UInt8.ofNat (48 + u % 10)] := by rw [Lib.decDigits]
    have dv : Lib.decDigits v = if h : v < 10 then [UInt8.ofNat (48 + v)] else Lib.decDigits (v / 10) ++ [UInt8.ofNat (48 + v % 10)] := by rw [Lib.decDigits]
    rw [du, dv] at h
    by_cases hu : u < 10
    · rw [dif_pos hu] at h
      by_cases hv : v < 10
      · rw [dif_pos hv] at h
        have h1 := congrArg UInt8.toNat (List.cons.inj h).1
        simp only [UInt8.toNat_ofNat'] at h1
        omega
      · rw [dif_neg hv] at h
        have h1 := congrArg List.length h
        have h2 := List.length_pos_iff.2 (dec_ne (v / 10))
        simp only [List.length_append, List.length_cons, List.length_nil] at h1
        omega
    · rw [dif_neg hu] at h
      by_cases hv : v < 10
      · rw [dif_pos hv] at h
        have h1 := congrArg List.length h
        have h2 := List.length_pos_iff.2 (dec_ne (u / 10))
        simp only [List.length_append, List.length_cons, List.length_nil] at h1
        omega
      · rw [dif_neg hv] at h
        obtain ⟨h1, h2⟩ := List.append_inj' h rfl
        have h3 := congrArg UInt8.toNat (List.cons.inj h2).1
        simp only [UInt8.toNat_ofNat'] at h3
        have h4 := ih (u / 10) (by omega) (v / 10) h1
        omega
theorem nm_inj {b : List UInt8} {j k : Nat} (h : nm b j = nm b k) : j = k := by
  have h1 := List.append_cancel_left h
  have h2 := (List.cons.inj h1).2
  rw [Lib.itoa_nonneg, Lib.itoa_nonneg] at h2
  exact dec_inj _ _ h2
theorem nodup_sub {α : Type} [DecidableEq α] : ∀ {l m : List α}, l.Nodup → (∀ x ∈ l, x ∈ m) → l.length ≤ m.length
  | [], _, _, _ => Nat.zero_le _
  | a :: l, m, hn, h => by
    obtain ⟨h1, h2⟩ := List.nodup_cons.1 hn
    have ha := h a (by simp)
    have := nodup_sub (l := l) (m := m.erase a) h2 (fun x hx => (List.mem_erase_of_ne (fun e : x = a => h1 (by rw [← e]; exact hx))).2 (h x (by simp [hx])))
    rw [List.length_erase_of_mem ha] at this
    have := List.length_pos_of_mem ha
    simp only [List.length_cons]
    omega
/-- the least number from k on whose name is free, f at most -/
def freeFrom (L : List (List UInt8)) (b : List UInt8) : Nat → Nat → Nat
  | 0, k => k
  | f + 1, k => if nm b k ∈ L then freeFrom L b f (k + 1) else k
def freeK (L : List (List UInt8)) (b : List UInt8) : Nat := freeFrom L b (L.length + 1) 2
theorem freeFrom_spec (L : List (List UInt8)) (b : List UInt8) : ∀ (f k : Nat), (∃ j, k ≤ j ∧ j < k + f ∧ nm b j ∉ L) → k ≤ freeFrom L b f k ∧ freeFrom L b f k < k + f ∧ nm b (freeFrom L b f k) ∉ L ∧ ∀ j, k ≤ j → j < freeFrom L b f k → nm b j ∈ L
  | 0, k, ⟨j, h1, h2, _⟩ => absurd h1 (by omega)
  | f + 1, k, ⟨j, h1, h2, h3⟩ => by
    rw [freeFrom]
    by_cases hk : nm b k ∈ L
    · rw [if_pos hk]
      have hjk : j ≠ k := fun e => h3 (e ▸ hk)
      obtain ⟨a1, a2, a3, a4⟩ := freeFrom_spec L b f (k + 1) ⟨j, by omega, by omega, h3⟩
      refine ⟨by omega, by omega, a3, fun i hi1 hi2 => ?_⟩
      by_cases hik : i = k
      · rw [hik]; exact hk
      · exact a4 i (by omega) hi2
    · rw [if_neg hk]
      exact ⟨Nat.le_refl _, by omega, hk, fun i hi1 hi2 => absurd hi1 (by omega)⟩
theorem freeK_spec (L : List (List UInt8)) (b : List UInt8) : 2 ≤ freeK L b ∧ freeK L b ≤ L.length + 2 ∧ nm b (freeK L b) ∉ L ∧ ∀ j, 2 ≤ j → j < freeK L b → nm b j ∈ L := by
  have hex : ∃ j, 2 ≤ j ∧ j < 2 + (L.length + 1) ∧ nm b j ∉ L := by
    refine Classical.byContradiction (fun hno => ?_)
    have hall : ∀ j, 2 ≤ j → j < 2 + (L.length + 1) → nm b j ∈ L := fun j h1 h2 => Classical.byContradiction (fun h3 => hno ⟨j, h1, h2, h3⟩)
    have h1 := nodup_sub (l := (List.range (L.length + 1)).map (fun i => nm b (i + 2))) (m := L)
      (List.pairwise_map.2 (List.nodup_range.imp (fun {i j} hij he => hij (by have := nm_inj he; omega))))
      (fun x hx => by
        obtain ⟨i, hi, rfl⟩ := List.mem_map.1 hx
        exact hall _ (by omega) (by have := List.mem_range.1 hi; omega))
    simp at h1
    omega
  obtain ⟨a1, a2, a3, a4⟩ := freeFrom_spec L b _ _ hex
  exact ⟨a1, by unfold freeK; omega, a3, a4⟩
theorem freeK_is {L : List (List UInt8)} {b : List UInt8} {k : Nat} (h1 : 2 ≤ k) (h2 : nm b k ∉ L) (h3 : ∀ j, 2 ≤ j → j < k → nm b j ∈ L) : freeK L b = k := by
  obtain ⟨a1, a2, a3, a4⟩ := freeK_spec L b
  rcases Nat.lt_trichotomy (freeK L b) k with h | h | h
  · exact absurd (h3 _ a1 h) a3
  · exact h
  · exact absurd (a4 k h1 h) h2

def secB : List UInt8 := [115, 101, 99, 116, 105, 111, 110]
def baseB (s : List UInt8) : List UInt8 := if s = [] then secB else s
/-- the id that comes next -/
def fresh (L : List (List UInt8)) (b : List UInt8) : List UInt8 := if b ∈ L then nm b (freeK L b) else b
def slugN (n : Node) : List UInt8 := slugEnd (slugF (plainL 0 n.kids))
theorem slugEnd_len (o : List UInt8) : (slugEnd o).length ≤ o.length := by
  unfold slugEnd
  split
  · rw [List.length_dropLast]; omega
  · exact Nat.le_refl _
theorem slugN_len (n : Node) : (slugN n).length ≤ weight n.kids := by
  have h1 := slugF_len (plainL 0 n.kids) _ (Nat.le_refl _)
  rw [List.take_length] at h1
  exact Nat.le_trans (slugEnd_len _) (Nat.le_trans h1 (plain_len _ _))
theorem baseB_len (s : List UInt8) : (baseB s).length ≤ s.length + 7 := by
  unfold baseB
  split
  · simp [secB]
  · omega
def idsL (hs : List Node) : List (List UInt8) := hs.foldl (fun L n => L ++ [fresh L (baseB (slugN n))]) []
theorem idsL_take {l : List Node} {k : Nat} {n : Node} (h : l[k]? = some n) : idsL (l.take (k + 1)) = idsL (l.take k) ++ [fresh (idsL (l.take k)) (baseB (slugN n))] := by
  obtain ⟨hk, rfl⟩ := List.getElem?_eq_some_iff.1 h
  rw [idsL, List.take_succ_eq_append_getElem hk, List.foldl_append]; rfl
theorem idsL_len : ∀ (hs : List Node), (idsL hs).length = hs.length := by
  intro hs
  have key : ∀ k, k ≤ hs.length → (idsL (hs.take k)).length = k := by
    intro k
    induction k with
    | zero => intro _; rfl
    | succ k ih =>
      intro hk
      rw [idsL_take (List.getElem?_eq_getElem (by omega)), List.length_append, ih (by omega)]; rfl
  have := key hs.length (Nat.le_refl _)
  rwa [List.take_length] at this
theorem idsL_pre {l : List Node} {k j : Nat} (hj : j < k) (hk : k ≤ l.length) : (idsL l)[j]? = (idsL (l.take k))[j]? := by
  have key : ∀ m, k ≤ m → m ≤ l.length → (idsL (l.take m))[j]? = (idsL (l.take k))[j]? := by
    intro m hm
    induction m with
    | zero => intro _; rw [show k = 0 by omega] at hj; omega
    | succ m ih =>
      intro hml
      by_cases he : k = m + 1
      · rw [he]
      · rw [idsL_take (List.getElem?_eq_getElem (by omega)), List.getElem?_append_left (by rw [idsL_len, List.length_take]; omega)]
        exact ih (by omega) (by omega)
  have := key l.length hk (Nat.le_refl _)
  rwa [List.take_length] at this

/-- what the map of used ids holds -/
def usedF (L : List (List UInt8)) : List UInt8 → Option Bool := fun s => if s ∈ L then some true else none
theorem usedF_put (L : List (List UInt8)) (s : List UInt8) (put : List UInt8 → Option Bool) (h : put = fun t => if t = s then some true else usedF L t) : put = usedF (L ++ [s]) := by
  rw [h]
  funext t
  unfold usedF
  by_cases h1 : t = s
  · simp [h1]
  · simp [h1]
/-- what the map of next numbers holds -/
def NextOk (L : List (List UInt8)) (g : List UInt8 → Option Int) : Prop := ∀ b k, g b = some k → ∃ m : Nat, k = (m : Int) ∧ 2 ≤ m ∧ m ≤ L.length + 2 ∧ ∀ j, 2 ≤ j → j < m → nm b j ∈ L
theorem NextOk.start : NextOk [] (fun _ => none) := fun b k h => by cases h
theorem NextOk.more {L : List (List UInt8)} {g : List UInt8 → Option Int} (h : NextOk L g) (s : List UInt8) : NextOk (L ++ [s]) g := fun b k hb => by
  obtain ⟨m, h1, h2, h3, h4⟩ := h b k hb
  exact ⟨m, h1, h2, by rw [List.length_append]; omega, fun j h5 h6 => List.mem_append_left _ (h4 j h5 h6)⟩
theorem NextOk.put {L : List (List UInt8)} {g g' : List UInt8 → Option Int} (h : NextOk L g) (b : List UInt8) (hg : g' = fun t => if t = b then some ((freeK L b : Nat) : Int) else g t) : NextOk L g' := fun c k hc => by
  rw [hg] at hc
  by_cases h1 : c = b
  · simp only [h1, if_true, Option.some.injEq] at hc
    obtain ⟨a1, a2, a3, a4⟩ := freeK_spec L b
    exact ⟨freeK L b, hc.symm, a1, a2, fun j h5 h6 => by rw [h1]; exact a4 j h5 h6⟩
  · simp only [h1, if_false] at hc
    exact h c k hc
/-- where the search starts -/
theorem NextOk.from_ {L : List (List UInt8)} {g : List UInt8 → Option Int} (h : NextOk L g) (b : List UInt8) : ∃ m : Nat, max ((g b).getD 0) 2 = (m : Int) ∧ 2 ≤ m ∧ m ≤ freeK L b := by
  cases hb : g b with
  | none => exact ⟨2, by decide, by omega, (freeK_spec L b).1⟩
  | some k =>
    obtain ⟨m, h1, h2, h3, h4⟩ := h b k hb
    refine ⟨m, by simp only [Option.getD_some]; omega, h2, ?_⟩
    rcases Nat.lt_or_ge (freeK L b) m with h5 | h5
    · exact absurd (h4 _ (freeK_spec L b).1 h5) (freeK_spec L b).2.2.1
    · exact h5

/-- the entries of the contents -/
def entL (hs : List Node) (ids : List (List UInt8)) : List Entry := (hs.zip ids).map (fun p => ⟨p.1.level, ⟨p.2.toArray⟩, ⟨(plainL 0 p.1.kids).toArray⟩⟩)

end Go.Proofs.YtikijmjcmpkkdaaGreatDoor
