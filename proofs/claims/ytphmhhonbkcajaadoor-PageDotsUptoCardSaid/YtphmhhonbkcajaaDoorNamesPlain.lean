/-
  Names, rising, each once: what page.Shortcodes and mastref1.NamesOf compute, with no program in sight.
-/
import Derived.Test.YtphmhhonbkcajaaDoorBase
namespace Go.Proofs.YtphmhhonbkcajaaDoor

abbrev Str := List UInt8
/-- Go's order on strings -/
abbrev leS : Str → Str → Bool := fun x y => decide (x ≤ y)

theorem bytesLess_lt : ∀ (x y : List UInt8), Op.bytesLess x y = decide (x < y)
  | [], [] => by simp [Op.bytesLess]
  | _ :: _, [] => by simp [Op.bytesLess]
  | [], _ :: _ => by simp [Op.bytesLess]
  | a :: x, b :: y => by
    rw [Op.bytesLess, bytesLess_lt x y, Bool.eq_iff_iff]
    simp [List.cons_lt_cons_iff]

theorem lt_trich (a b : Str) : a < b ∨ a = b ∨ b < a := by
  rcases List.le_total a b with h | h
  · by_cases e : a = b
    · exact Or.inr (Or.inl e)
    · left
      exact Decidable.byContradiction fun h2 => e (List.le_antisymm h (List.not_lt.1 h2))
  · by_cases e : a = b
    · exact Or.inr (Or.inl e)
    · right; right
      exact Decidable.byContradiction fun h2 => e (List.le_antisymm (List.not_lt.1 h2) h)
theorem str_irrefl (a : Str) : ¬ a < a := List.lt_irrefl a

/-- neighbours that are equal, once; p is the one before -/
def ddF : Option Str → List Str → List Str
  | _, [] => []
  | p, a :: r => if p = some a then ddF (some a) r else a :: ddF (some a) r
theorem ddF_nil (p : Option Str) : ddF p [] = [] := by rw [ddF]
theorem ddF_cons (p : Option Str) (a : Str) (r : List Str) : ddF p (a :: r) = if p = some a then ddF (some a) r else a :: ddF (some a) r := by rw [ddF]
theorem ddF_len : ∀ (p : Option Str) (l : List Str), (ddF p l).length ≤ l.length
  | p, [] => by simp [ddF_nil]
  | p, a :: r => by
    have := ddF_len (some a) r
    rw [ddF_cons]
    split
    · simp; omega
    · simp; omega

theorem ddF_spec : ∀ (l : List Str) (p : Option Str), l.Pairwise (· ≤ ·) → (∀ q, p = some q → ∀ x ∈ l, q ≤ x) →
    (ddF p l).Pairwise (· < ·) ∧ (∀ x, x ∈ ddF p l ↔ x ∈ l ∧ p ≠ some x)
  | [], p, _, _ => ⟨by rw [ddF_nil]; exact List.Pairwise.nil, fun x => by rw [ddF_nil]; simp⟩
  | a :: r, p, h, hp => by
    rw [List.pairwise_cons] at h
    obtain ⟨i1, i2⟩ := ddF_spec r (some a) h.2 (fun q hq x hx => by cases hq; exact h.1 x hx)
    rw [ddF_cons]
    by_cases e : p = some a
    · rw [if_pos e]
      refine ⟨i1, fun x => ?_⟩
      rw [i2 x, e]
      constructor
      · rintro ⟨h1, h2⟩; exact ⟨List.mem_cons_of_mem _ h1, h2⟩
      · rintro ⟨h1, h2⟩
        refine ⟨?_, h2⟩
        rcases List.mem_cons.1 h1 with rfl | h1
        · exact absurd rfl h2
        · exact h1
    · rw [if_neg e]
      refine ⟨List.pairwise_cons.2 ⟨fun x hx => ?_, i1⟩, fun x => ?_⟩
      · obtain ⟨h1, h2⟩ := (i2 x).1 hx
        have h3 := h.1 x h1
        rcases lt_trich a x with h4 | h4 | h4
        · exact h4
        · subst h4; exact absurd rfl h2
        · exact absurd h4 (List.not_lt.2 h3)
      · rw [List.mem_cons, List.mem_cons]
        constructor
        · rintro (rfl | h1)
          · exact ⟨Or.inl rfl, e⟩
          · obtain ⟨h2, h3⟩ := (i2 x).1 h1
            refine ⟨Or.inr h2, fun h4 => ?_⟩
            have h5 := hp x h4 a (List.mem_cons_self ..)
            have h6 := h.1 x h2
            exact h3 (congrArg _ (List.le_antisymm h6 h5))
        · rintro ⟨rfl | h1, h2⟩
          · exact Or.inl rfl
          · by_cases h3 : x = a
            · exact Or.inl h3
            · exact Or.inr ((i2 x).2 ⟨h1, fun h4 => h3 (by cases h4; rfl)⟩)

/-- rising, each once -/
def canon (l : List Str) : List Str := ddF none (l.mergeSort leS)
theorem leS_tr : ∀ a b c : Str, leS a b = true → leS b c = true → leS a c = true := fun a b c h1 h2 => by simp only [leS, decide_eq_true_eq] at *; exact List.le_trans h1 h2
theorem leS_to : ∀ a b : Str, (leS a b || leS b a) = true := fun a b => by simp only [leS, Bool.or_eq_true, decide_eq_true_eq]; exact List.le_total a b
theorem sorted_le (l : List Str) : (l.mergeSort leS).Pairwise (· ≤ ·) := (List.pairwise_mergeSort leS_tr leS_to l).imp fun h => by simpa using h
theorem canon_spec (l : List Str) : (canon l).Pairwise (· < ·) ∧ ∀ x, x ∈ canon l ↔ x ∈ l := by
  obtain ⟨h1, h2⟩ := ddF_spec (l.mergeSort leS) none (sorted_le l) (fun q hq => by cases hq)
  refine ⟨h1, fun x => ?_⟩
  unfold canon
  rw [h2 x]
  simp [List.mem_mergeSort]
theorem canon_len (l : List Str) : (canon l).length ≤ l.length := by
  have := ddF_len none (l.mergeSort leS)
  rw [List.length_mergeSort] at this
  exact this

theorem rising_unique : ∀ {a b : List Str}, a.Pairwise (· < ·) → b.Pairwise (· < ·) → (∀ x, x ∈ a ↔ x ∈ b) → a = b
  | [], [], _, _, _ => rfl
  | [], y :: r, _, _, h => absurd ((h y).2 (List.mem_cons_self ..)) (by simp)
  | x :: l, [], _, _, h => absurd ((h x).1 (List.mem_cons_self ..)) (by simp)
  | x :: l, y :: r, ha, hb, h => by
    rw [List.pairwise_cons] at ha hb
    have e : x = y := by
      rcases lt_trich x y with h1 | h1 | h1
      · rcases List.mem_cons.1 ((h x).1 (List.mem_cons_self ..)) with h2 | h2
        · exact h2
        · exact absurd (List.lt_trans (hb.1 x h2) h1) (str_irrefl y)
      · exact h1
      · rcases List.mem_cons.1 ((h y).2 (List.mem_cons_self ..)) with h2 | h2
        · exact h2.symm
        · exact absurd (List.lt_trans (ha.1 y h2) h1) (str_irrefl x)
    subst e
    congr 1
    refine rising_unique ha.2 hb.2 fun z => ?_
    have hz := h z
    rw [List.mem_cons, List.mem_cons] at hz
    constructor
    · intro h1
      rcases hz.1 (Or.inr h1) with rfl | h2
      · exact absurd (ha.1 z h1) (str_irrefl z)
      · exact h2
    · intro h1
      rcases hz.2 (Or.inr h1) with rfl | h2
      · exact absurd (hb.1 z h1) (str_irrefl z)
      · exact h2
theorem canon_of {a m : List Str} (h : a.Pairwise (· < ·)) (hm : ∀ x, x ∈ a ↔ x ∈ m) : a = canon m :=
  rising_unique h (canon_spec m).1 fun x => (hm x).trans ((canon_spec m).2 x).symm
theorem canon_same {l m : List Str} (h : ∀ x, x ∈ l ↔ x ∈ m) : canon l = canon m :=
  canon_of (canon_spec l).1 fun x => ((canon_spec l).2 x).trans (h x)
theorem canon_nil : canon [] = [] := by simp [canon, ddF_nil]

/-- one inserted in order, once -/
def insS (s : Str) : List Str → List Str
  | [] => [s]
  | a :: r => if a < s then a :: insS s r else if a = s then a :: r else s :: a :: r
theorem insS_spec (s : Str) : ∀ {l : List Str}, l.Pairwise (· < ·) → (insS s l).Pairwise (· < ·) ∧ ∀ x, x ∈ insS s l ↔ x ∈ l ∨ x = s
  | [], _ => ⟨by simp [insS], fun x => by simp [insS]⟩
  | a :: r, h => by
    rw [List.pairwise_cons] at h
    obtain ⟨i1, i2⟩ := insS_spec s h.2
    unfold insS
    by_cases h1 : a < s
    · rw [if_pos h1]
      refine ⟨List.pairwise_cons.2 ⟨fun x hx => ?_, i1⟩, fun x => ?_⟩
      · rcases (i2 x).1 hx with h2 | rfl
        · exact h.1 x h2
        · exact h1
      · rw [List.mem_cons, i2 x, List.mem_cons, or_assoc]
    · rw [if_neg h1]
      by_cases h2 : a = s
      · rw [if_pos h2]
        subst h2
        exact ⟨List.pairwise_cons.2 h, fun x => by simp only [List.mem_cons]; constructor; exact Or.inl; rintro (h | rfl); exact h; exact Or.inl rfl⟩
      · rw [if_neg h2]
        have h3 : s < a := by
          rcases lt_trich a s with h4 | h4 | h4
          · exact absurd h4 h1
          · exact absurd h4 h2
          · exact h4
        refine ⟨List.pairwise_cons.2 ⟨fun x hx => ?_, List.pairwise_cons.2 h⟩, fun x => ?_⟩
        · rcases List.mem_cons.1 hx with rfl | h4
          · exact h3
          · exact List.lt_trans h3 (h.1 x h4)
        · rw [List.mem_cons, List.mem_cons, or_comm]
theorem canon_ins (l : List Str) (s : Str) : insS s (canon l) = canon (l ++ [s]) := by
  obtain ⟨h1, h2⟩ := canon_spec l
  obtain ⟨i1, i2⟩ := insS_spec s h1
  refine canon_of i1 fun x => ?_
  rw [i2 x, h2 x]
  simp
theorem insS_at {s : Str} : ∀ {l : List Str} {k : Nat}, k ≤ l.length → (∀ (j : Nat) (a : Str), l[j]? = some a → j < k → a < s) → (∀ a, l[k]? = some a → ¬ a < s) →
    insS s l = if l[k]? = some s then l else l.take k ++ (s :: l.drop k)
  | [], k, hk, _, _ => by simp [insS]
  | a :: r, 0, _, _, h2 => by
    have h3 := h2 a rfl
    unfold insS
    rw [if_neg h3]
    simp only [List.getElem?_cons_zero, Option.some.injEq, List.take_zero, List.drop_zero, List.nil_append]
  | a :: r, k + 1, hk, h1, h2 => by
    have h3 := h1 0 a rfl (by omega)
    unfold insS
    rw [if_pos h3, insS_at (l := r) (k := k) (by simpa using hk) (fun j b hb hj => h1 (j + 1) b hb (by omega)) (fun b hb => h2 b hb)]
    simp only [List.getElem?_cons_succ]
    split
    · rfl
    · simp

/-- a part of a body: its name and what is before its end -/
inductive Prt
  | mk (name : Str) (kids : List Prt)
def Prt.name : Prt → Str
  | .mk n _ => n
def Prt.kids : Prt → List Prt
  | .mk _ k => k
theorem Prt.kids_lt (p : Prt) : SizeOf.sizeOf p.kids < SizeOf.sizeOf p := by cases p; simp only [Prt.kids, Prt.mk.sizeOf_spec]; omega
/-- a name, where there is one -/
def oneN (n : Str) : List Str := if n = [] then [] else [n]
/-- all names -/
def namesT : List Prt → List Str
  | [] => []
  | .mk n ks :: r => oneN n ++ namesT ks ++ namesT r
def namesP (p : Prt) : List Str := oneN p.name ++ namesT p.kids
theorem namesT_nil : namesT [] = [] := by rw [namesT]
theorem namesT_cons (p : Prt) (r : List Prt) : namesT (p :: r) = namesP p ++ namesT r := by cases p; rw [namesT]; rfl
theorem namesT_append (a b : List Prt) : namesT (a ++ b) = namesT a ++ namesT b := by
  induction a with
  | nil => rw [namesT_nil]; rfl
  | cons n r ih => rw [List.cons_append, namesT_cons, namesT_cons, ih, List.append_assoc]
theorem namesT_take {l : List Prt} {k : Nat} {n : Prt} (h : l[k]? = some n) : namesT (l.take (k + 1)) = namesT (l.take k) ++ namesP n := by
  obtain ⟨hk, rfl⟩ := List.getElem?_eq_some_iff.1 h
  rw [List.take_succ_eq_append_getElem hk, namesT_append, namesT_cons, namesT_nil, List.append_nil]
/-- how many parts -/
def totalP : List Prt → Nat
  | [] => 0
  | .mk _ ks :: r => 1 + totalP ks + totalP r
theorem totalP_nil : totalP [] = 0 := by rw [totalP]
theorem totalP_cons (p : Prt) (r : List Prt) : totalP (p :: r) = 1 + totalP p.kids + totalP r := by cases p; rw [totalP]; rfl
theorem totalP_append (a b : List Prt) : totalP (a ++ b) = totalP a + totalP b := by
  induction a with
  | nil => rw [totalP_nil]; simp
  | cons n r ih => rw [List.cons_append, totalP_cons, totalP_cons, ih]; omega
theorem totalP_take {l : List Prt} {k : Nat} {n : Prt} (h : l[k]? = some n) : totalP (l.take (k + 1)) = totalP (l.take k) + (1 + totalP n.kids) := by
  obtain ⟨hk, rfl⟩ := List.getElem?_eq_some_iff.1 h
  rw [List.take_succ_eq_append_getElem hk, totalP_append, totalP_cons, totalP_nil]; omega
theorem totalP_le (l : List Prt) (k : Nat) : totalP (l.take k) ≤ totalP l := by
  have := totalP_append (l.take k) (l.drop k)
  rw [List.take_append_drop] at this
  omega
theorem totalP_len (l : List Prt) : l.length ≤ totalP l := by
  induction l with
  | nil => simp
  | cons p r ih => rw [totalP_cons, List.length_cons]; omega
theorem namesT_lenN : ∀ (N : Nat) (l : List Prt), SizeOf.sizeOf l ≤ N → (namesT l).length ≤ totalP l
  | 0, l, h => by cases l <;> simp at h
  | N + 1, [], _ => by rw [namesT_nil]; simp
  | N + 1, n :: r, h => by
    rw [namesT_cons, totalP_cons, List.length_append]
    have h1 := n.kids_lt
    simp only [List.cons.sizeOf_spec] at h
    have a := namesT_lenN N n.kids (by omega)
    have b := namesT_lenN N r (by omega)
    have c : (namesP n).length ≤ 1 + (namesT n.kids).length := by unfold namesP oneN; split <;> simp <;> omega
    omega
theorem namesT_len (l : List Prt) : (namesT l).length ≤ totalP l := namesT_lenN _ l (Nat.le_refl _)
theorem prt_at {N : Nat} {l : List Prt} {k : Nat} {n : Prt} (hN : SizeOf.sizeOf l ≤ N + 1) (h : l[k]? = some n) : SizeOf.sizeOf n.kids ≤ N := by
  have h1 := n.kids_lt
  have h2 := List.sizeOf_lt_of_mem (List.mem_of_getElem? h)
  omega
/-- the names of a body, rising, each once -/
def namesC (l : List Prt) : List Str := canon (namesT l)
theorem namesC_len (l : List Prt) : (namesC l).length ≤ totalP l := Nat.le_trans (canon_len _) (namesT_len l)
/-- behind one name -/
theorem canon_name (l : List Str) (n : Str) : canon (l ++ oneN n) = if n = [] then canon l else insS n (canon l) := by
  unfold oneN
  split
  · rw [List.append_nil]
  · rw [canon_ins]
/-- behind one more name of a list -/
theorem canon_take {l c : List Str} {j : Nat} {s : Str} (h : c[j]? = some s) : insS s (canon (l ++ c.take j)) = canon (l ++ c.take (j + 1)) := by
  obtain ⟨hk, rfl⟩ := List.getElem?_eq_some_iff.1 h
  rw [canon_ins, List.take_succ_eq_append_getElem hk, List.append_assoc]
theorem canon_inner (l : List Str) (p : Prt) : canon (l ++ oneN p.name ++ namesC p.kids) = canon (l ++ namesP p) := by
  refine canon_same fun x => ?_
  unfold namesC namesP
  simp only [List.mem_append, (canon_spec _).2 x]
  rw [or_assoc]
/-- names that are gathered: as many as the parts at most, and the same ones -/
def Gathers (o : List Str) (l : List Prt) : Prop := o.length ≤ totalP l ∧ ∀ x, x ∈ o ↔ x ∈ namesT l
theorem Gathers.nil : Gathers [] [] := ⟨Nat.zero_le _, fun x => by rw [namesT_nil]⟩
theorem Gathers.step {o : List Str} {l : List Prt} {k : Nat} {n : Prt} (h : Gathers o (l.take k)) (hn : l[k]? = some n) : Gathers (o ++ oneN n.name ++ namesC n.kids) (l.take (k + 1)) := by
  refine ⟨?_, fun x => ?_⟩
  · rw [totalP_take hn]
    have h1 := h.1
    have h2 := namesC_len n.kids
    have h3 : (oneN n.name).length ≤ 1 := by unfold oneN; split <;> simp
    simp only [List.length_append]
    omega
  · rw [namesT_take hn]
    unfold namesC namesP
    simp only [List.mem_append, (canon_spec _).2 x, h.2 x]
    rw [or_assoc]
theorem Gathers.canon {o : List Str} {l : List Prt} (h : Gathers o l) : canon o = namesC l := canon_same h.2

end Go.Proofs.YtphmhhonbkcajaaDoor
