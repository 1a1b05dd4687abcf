/-
  The plain law of a shortcode's line: a reader that goes from left to right, and one that cuts the line into words first, agree.
-/
import Derived.Test.YtgbmlpidaeefoaaBase
namespace Go.Proofs.Ytgbmlpidaeefoaa

def smallC (c : UInt8) : Bool := decide (97 ≤ c.toNat) && decide (c.toNat ≤ 122)
def upperC (c : UInt8) : Bool := decide (65 ≤ c.toNat) && decide (c.toNat ≤ 90)
def digitC (c : UInt8) : Bool := decide (48 ≤ c.toNat) && decide (c.toNat ≤ 57)
def nameC (c : UInt8) : Bool := smallC c || digitC c || decide (c.toNat = 45)
def bareC (c : UInt8) : Bool := smallC c || upperC c || digitC c || decide (c.toNat = 45) || decide (c.toNat = 95) || decide (c.toNat = 46) || decide (c.toNat = 47) || decide (c.toNat = 58)
def argC (c : UInt8) : Bool := smallC c || digitC c || decide (c.toNat = 95)

def codeNameL (l : List UInt8) : Bool := decide (1 ≤ l.length) && decide (l.length ≤ 20) && l.all nameC
def argNameL : List UInt8 → Bool
  | [] => false
  | c :: r => smallC c && decide (r.length + 1 ≤ 20) && r.all argC
def bareL : List UInt8 → Bool
  | [] => false
  | c :: r => decide (c.toNat ≠ 58) && (c :: r).all bareC

/-- one byte taken -/
def take1 (x : UInt8) : List UInt8 → Option (List UInt8)
  | [] => none
  | c :: r => if c = x then some r else none

/-- what is between quotation marks, and what follows -/
def quoteF : List UInt8 → Option (List UInt8 × List UInt8)
  | [] => none
  | c :: r =>
    if c.toNat < 32 then none
    else if c = 34 then some ([], r)
    else if c = 92 then
      match r with
      | [] => none
      | d :: r' => if d = 34 ∨ d = 92 then (quoteF r').map (fun x => (d :: x.1, x.2)) else none
    else (quoteF r).map (fun x => (c :: x.1, x.2))

/-- the same of a string without its quotation marks -/
def innerF : List UInt8 → Option (List UInt8)
  | [] => some []
  | c :: r =>
    if c.toNat < 32 then none
    else if c = 34 then none
    else if c = 92 then
      match r with
      | [] => none
      | d :: r' => if d = 34 ∨ d = 92 then (innerF r').map (d :: ·) else none
    else (innerF r).map (c :: ·)

/-- an argument, and what follows -/
def argF (s : List UInt8) : Option ((List UInt8 × List UInt8) × List UInt8) :=
  match take1 34 s with
  | some r => (quoteF r).map fun x => (([], x.1), x.2)
  | none =>
    match take1 61 (s.dropWhile bareC) with
    | none => if bareL (s.takeWhile bareC) then some (([], s.takeWhile bareC), s.dropWhile bareC) else none
    | some r =>
      if argNameL (s.takeWhile bareC) then
        match take1 34 r with
        | some r' => (quoteF r').map fun x => ((s.takeWhile bareC, x.1), x.2)
        | none => if bareL (r.takeWhile bareC) then some ((s.takeWhile bareC, r.takeWhile bareC), r.dropWhile bareC) else none
      else none

/-- words: cut at spaces outside of quotation marks -/
def wordsF : Bool → List UInt8 → List UInt8 → List (List UInt8)
  | _, cur, [] => [cur]
  | q, cur, c :: r =>
    if q = true ∧ c = 92 then
      match r with
      | [] => [cur ++ [c]]
      | d :: r' => wordsF q (cur ++ [c, d]) r'
    else if c = 34 then wordsF (!q) (cur ++ [c]) r
    else if c = 32 ∧ q = false then cur :: wordsF false [] r
    else wordsF q (cur ++ [c]) r

def valF (s : List UInt8) : Option (List UInt8) :=
  if bareL s then some s
  else match take1 34 s with
    | none => none
    | some t => if t.getLast? = some 34 then innerF t.dropLast else none

def wordF (t : List UInt8) : Option (List UInt8 × List UInt8) :=
  if (t.takeWhile fun c => decide (c ≠ 61)).length < t.length ∧ argNameL (t.takeWhile fun c => decide (c ≠ 61)) = true
  then (valF (t.drop ((t.takeWhile fun c => decide (c ≠ 61)).length + 1))).map fun v => (t.takeWhile fun c => decide (c ≠ 61), v)
  else (valF t).map fun v => ([], v)

theorem quoteF_cons (c : UInt8) (r : List UInt8) : quoteF (c :: r) = if c.toNat < 32 then none else if c = 34 then some ([], r) else if c = 92 then
      (match r with
      | [] => none
      | d :: r' => if d = 34 ∨ d = 92 then (quoteF r').map (fun x => (d :: x.1, x.2)) else none)
    else (quoteF r).map (fun x => (c :: x.1, x.2)) := by rw [quoteF.eq_def]
theorem innerF_cons (c : UInt8) (r : List UInt8) : innerF (c :: r) = if c.toNat < 32 then none else if c = 34 then none else if c = 92 then
      (match r with
      | [] => none
      | d :: r' => if d = 34 ∨ d = 92 then (innerF r').map (d :: ·) else none)
    else (innerF r).map (c :: ·) := by rw [innerF.eq_def]
theorem wordsF_cons (q : Bool) (cur : List UInt8) (c : UInt8) (r : List UInt8) : wordsF q cur (c :: r) = if q = true ∧ c = 92 then
      (match r with
      | [] => [cur ++ [c]]
      | d :: r' => wordsF q (cur ++ [c, d]) r')
    else if c = 34 then wordsF (!q) (cur ++ [c]) r
    else if c = 32 ∧ q = false then cur :: wordsF false [] r
    else wordsF q (cur ++ [c]) r := by rw [wordsF.eq_def]
theorem wordsF_nil (q : Bool) (cur : List UInt8) : wordsF q cur [] = [cur] := by rw [wordsF.eq_def]
theorem quoteF_end (t : List UInt8) : quoteF (34 :: t) = some ([], t) := by rw [quoteF_cons, if_neg (by decide), if_pos rfl]
theorem wordsF_end (cur t : List UInt8) : wordsF true cur (34 :: t) = wordsF false (cur ++ [34]) t := by rw [wordsF_cons, if_neg (by rintro ⟨_, h⟩; exact absurd h (by decide)), if_pos rfl]; rfl

theorem bare_ne {c : UInt8} (h : bareC c = true) : c ≠ 34 ∧ c ≠ 32 ∧ c ≠ 61 ∧ c ≠ 92 := by
  refine ⟨?_, ?_, ?_, ?_⟩ <;> (rintro rfl; exact absurd h (by decide))
theorem arg_bare {c : UInt8} (h : argC c = true) : bareC c = true := by
  simp only [argC, bareC, Bool.or_eq_true] at h ⊢
  rcases h with (h | h) | h <;> simp [h]
theorem small_arg {c : UInt8} (h : smallC c = true) : argC c = true := by simp [argC, h]
theorem argName_all {l : List UInt8} (h : argNameL l = true) : ∀ c ∈ l, argC c = true := by
  cases l with
  | nil => simp
  | cons a r =>
    simp only [argNameL, Bool.and_eq_true, List.all_eq_true] at h
    intro c hc
    cases List.mem_cons.1 hc with
    | inl e => subst e; exact small_arg h.1.1
    | inr e => exact h.2 c e
theorem bareL_all {l : List UInt8} (h : bareL l = true) : ∀ c ∈ l, bareC c = true := by
  cases l with
  | nil => simp
  | cons a r =>
    simp only [bareL, Bool.and_eq_true, List.all_eq_true] at h
    exact h.2
theorem bareL_ne {l : List UInt8} (h : bareL l = true) : l ≠ [] := by rintro rfl; cases h
theorem argName_ne {l : List UInt8} (h : argNameL l = true) : l ≠ [] := by rintro rfl; cases h

theorem takeW {p : UInt8 → Bool} {u tl : List UInt8} (h : ∀ c ∈ u, p c = true) (ht : ∀ c r, tl = c :: r → p c = false) : (u ++ tl).takeWhile p = u ∧ (u ++ tl).dropWhile p = tl := by
  induction u with
  | nil =>
    cases tl with
    | nil => simp
    | cons c r => simp [ht c r rfl]
  | cons a u ih =>
    have h1 := h a (by simp)
    have h2 := ih (fun c hc => h c (by simp [hc]))
    simp [h1, h2]

theorem take_drop {p : UInt8 → Bool} (s : List UInt8) : s = s.takeWhile p ++ s.dropWhile p := (List.takeWhile_append_dropWhile).symm

theorem quote_len : ∀ (n : Nat) (z : List UInt8), z.length ≤ n → ∀ v t, quoteF z = some (v, t) → ∃ m, z = m ++ 34 :: t ∧ innerF m = some v := by
  intro n
  induction n with
  | zero =>
    intro z hz v t h
    have : z = [] := List.eq_nil_of_length_eq_zero (by omega)
    subst this
    simp [quoteF] at h
  | succ n ih =>
    intro z hz v t h
    cases z with
    | nil => simp [quoteF] at h
    | cons c r =>
      rw [quoteF_cons] at h
      by_cases h1 : c.toNat < 32
      · rw [if_pos h1] at h; cases h
      rw [if_neg h1] at h
      by_cases h2 : c = 34
      · rw [if_pos h2] at h
        cases h
        exact ⟨[], by rw [h2]; rfl, rfl⟩
      rw [if_neg h2] at h
      by_cases h3 : c = 92
      · rw [if_pos h3] at h
        cases r with
        | nil => cases h
        | cons d r' =>
          simp only at h
          by_cases h4 : d = 34 ∨ d = 92
          · rw [if_pos h4] at h
            obtain ⟨⟨v', t'⟩, h5, h6⟩ := Option.map_eq_some_iff.1 h
            cases h6
            obtain ⟨m, hm, hi⟩ := ih r' (by simp at hz; omega) v' t' h5
            refine ⟨c :: d :: m, by rw [hm]; rfl, ?_⟩
            rw [innerF_cons, if_neg h1, if_neg h2, if_pos h3]
            simp only
            rw [if_pos h4, hi]
            rfl
          · rw [if_neg h4] at h; cases h
      · rw [if_neg h3] at h
        obtain ⟨⟨v', t'⟩, h5, h6⟩ := Option.map_eq_some_iff.1 h
        cases h6
        obtain ⟨m, hm, hi⟩ := ih r (by simp at hz; omega) v' t' h5
        refine ⟨c :: m, by rw [hm]; rfl, ?_⟩
        rw [innerF_cons, if_neg h1, if_neg h2, if_neg h3, hi]
        rfl

theorem inner_quote : ∀ (n : Nat) (m : List UInt8), m.length ≤ n → ∀ v t, innerF m = some v → quoteF (m ++ 34 :: t) = some (v, t) ∧ ∀ cur, wordsF true cur (m ++ 34 :: t) = wordsF false (cur ++ m ++ [34]) t := by
  intro n
  induction n with
  | zero =>
    intro m hm v t h
    have : m = [] := List.eq_nil_of_length_eq_zero (by omega)
    subst this
    simp [innerF] at h
    subst h
    refine ⟨by rw [List.nil_append, quoteF_end], fun cur => by rw [List.nil_append, List.append_nil, wordsF_end]⟩
  | succ n ih =>
    intro m hm v t h
    cases m with
    | nil =>
      simp [innerF] at h
      subst h
      refine ⟨by rw [List.nil_append, quoteF_end], fun cur => by rw [List.nil_append, List.append_nil, wordsF_end]⟩
    | cons c r =>
      rw [innerF_cons] at h
      by_cases h1 : c.toNat < 32
      · rw [if_pos h1] at h; cases h
      rw [if_neg h1] at h
      by_cases h2 : c = 34
      · rw [if_pos h2] at h; cases h
      rw [if_neg h2] at h
      by_cases h3 : c = 92
      · rw [if_pos h3] at h
        cases r with
        | nil => cases h
        | cons d r' =>
          simp only at h
          by_cases h4 : d = 34 ∨ d = 92
          · rw [if_pos h4] at h
            obtain ⟨v', h5, h6⟩ := Option.map_eq_some_iff.1 h
            subst h6
            obtain ⟨hq, hw⟩ := ih r' (by simp at hm; omega) v' t h5
            refine ⟨?_, fun cur => ?_⟩
            · rw [List.cons_append, quoteF_cons, if_neg h1, if_neg h2, if_pos h3]
              simp only [List.cons_append]
              rw [if_pos h4, hq]
              rfl
            · rw [List.cons_append, List.cons_append, wordsF_cons, if_pos ⟨rfl, h3⟩]
              simp only
              rw [hw]
              simp
          · rw [if_neg h4] at h; cases h
      · rw [if_neg h3] at h
        obtain ⟨v', h5, h6⟩ := Option.map_eq_some_iff.1 h
        subst h6
        obtain ⟨hq, hw⟩ := ih r (by simp at hm; omega) v' t h5
        refine ⟨?_, fun cur => ?_⟩
        · rw [List.cons_append, quoteF_cons, if_neg h1, if_neg h2, if_neg h3, hq]
          rfl
        · rw [List.cons_append, wordsF_cons, if_neg (fun h => h3 h.2), if_neg h2, if_neg (fun h => by cases h.2), hw]
          simp

theorem words_flat {b t0 : List UInt8} (h : ∀ c ∈ b, c ≠ 34 ∧ c ≠ 32) : ∀ cur, wordsF false cur (b ++ t0) = wordsF false (cur ++ b) t0 := by
  induction b with
  | nil => intro cur; simp
  | cons a b ih =>
    intro cur
    have h1 := h a (by simp)
    rw [List.cons_append, wordsF_cons, if_neg (fun h => by cases h.1), if_neg h1.1, if_neg (fun h => h1.2 h.1), ih (fun c hc => h c (by simp [hc]))]
    simp

theorem words_split : ∀ (n : Nat) (y : List UInt8), y.length ≤ n → ∀ q cur w ws, wordsF q cur y = w :: ws → ∃ u tl, w = cur ++ u ∧ y = u ++ tl ∧ ((tl = [] ∧ ws = []) ∨ ∃ y', tl = 32 :: y' ∧ ws = wordsF false [] y') := by
  intro n
  induction n with
  | zero =>
    intro y hy q cur w ws h
    have : y = [] := List.eq_nil_of_length_eq_zero (by omega)
    subst this
    rw [wordsF_nil] at h
    cases h
    exact ⟨[], [], by simp, rfl, Or.inl ⟨rfl, rfl⟩⟩
  | succ n ih =>
    intro y hy q cur w ws h
    cases y with
    | nil =>
      rw [wordsF_nil] at h
      cases h
      exact ⟨[], [], by simp, rfl, Or.inl ⟨rfl, rfl⟩⟩
    | cons c r =>
      rw [wordsF_cons] at h
      by_cases h1 : q = true ∧ c = 92
      · rw [if_pos h1] at h
        cases r with
        | nil =>
          cases h
          exact ⟨[c], [], rfl, rfl, Or.inl ⟨rfl, rfl⟩⟩
        | cons d r' =>
          simp only at h
          obtain ⟨u, tl, e1, e2, e3⟩ := ih r' (by simp at hy; omega) _ _ _ _ h
          exact ⟨c :: d :: u, tl, by rw [e1]; simp, by rw [e2]; rfl, e3⟩
      rw [if_neg h1] at h
      by_cases h2 : c = 34
      · rw [if_pos h2] at h
        obtain ⟨u, tl, e1, e2, e3⟩ := ih r (by simp at hy; omega) _ _ _ _ h
        exact ⟨c :: u, tl, by rw [e1]; simp, by rw [e2]; rfl, e3⟩
      rw [if_neg h2] at h
      by_cases h3 : c = 32 ∧ q = false
      · rw [if_pos h3] at h
        cases h
        exact ⟨[], c :: r, by simp, rfl, Or.inr ⟨r, by rw [h3.1], rfl⟩⟩
      · rw [if_neg h3] at h
        obtain ⟨u, tl, e1, e2, e3⟩ := ih r (by simp at hy; omega) _ _ _ _ h
        exact ⟨c :: u, tl, by rw [e1]; simp, by rw [e2]; rfl, e3⟩

theorem words_ne (q : Bool) (cur y : List UInt8) : ∃ w ws, wordsF q cur y = w :: ws := by
  suffices h : ∀ (n : Nat) (y : List UInt8), y.length ≤ n → ∀ q cur, ∃ w ws, wordsF q cur y = w :: ws from h _ y (Nat.le_refl _) q cur
  intro n
  induction n with
  | zero =>
    intro y hy q cur
    have : y = [] := List.eq_nil_of_length_eq_zero (by omega)
    subst this
    exact ⟨cur, [], wordsF_nil _ _⟩
  | succ n ih =>
    intro y hy q cur
    cases y with
    | nil => exact ⟨cur, [], wordsF_nil _ _⟩
    | cons c r =>
      rw [wordsF_cons]
      split
      · cases r with
        | nil => exact ⟨_, _, rfl⟩
        | cons d r' => exact ih r' (by simp at hy; omega) _ _
      · split
        · exact ih r (by simp at hy; omega) _ _
        · split
          · exact ⟨_, _, rfl⟩
          · exact ih r (by simp at hy; omega) _ _

theorem take1_none {x c : UInt8} {r : List UInt8} (h : c ≠ x) : take1 x (c :: r) = none := by simp [take1, h]
theorem take1_some {x : UInt8} {s r : List UInt8} (h : take1 x s = some r) : s = x :: r := by
  cases s with
  | nil => cases h
  | cons c t =>
    simp only [take1] at h
    split at h
    · rename_i e; cases h; rw [e]
    · cases h

theorem val_cases {v x : List UInt8} (h : valF v = some x) : (bareL v = true ∧ x = v) ∨ ∃ m, v = 34 :: (m ++ [34]) ∧ innerF m = some x := by
  unfold valF at h
  by_cases hb : bareL v = true
  · rw [if_pos hb] at h
    cases h
    exact Or.inl ⟨hb, rfl⟩
  · rw [if_neg hb] at h
    cases ht : take1 34 v with
    | none => rw [ht] at h; cases h
    | some t =>
      rw [ht] at h
      simp only at h
      by_cases hl : t.getLast? = some 34
      · rw [if_pos hl] at h
        refine Or.inr ⟨t.dropLast, ?_, h⟩
        rw [take1_some ht]
        obtain ⟨ne, e⟩ := List.getLast?_eq_some_iff.1 hl
        rw [e]
        simp
      · rw [if_neg hl] at h; cases h

theorem val_bare {v : List UInt8} (h : bareL v = true) : valF v = some v := by unfold valF; rw [if_pos h]
theorem val_quote {m x : List UInt8} (h : innerF m = some x) : valF (34 :: (m ++ [34])) = some x := by
  unfold valF
  have hb : bareL (34 :: (m ++ [34])) = false := by
    simp only [bareL, List.all_cons, show bareC 34 = false by decide, Bool.false_and, Bool.and_false]
  rw [hb]
  simp [take1, h]

theorem bare_sp {r : List UInt8} : ∀ c r', (32 : UInt8) :: r = c :: r' → bareC c = false := by
  rintro c r' h; cases h; decide
theorem bare_eq {r : List UInt8} : ∀ c r', (61 : UInt8) :: r = c :: r' → bareC c = false := by
  rintro c r' h; cases h; decide

theorem take1_bare {l r : List UInt8} (h : ∀ c ∈ l, bareC c = true) (hn : l ≠ []) : take1 34 (l ++ r) = none := by
  cases l with
  | nil => exact absurd rfl hn
  | cons a l => exact take1_none (bare_ne (h a (by simp))).1

/-- the first word is what the reader takes -/
theorem arg_of_word {w : List UInt8} {a : List UInt8 × List UInt8} {tl : List UInt8} (h : wordF w = some a) : argF (w ++ 32 :: tl) = some (a, 32 :: tl) := by
  unfold wordF at h
  by_cases hc : (w.takeWhile fun c => decide (c ≠ 61)).length < w.length ∧ argNameL (w.takeWhile fun c => decide (c ≠ 61)) = true
  · rw [if_pos hc] at h
    obtain ⟨hl, hn⟩ := hc
    obtain ⟨n, hnn⟩ : ∃ n, (w.takeWhile fun c => decide (c ≠ 61)) = n := ⟨_, rfl⟩
    rw [hnn] at h hl hn
    have hw := take_drop (p := fun c => decide (c ≠ 61)) w
    rw [hnn] at hw
    cases hd : w.dropWhile (fun c => decide (c ≠ 61)) with
    | nil => rw [hd] at hw; rw [hw] at hl; simp at hl
    | cons c v =>
      have hc61 : c = 61 := by
        have := List.head?_dropWhile_not (p := fun c => decide (c ≠ 61)) (l := w)
        rw [hd] at this
        simpa using this
      subst hc61
      rw [hd] at hw
      have hdv : w.drop (n.length + 1) = v := by rw [hw]; simp
      rw [hdv] at h
      obtain ⟨x, hx, hax⟩ := Option.map_eq_some_iff.1 h
      subst hax
      have hall : ∀ c ∈ n, bareC c = true := fun c hc => arg_bare (argName_all hn c hc)
      have hne := argName_ne hn
      have e0 : w ++ 32 :: tl = n ++ (61 :: (v ++ 32 :: tl)) := by rw [hw]; simp
      rw [e0]
      unfold argF
      rw [take1_bare hall hne]
      obtain ⟨t1, t2⟩ := takeW (tl := 61 :: (v ++ 32 :: tl)) hall bare_eq
      simp only [t1, t2]
      rw [show take1 61 (61 :: (v ++ 32 :: tl)) = some (v ++ 32 :: tl) by simp [take1]]
      simp only [hn, if_true]
      rcases val_cases hx with ⟨hb, rfl⟩ | ⟨m, rfl, hi⟩
      · rw [take1_bare (bareL_all hb) (bareL_ne hb)]
        obtain ⟨t3, t4⟩ := takeW (tl := 32 :: tl) (bareL_all hb) bare_sp
        simp only [t3, t4, hb, if_true]
      · rw [List.cons_append, List.append_assoc, show take1 34 (34 :: (m ++ ([34] ++ 32 :: tl))) = some (m ++ ([34] ++ 32 :: tl)) by simp [take1]]
        have := (inner_quote _ m (Nat.le_refl _) x (32 :: tl) hi).1
        simp only [List.singleton_append]
        rw [this]
        rfl
  · rw [if_neg hc] at h
    obtain ⟨x, hx, hax⟩ := Option.map_eq_some_iff.1 h
    subst hax
    rcases val_cases hx with ⟨hb, rfl⟩ | ⟨m, rfl, hi⟩
    · unfold argF
      rw [take1_bare (bareL_all hb) (bareL_ne hb)]
      obtain ⟨t1, t2⟩ := takeW (tl := 32 :: tl) (bareL_all hb) bare_sp
      simp only [t1, t2]
      rw [show take1 61 (32 :: tl) = none by simp [take1]]
      simp only [hb, if_true]
    · unfold argF
      rw [List.cons_append, List.append_assoc, show take1 34 (34 :: (m ++ ([34] ++ 32 :: tl))) = some (m ++ ([34] ++ 32 :: tl)) by simp [take1]]
      have := (inner_quote _ m (Nat.le_refl _) x (32 :: tl) hi).1
      simp only [List.singleton_append]
      rw [this]
      rfl

theorem word_bare {l : List UInt8} (h : bareL l = true) : wordF l = some ([], l) := by
  have ht : (l.takeWhile fun c => decide (c ≠ 61)) = l := by
    have := (takeW (p := fun c => decide (c ≠ 61)) (u := l) (tl := []) (fun c hc => by simpa using (bare_ne (bareL_all h c hc)).2.2.1) (fun c r h => by cases h)).1
    simpa using this
  unfold wordF
  rw [ht, if_neg (fun h => absurd h.1 (Nat.lt_irrefl _)), val_bare h]
  rfl
theorem word_quote {m x : List UInt8} (h : innerF m = some x) : wordF (34 :: (m ++ [34])) = some ([], x) := by
  unfold wordF
  rw [if_neg, val_quote h]
  · rfl
  · rintro ⟨_, h2⟩
    rw [List.takeWhile_cons, if_pos (by decide)] at h2
    simp only [argNameL, show smallC 34 = false by decide, Bool.false_and] at h2
    cases h2
theorem word_named {n v x : List UInt8} (hn : argNameL n = true) (hv : valF v = some x) : wordF (n ++ 61 :: v) = some (n, x) := by
  have ht := (takeW (p := fun c => decide (c ≠ 61)) (u := n) (tl := 61 :: v) (fun c hc => by simpa using (bare_ne (arg_bare (argName_all hn c hc))).2.2.1) (fun c r h => by cases h; decide)).1
  unfold wordF
  rw [ht, if_pos ⟨by simp, hn⟩, show (n ++ 61 :: v).drop (n.length + 1) = v by simp, hv]
  rfl

theorem words_quote {m x : List UInt8} (h : innerF m = some x) (cur t0 : List UInt8) : wordsF false cur (34 :: (m ++ [34]) ++ t0) = wordsF false (cur ++ 34 :: (m ++ [34])) t0 := by
  have := (inner_quote _ m (Nat.le_refl _) x t0 h).2 (cur ++ [34])
  rw [List.cons_append, wordsF_cons, if_neg (fun h => by cases h.1), if_pos rfl, List.append_assoc]
  simp only [List.singleton_append, Bool.not_false]
  rw [this]
  simp

theorem bare_flat {l : List UInt8} (h : ∀ c ∈ l, bareC c = true) : ∀ c ∈ l, c ≠ 34 ∧ c ≠ 32 := fun c hc => ⟨(bare_ne (h c hc)).1, (bare_ne (h c hc)).2.1⟩

/-- what the reader takes is a word -/
theorem word_of_arg {z t : List UInt8} {a : List UInt8 × List UInt8} (h : argF z = some (a, t)) :
    ∃ c, c ≠ [] ∧ z = c ++ t ∧ wordF c = some a ∧ ∀ cur t0, wordsF false cur (c ++ t0) = wordsF false (cur ++ c) t0 := by
  unfold argF at h
  cases h1 : take1 34 z with
  | some r =>
    rw [h1] at h
    simp only at h
    obtain ⟨⟨v, t'⟩, h2, h3⟩ := Option.map_eq_some_iff.1 h
    cases h3
    obtain ⟨m, hm, hi⟩ := quote_len _ r (Nat.le_refl _) _ _ h2
    refine ⟨34 :: (m ++ [34]), by simp, ?_, word_quote hi, fun cur t0 => words_quote hi cur t0⟩
    rw [take1_some h1, hm]
    simp
  | none =>
    rw [h1] at h
    simp only at h
    have hz := take_drop (p := bareC) z
    cases h2 : take1 61 (z.dropWhile bareC) with
    | none =>
      rw [h2] at h
      simp only at h
      by_cases hb : bareL (z.takeWhile bareC) = true
      · rw [if_pos hb] at h
        cases h
        exact ⟨_, bareL_ne hb, hz, word_bare hb, fun cur t0 => words_flat (bare_flat (bareL_all hb)) cur⟩
      · rw [if_neg hb] at h; cases h
    | some r =>
      rw [h2] at h
      simp only at h
      by_cases hn : argNameL (z.takeWhile bareC) = true
      · rw [if_pos hn] at h
        rw [take1_some h2] at hz
        obtain ⟨n, hnn⟩ : ∃ n, z.takeWhile bareC = n := ⟨_, rfl⟩
        rw [hnn] at hz hn h
        have hfl : ∀ c ∈ n, c ≠ 34 ∧ c ≠ 32 := bare_flat (fun c hc => arg_bare (argName_all hn c hc))
        have hfl2 : ∀ c ∈ n ++ [61], c ≠ 34 ∧ c ≠ 32 := by
          intro c hc
          cases List.mem_append.1 hc with
          | inl e => exact hfl c e
          | inr e => simp at e; subst e; decide
        cases h3 : take1 34 r with
        | some r' =>
          rw [h3] at h
          simp only at h
          obtain ⟨⟨v, t'⟩, h4, h5⟩ := Option.map_eq_some_iff.1 h
          cases h5
          obtain ⟨m, hm, hi⟩ := quote_len _ r' (Nat.le_refl _) _ _ h4
          refine ⟨n ++ 61 :: (34 :: (m ++ [34])), by simp, ?_, word_named hn (val_quote hi), fun cur t0 => ?_⟩
          · rw [hz, take1_some h3, hm]
            simp
          · have e1 : n ++ 61 :: (34 :: (m ++ [34])) ++ t0 = (n ++ [61]) ++ (34 :: (m ++ [34]) ++ t0) := by simp
            rw [e1, words_flat hfl2, words_quote hi]
            simp
        | none =>
          rw [h3] at h
          simp only at h
          by_cases hb : bareL (r.takeWhile bareC) = true
          · rw [if_pos hb] at h
            cases h
            have hr := take_drop (p := bareC) r
            refine ⟨n ++ 61 :: r.takeWhile bareC, by simp, ?_, word_named hn (val_bare hb), fun cur t0 => ?_⟩
            · rw [List.append_assoc, List.cons_append, ← hr]
              exact hz
            · have e1 : n ++ 61 :: r.takeWhile bareC ++ t0 = (n ++ [61]) ++ (r.takeWhile bareC ++ t0) := by simp
              rw [e1, words_flat hfl2, words_flat (bare_flat (bareL_all hb))]
              simp
          · rw [if_neg hb] at h; cases h
      · rw [if_neg hn] at h; cases h

theorem argF_len {z t : List UInt8} {a : List UInt8 × List UInt8} (h : argF z = some (a, t)) : t.length ≤ z.length := by
  obtain ⟨c, _, hz, _⟩ := word_of_arg h
  rw [hz]
  simp

/-- the arguments, and whether there is a closing line -/
def argsF (s : List UInt8) : Option (List (List UInt8 × List UInt8) × Bool) :=
  if s = [32, 62, 125] then some ([], true)
  else if s = [32, 47, 62, 125] then some ([], false)
  else match take1 32 s with
    | none => none
    | some r =>
      match argF r with
      | none => none
      | some (a, t) => if t.length < s.length then (argsF t).map fun x => (a :: x.1, x.2) else none
termination_by s.length

def mapWords : List (List UInt8) → Option (List (List UInt8 × List UInt8))
  | [] => some []
  | w :: ws => match wordF w with
    | none => none
    | some a => (mapWords ws).map (a :: ·)

def refArgs : List UInt8 → Option (List (List UInt8 × List UInt8))
  | [] => some []
  | c :: y => if c = 32 then mapWords (wordsF false [] y) else none

/-- the two ends of a line -/
def isEnd (K : List UInt8) (e : Bool) : Prop := (K = [32, 62, 125] ∧ e = true) ∨ (K = [32, 47, 62, 125] ∧ e = false)

theorem args_end {K : List UInt8} {e : Bool} (h : isEnd K e) : argsF K = some ([], e) := by
  rcases h with ⟨rfl, rfl⟩ | ⟨rfl, rfl⟩
  · rw [argsF, if_pos rfl]
  · rw [argsF, if_neg (by decide), if_pos rfl]

theorem end_sp {K : List UInt8} {e : Bool} (h : isEnd K e) : ∃ K', K = 32 :: K' := by
  rcases h with ⟨rfl, rfl⟩ | ⟨rfl, rfl⟩ <;> exact ⟨_, rfl⟩

theorem args_none {c : UInt8} {r : List UInt8} (h : c ≠ 32) : argsF (c :: r) = none := by
  rw [argsF, if_neg (fun e => h (List.cons.inj e).1), if_neg (fun e => h (List.cons.inj e).1), take1_none h]

theorem not_end {K x : List UInt8} {e : Bool} (h : isEnd K e) (hx : x ≠ []) : x ++ K ≠ [32, 62, 125] ∧ x ++ K ≠ [32, 47, 62, 125] := by
  rcases h with ⟨rfl, rfl⟩ | ⟨rfl, rfl⟩
  · refine ⟨fun e => ?_, fun e => ?_⟩
    · have := congrArg List.length e
      simp at this
      exact hx this
    · cases x with
      | nil => exact hx rfl
      | cons a x =>
        cases x with
        | nil => simp at e
        | cons b x => have := congrArg List.length e; simp at this
  · refine ⟨fun e => ?_, fun e => ?_⟩
    · have := congrArg List.length e
      simp at this
    · have := congrArg List.length e
      simp at this
      exact hx this

theorem args_short {K t c y : List UInt8} {e : Bool} (h : isEnd K e) (hl : t.length < K.length) (he : y ++ K = c ++ t) : argsF t = none := by
  have hs : t <:+ K := List.suffix_of_suffix_length_le (l₃ := y ++ K) ⟨c, he.symm⟩ ⟨y, rfl⟩ (by omega)
  obtain ⟨d, hd⟩ := hs
  have hdl : d ≠ [] := by rintro rfl; simp at hd; subst hd; omega
  rcases h with ⟨rfl, rfl⟩ | ⟨rfl, rfl⟩
  all_goals
    cases t with
    | nil => rw [argsF, if_neg (by decide), if_neg (by decide)]; rfl
    | cons a t =>
      refine args_none ?_
      rintro rfl
      cases d with
      | nil => exact hdl rfl
      | cons b d =>
        have h1 : d ++ 32 :: t = _ := (List.cons.inj hd).2
        have h2 : (32 : UInt8) ∈ d ++ 32 :: t := by simp
        rw [h1] at h2
        revert h2
        decide

theorem map_words_some {w : List UInt8} {ws : List (List UInt8)} {l : List (List UInt8 × List UInt8)} (h : mapWords (w :: ws) = some l) : ∃ a, wordF w = some a := by
  rw [mapWords] at h
  cases hw : wordF w with
  | none => rw [hw] at h; cases h
  | some a => exact ⟨a, rfl⟩

/-- words read one after the other give what the reader gives -/
theorem args_law {K : List UInt8} {e : Bool} (hK : isEnd K e) : ∀ (n : Nat) (x : List UInt8), x.length ≤ n → argsF (x ++ K) = (refArgs x).map fun l => (l, e) := by
  intro n
  induction n with
  | zero =>
    intro x hx
    have : x = [] := List.eq_nil_of_length_eq_zero (by omega)
    subst this
    rw [List.nil_append, args_end hK]
    rfl
  | succ n ih =>
    intro x hx
    obtain ⟨K', hK'⟩ := end_sp hK
    cases x with
    | nil => rw [List.nil_append, args_end hK]; rfl
    | cons c y =>
      by_cases hc : c = 32
      · subst hc
        obtain ⟨n1, n2⟩ := not_end hK (x := 32 :: y) (by simp)
        rw [argsF, if_neg n1, if_neg n2, List.cons_append, show take1 32 (32 :: (y ++ K)) = some (y ++ K) by simp [take1]]
        simp only [refArgs, if_true]
        obtain ⟨w, ws, hww⟩ := words_ne false [] y
        have key : ∀ l, mapWords (wordsF false [] y) = some l → ∃ a tl, argF (y ++ K) = some (a, tl ++ K) ∧ (tl = [] ∨ ∃ y', tl = 32 :: y') := by
          intro l hl
          rw [hww] at hl
          obtain ⟨a, ha⟩ := map_words_some hl
          obtain ⟨u, tl, e1, e2, e3⟩ := words_split _ y (Nat.le_refl _) _ _ _ _ hww
          rw [List.nil_append] at e1
          subst e1
          have e4 : ∃ t', tl ++ K = 32 :: t' := by
            rcases e3 with ⟨rfl, _⟩ | ⟨y', rfl, _⟩
            · exact ⟨K', by rw [hK']; rfl⟩
            · exact ⟨y' ++ K, rfl⟩
          obtain ⟨t', ht'⟩ := e4
          refine ⟨a, tl, ?_, ?_⟩
          · rw [e2, List.append_assoc, ht']
            exact arg_of_word ha
          · rcases e3 with ⟨rfl, _⟩ | ⟨y', rfl, _⟩
            · exact Or.inl rfl
            · exact Or.inr ⟨y', rfl⟩
        cases hA : argF (y ++ K) with
        | none =>
          simp only
          cases hm : mapWords (wordsF false [] y) with
          | none => rfl
          | some l =>
            obtain ⟨a, tl, h1, _⟩ := key l hm
            rw [hA] at h1
            cases h1
        | some at' =>
          obtain ⟨a, t⟩ := at'
          simp only
          have hlen := argF_len hA
          rw [if_pos (by simp at hlen ⊢; omega)]
          obtain ⟨c, hcne, hz, hwc, hwords⟩ := word_of_arg hA
          by_cases hl : K.length ≤ t.length
          · have hcy : ∃ t0, t = t0 ++ K ∧ y = c ++ t0 := by
              have hs : K <:+ t := List.suffix_of_suffix_length_le (l₃ := y ++ K) ⟨y, rfl⟩ ⟨c, hz.symm⟩ hl
              obtain ⟨t0, ht0⟩ := hs
              refine ⟨t0, ht0.symm, ?_⟩
              rw [← ht0, ← List.append_assoc] at hz
              exact List.append_cancel_right hz
            obtain ⟨t0, rfl, rfl⟩ := hcy
            rw [ih t0 (by simp at hx; omega)]
            rw [hwords [] t0, List.nil_append]
            cases t0 with
            | nil =>
              rw [wordsF_nil]
              simp [refArgs, mapWords, hwc]
            | cons d r =>
              by_cases hd : d = 32
              · subst hd
                rw [wordsF_cons, if_neg (fun h => by cases h.1), if_neg (by decide), if_pos ⟨rfl, rfl⟩, mapWords, hwc]
                simp only [refArgs, if_true]
                cases mapWords (wordsF false [] r) <;> rfl
              · rw [refArgs, if_neg hd]
                have : mapWords (wordsF false c (d :: r)) = none := by
                  cases hm : mapWords (wordsF false c (d :: r)) with
                  | none => rfl
                  | some l =>
                    obtain ⟨a', tl, h1, h2⟩ := key l (by rw [hwords [] (d :: r), List.nil_append]; exact hm)
                    rw [hA] at h1
                    have h3 := (Prod.mk.inj (Option.some.inj h1)).2
                    have h4 := List.append_cancel_right h3
                    rcases h2 with rfl | ⟨y', rfl⟩
                    · cases h4
                    · exact absurd (List.cons.inj h4).1 hd
                rw [this]
                rfl
          · rw [args_short hK (by omega) hz]
            cases hm : mapWords (wordsF false [] y) with
            | none => rfl
            | some l =>
              obtain ⟨a', tl, h1, h2⟩ := key l hm
              rw [hA] at h1
              have h3 := (Prod.mk.inj (Option.some.inj h1)).2
              rw [h3] at hl
              simp at hl
      · rw [List.cons_append, args_none hc, refArgs, if_neg hc]
        rfl

/-- a line that the reader takes has one of the two ends -/
theorem args_has_end : ∀ (n : Nat) (z : List UInt8), z.length ≤ n → ∀ l e, argsF z = some (l, e) → ∃ K, isEnd K e ∧ K <:+ z := by
  intro n
  induction n with
  | zero =>
    intro z hz l e h
    have : z = [] := List.eq_nil_of_length_eq_zero (by omega)
    subst this
    rw [argsF, if_neg (by decide), if_neg (by decide)] at h
    cases h
  | succ n ih =>
    intro z hz l e h
    rw [argsF] at h
    by_cases h1 : z = [32, 62, 125]
    · rw [if_pos h1] at h
      cases h
      exact ⟨_, Or.inl ⟨rfl, rfl⟩, by rw [h1]; exact List.suffix_refl _⟩
    rw [if_neg h1] at h
    by_cases h2 : z = [32, 47, 62, 125]
    · rw [if_pos h2] at h
      cases h
      exact ⟨_, Or.inr ⟨rfl, rfl⟩, by rw [h2]; exact List.suffix_refl _⟩
    rw [if_neg h2] at h
    cases h3 : take1 32 z with
    | none => rw [h3] at h; cases h
    | some r =>
      rw [h3] at h
      simp only at h
      cases h4 : argF r with
      | none => rw [h4] at h; cases h
      | some at' =>
        obtain ⟨a, t⟩ := at'
        rw [h4] at h
        simp only at h
        have hzr := take1_some h3
        obtain ⟨c, hcne, hr, _, _⟩ := word_of_arg h4
        by_cases hlt : t.length < z.length
        · rw [if_pos hlt] at h
          obtain ⟨⟨l', e'⟩, h5, h6⟩ := Option.map_eq_some_iff.1 h
          cases h6
          obtain ⟨K, hK, hs⟩ := ih t (by omega) _ _ h5
          refine ⟨K, hK, hs.trans ?_⟩
          rw [hzr, hr]
          exact ⟨32 :: c, by simp⟩
        · rw [if_neg hlt] at h; cases h

/-- what a line's reader gives: name, arguments, whether there is a closing line -/
def lineF (b : List UInt8) : Option (List UInt8 × List (List UInt8 × List UInt8) × Bool) :=
  if 1 ≤ (b.takeWhile nameC).length ∧ (b.takeWhile nameC).length ≤ 20 then (argsF (b.dropWhile nameC)).map fun x => (b.takeWhile nameC, x.1, x.2) else none

/-- what the reference gives of a line without its end -/
def codeF (x : List UInt8) : Option (List UInt8 × List (List UInt8 × List UInt8)) :=
  match wordsF false [] x with
  | [] => none
  | w :: ws => if codeNameL w then (mapWords ws).map fun l => (w, l) else none

theorem name_ne {c : UInt8} (h : nameC c = true) : c ≠ 34 ∧ c ≠ 32 := by
  refine ⟨?_, ?_⟩ <;> (rintro rfl; exact absurd h (by decide))

theorem takeWhile_all {p : UInt8 → Bool} (l : List UInt8) : ∀ c ∈ l.takeWhile p, p c = true := by
  induction l with
  | nil => simp
  | cons a l ih =>
    intro c hc
    rw [List.takeWhile_cons] at hc
    split at hc
    · cases List.mem_cons.1 hc with
      | inl e => subst e; assumption
      | inr e => exact ih c e
    · cases hc
theorem dropWhile_head {p : UInt8 → Bool} (l : List UInt8) : ∀ c r, l.dropWhile p = c :: r → p c = false := by
  intro c r h
  have := List.head?_dropWhile_not (p := p) (l := l)
  rw [h] at this
  simpa using this

theorem line_law {K x : List UInt8} {e : Bool} (hK : isEnd K e) : lineF (x ++ K) = (codeF x).map fun y => (y.1, y.2, e) := by
  obtain ⟨n, hn⟩ : ∃ n, x.takeWhile nameC = n := ⟨_, rfl⟩
  obtain ⟨x', hx'⟩ : ∃ x', x.dropWhile nameC = x' := ⟨_, rfl⟩
  have hx := take_drop (p := nameC) x
  have hall := takeWhile_all (p := nameC) x
  have hhead := dropWhile_head (p := nameC) x
  rw [hn, hx'] at hx
  rw [hn] at hall
  rw [hx'] at hhead
  clear hn hx'
  subst hx
  obtain ⟨K', hK'⟩ := end_sp hK
  obtain ⟨t1, t2⟩ := takeW (p := nameC) (u := n) (tl := x' ++ K) hall (fun c r h => by
    cases x' with
    | nil => rw [List.nil_append, hK'] at h; cases h; decide
    | cons e r2 => cases h; exact hhead _ r2 rfl)
  unfold lineF codeF
  rw [List.append_assoc, t1, t2, args_law hK _ x' (Nat.le_refl _), words_flat (fun c hc => name_ne (hall c hc)), List.nil_append]
  have hcn : codeNameL n = decide (1 ≤ n.length ∧ n.length ≤ 20) := by
    have : n.all nameC = true := List.all_eq_true.2 hall
    simp only [codeNameL, this, Bool.and_true, Bool.decide_and]
  cases x' with
  | nil =>
    rw [wordsF_nil]
    simp only [refArgs, mapWords, hcn, Option.map_some]
    by_cases h : 1 ≤ n.length ∧ n.length ≤ 20
    · simp only [h, and_self, decide_true, if_true]; rfl
    · simp only [h, decide_false, if_false]; rfl
  | cons d r =>
    have hd := hhead d r rfl
    by_cases hd2 : d = 32
    · subst hd2
      have hwc : wordsF false n (32 :: r) = n :: wordsF false [] r := by rw [wordsF_cons, if_neg (fun h => by cases h.1), if_neg (by decide), if_pos ⟨rfl, rfl⟩]
      rw [hwc]
      simp only [refArgs, if_true, hcn]
      by_cases h : 1 ≤ n.length ∧ n.length ≤ 20
      · simp only [h, and_self, decide_true, if_true]
        cases mapWords (wordsF false [] r) <;> rfl
      · simp only [h, decide_false, if_false]; rfl
    · rw [refArgs, if_neg hd2]
      obtain ⟨w, ws, hw⟩ := words_ne false n (d :: r)
      rw [hw]
      simp only [Option.map_none]
      have hbad : codeNameL w = false := by
        obtain ⟨u, tl, e1, e2, e3⟩ := words_split _ (d :: r) (Nat.le_refl _) _ _ _ _ hw
        have : d ∈ u := by
          cases u with
          | nil =>
            rw [List.nil_append] at e2
            rcases e3 with ⟨rfl, _⟩ | ⟨y', rfl, _⟩
            · cases e2
            · exact absurd (List.cons.inj e2).1 hd2
          | cons a u => rw [List.cons_append] at e2; rw [(List.cons.inj e2).1]; simp
        have h2 : w.all nameC = false := by
          rw [List.all_eq_false]
          exact ⟨d, by rw [e1]; simp [this], by simp [hd]⟩
        rw [codeNameL, h2, Bool.and_false]
      rw [hbad]
      split <;> rfl

theorem line_none {b : List UInt8} (h : ∀ K e, isEnd K e → ¬ K <:+ b) : lineF b = none := by
  unfold lineF
  split
  · cases ha : argsF (b.dropWhile nameC) with
    | none => rfl
    | some x =>
      obtain ⟨l, e⟩ := x
      obtain ⟨K, hK, hs⟩ := args_has_end _ _ (Nat.le_refl _) _ _ ha
      exact absurd (hs.trans (List.dropWhile_suffix _)) (h K e hK)
  · rfl

end Go.Proofs.Ytgbmlpidaeefoaa
