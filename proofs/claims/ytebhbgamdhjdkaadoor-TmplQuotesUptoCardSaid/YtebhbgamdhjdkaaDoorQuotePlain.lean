/-
  Values as constants of script: what tmpl.Quote and mastref1.Quoted compute, with no program in sight.
-/
import Derived.Test.YtebhbgamdhjdkaaDoorVals
import Derived.Test.YtebhbgamdhjdkaaDoorShowOnly
import Derived.Lib.ItoaLen
namespace Go.Proofs.YtebhbgamdhjdkaaDoor
open Go.RowKit

/-- a digit of sixteen -/
def hexQ (n : Nat) : UInt8 := if n < 10 then UInt8.ofNat (48 + n) else UInt8.ofNat (87 + n)
/-- a byte that is written with its number -/
def numQ (c : UInt8) : Bool := decide (c.toNat < 32) || c == 60 || c == 62 || c == 38 || c == 39
/-- a byte of a string -/
def escQ (c : UInt8) : List UInt8 := if c = 34 ∨ c = 92 then [92, c] else if numQ c = true then [92, 117, 48, 48, hexQ (c.toNat / 16), hexQ (c.toNat % 16)] else [c]
def escL (l : List UInt8) : List UInt8 := l.flatMap escQ
/-- a string -/
def quoteL (l : List UInt8) : List UInt8 := 34 :: (escL l ++ [34])
theorem escL_nil : escL [] = [] := rfl
theorem escL_take {l : List UInt8} {k : Nat} {c : UInt8} (h : l[k]? = some c) : escL (l.take (k + 1)) = escL (l.take k) ++ escQ c := by
  obtain ⟨hk, rfl⟩ := List.getElem?_eq_some_iff.1 h
  rw [List.take_succ_eq_append_getElem hk]
  unfold escL
  rw [List.flatMap_append, List.flatMap_singleton]
theorem escQ_len (c : UInt8) : 1 ≤ (escQ c).length ∧ (escQ c).length ≤ 6 := by unfold escQ; split; simp; split <;> simp
theorem escL_len (l : List UInt8) : (escL l).length ≤ 6 * l.length := by
  induction l with
  | nil => simp [escL]
  | cons a r ih =>
    have := escQ_len a
    have e : escL (a :: r) = escQ a ++ escL r := by simp [escL]
    rw [e, List.length_append, List.length_cons]
    omega
theorem quoteL_len (l : List UInt8) : (quoteL l).length ≤ 6 * l.length + 2 := by
  have := escL_len l
  simp only [quoteL, List.length_cons, List.length_append, List.length_nil]
  omega

theorem escL_append (a b : List UInt8) : escL (a ++ b) = escL a ++ escL b := by simp [escL]
/-- a value that is no list and no table -/
def leafQ (k : Int) (b : Bool) (n : Int) (t : ByteArray) : Int × List UInt8 :=
  if k = 0 then (0, [110, 117, 108, 108])
  else if k = 1 ∨ k = 2 then (0, (showV k b n t).1.data.toList)
  else if k = 3 ∨ k = 4 ∨ k = 7 then ((showV k b n t).2, quoteL (showV k b n t).1.data.toList)
  else (10, [])
/-- what stands ahead of an item -/
def headQ (tb : Bool) (ks : List ByteArray) (i : Nat) : List UInt8 :=
  (if i = 0 then [] else [44]) ++ (if tb = true then quoteL ((ks[i]?).getD ⟨#[]⟩).data.toList ++ [58] else [])

mutual
/-- a value at a depth -/
def ownQ (d : Nat) : Val → Int × List UInt8
  | .mk k b n t is ks =>
    if k = 5 ∨ k = 6 then
      if d = 12 then (13, [])
      else ((partsQ (d + 1) (decide (k = 6)) ks 0 is).1, (if k = 6 then 123 else 91) :: ((partsQ (d + 1) (decide (k = 6)) ks 0 is).2 ++ [if k = 6 then 125 else 93]))
    else leafQ k b n t
/-- items from a place on -/
def partsQ (d : Nat) (tb : Bool) (ks : List ByteArray) (i : Nat) : List Val → Int × List UInt8
  | [] => (0, [])
  | v :: r => if (ownQ d v).1 = 0 then ((partsQ d tb ks (i + 1) r).1, headQ tb ks i ++ (ownQ d v).2 ++ (partsQ d tb ks (i + 1) r).2) else ((ownQ d v).1, [])
end

theorem partsQ_nil (d : Nat) (tb : Bool) (ks : List ByteArray) (i : Nat) : partsQ d tb ks i [] = (0, []) := by rw [partsQ]
theorem partsQ_cons (d : Nat) (tb : Bool) (ks : List ByteArray) (i : Nat) (v : Val) (r : List Val) : partsQ d tb ks i (v :: r) = if (ownQ d v).1 = 0 then ((partsQ d tb ks (i + 1) r).1, headQ tb ks i ++ (ownQ d v).2 ++ (partsQ d tb ks (i + 1) r).2) else ((ownQ d v).1, []) := by rw [partsQ]
theorem ownQ_eq (d : Nat) (v : Val) : ownQ d v = if v.kind = 5 ∨ v.kind = 6 then
      if d = 12 then (13, [])
      else ((partsQ (d + 1) (decide (v.kind = 6)) v.keys 0 v.items).1, (if v.kind = 6 then 123 else 91) :: ((partsQ (d + 1) (decide (v.kind = 6)) v.keys 0 v.items).2 ++ [if v.kind = 6 then 125 else 93]))
    else leafQ v.kind v.flag v.num v.text := by cases v; rw [ownQ]; rfl

/-- what a loop over items has done so far -/
def PRel (d : Nat) (tb : Bool) (ks : List ByteArray) (l : List Val) (j : Nat) (acc : List UInt8) : Prop :=
  (partsQ d tb ks 0 l).1 = (partsQ d tb ks j (l.drop j)).1 ∧ ((partsQ d tb ks j (l.drop j)).1 = 0 → (partsQ d tb ks 0 l).2 = acc ++ (partsQ d tb ks j (l.drop j)).2)
theorem PRel.start (d : Nat) (tb : Bool) (ks : List ByteArray) (l : List Val) : PRel d tb ks l 0 [] := ⟨by rw [List.drop_zero], fun _ => by rw [List.drop_zero]; rfl⟩
theorem partsQ_at {d : Nat} {tb : Bool} {ks : List ByteArray} {l : List Val} {j : Nat} {v : Val} (h : l[j]? = some v) : partsQ d tb ks j (l.drop j) = if (ownQ d v).1 = 0 then ((partsQ d tb ks (j + 1) (l.drop (j + 1))).1, headQ tb ks j ++ (ownQ d v).2 ++ (partsQ d tb ks (j + 1) (l.drop (j + 1))).2) else ((ownQ d v).1, []) := by
  obtain ⟨hk, rfl⟩ := List.getElem?_eq_some_iff.1 h
  rw [List.drop_eq_getElem_cons hk, partsQ_cons]
theorem PRel.step {d : Nat} {tb : Bool} {ks : List ByteArray} {l : List Val} {j : Nat} {acc : List UInt8} {v : Val} (h : PRel d tb ks l j acc) (hv : l[j]? = some v) (h0 : (ownQ d v).1 = 0) : PRel d tb ks l (j + 1) (acc ++ headQ tb ks j ++ (ownQ d v).2) := by
  unfold PRel at *
  rw [partsQ_at hv, if_pos h0] at h
  refine ⟨h.1, fun h1 => ?_⟩
  rw [h.2 h1]
  simp only [List.append_assoc]
theorem PRel.bad {d : Nat} {tb : Bool} {ks : List ByteArray} {l : List Val} {j : Nat} {acc : List UInt8} {v : Val} (h : PRel d tb ks l j acc) (hv : l[j]? = some v) (h0 : ¬ (ownQ d v).1 = 0) : (partsQ d tb ks 0 l).1 = (ownQ d v).1 := by
  unfold PRel at h
  rw [partsQ_at hv, if_neg h0] at h
  exact h.1
theorem PRel.fin {d : Nat} {tb : Bool} {ks : List ByteArray} {l : List Val} {j : Nat} {acc : List UInt8} (h : PRel d tb ks l j acc) (hj : l.length ≤ j) : partsQ d tb ks 0 l = (0, acc) := by
  unfold PRel at h
  rw [List.drop_eq_nil_of_le hj, partsQ_nil] at h
  exact Prod.ext h.1 (by rw [h.2 rfl, List.append_nil])

theorem year_le (n : Nat) (h : n ≤ 84005) : (dateS n).size ≤ 12 := by
  obtain ⟨h1, h2, h3, h4, h5⟩ := civil_date h
  have a := year_size (y := (dateZ n).1) (by omega) (by omega)
  have b := twoS_le (n := (dateZ n).2.1) (by omega)
  have c := twoS_le (n := (dateZ n).2.2) (by omega)
  have e : (⟨#[45]⟩ : ByteArray).size = 1 := rfl
  unfold dateS
  simp only [ByteArray.size_append]
  omega
theorem showV_len (k : Int) (b : Bool) (n : Int) (t : ByteArray) (hn : I64 n) : (showV k b n t).1.data.toList.length ≤ t.size + 24 := by
  have e0 : (⟨#[]⟩ : ByteArray).data.toList.length = 0 := rfl
  have e1 : ((⟨(Lib.formatBool b).toArray⟩ : ByteArray)).data.toList.length ≤ 5 := by cases b <;> decide
  have e2 : ((⟨(Lib.itoa n).toArray⟩ : ByteArray)).data.toList.length ≤ 21 := Lib.itoa_length_le n hn.1 hn.2
  have e3 : t.data.toList.length = t.size := by rw [Array.length_toList]; rfl
  have e4 : ∀ m : Nat, m ≤ 84005 → (dateS m).data.toList.length ≤ 12 := fun m hm => by
    have h := year_le m hm
    have : (dateS m).data.toList.length = (dateS m).size := by rw [Array.length_toList]; rfl
    omega
  unfold showV
  split
  · show (⟨#[]⟩ : ByteArray).data.toList.length ≤ _
    omega
  · split
    · show (⟨(Lib.formatBool b).toArray⟩ : ByteArray).data.toList.length ≤ _
      omega
    · split
      · show (⟨(Lib.itoa n).toArray⟩ : ByteArray).data.toList.length ≤ _
        omega
      · split
        · show t.data.toList.length ≤ _
          omega
        · split
          · split
            · show (⟨#[]⟩ : ByteArray).data.toList.length ≤ _
              omega
            · have := e4 n.toNat (by omega)
              show (dateS n.toNat).data.toList.length ≤ _
              omega
          · show (⟨#[]⟩ : ByteArray).data.toList.length ≤ _
            omega
theorem leafQ_len (k : Int) (b : Bool) (n : Int) (t : ByteArray) (hn : I64 n) : (leafQ k b n t).2.length + 4 ≤ 6 * t.size + 150 := by
  have h := showV_len k b n t hn
  unfold leafQ
  split
  · show (4 : Nat) + 4 ≤ _
    omega
  · split
    · show (showV k b n t).1.data.toList.length + 4 ≤ _
      omega
    · split
      · have := quoteL_len (showV k b n t).1.data.toList
        show (quoteL (showV k b n t).1.data.toList).length + 4 ≤ _
        omega
      · show (0 : Nat) + 4 ≤ _
        omega
theorem headQ_len (tb : Bool) (ks : List ByteArray) (i : Nat) : (headQ tb ks i).length + 8 * strsW (ks.drop (i + 1)) ≤ 4 + 8 * strsW (ks.drop i) := by
  have hq := quoteL_len ((ks[i]?).getD ⟨#[]⟩).data.toList
  have key : 8 * strsW (ks.drop (i + 1)) + 6 * ((ks[i]?).getD ⟨#[]⟩).data.toList.length ≤ 8 * strsW (ks.drop i) := by
    by_cases hi : i < ks.length
    · rw [List.drop_eq_getElem_cons hi, strsW, List.getElem?_eq_getElem hi]
      have : (ks[i]).data.toList.length = (ks[i]).size := by rw [Array.length_toList]; rfl
      simp only [Option.getD_some]
      omega
    · rw [List.drop_eq_nil_of_le (by omega), List.drop_eq_nil_of_le (by omega), List.getElem?_eq_none (by omega)]
      simp
  unfold headQ
  rw [List.length_append]
  have a : (if i = 0 then ([] : List UInt8) else [44]).length ≤ 1 := by split <;> simp
  have b : (if tb = true then quoteL ((ks[i]?).getD ⟨#[]⟩).data.toList ++ [58] else []).length ≤ 6 * ((ks[i]?).getD ⟨#[]⟩).data.toList.length + 3 := by
    split
    · rw [List.length_append]; simp only [List.length_cons, List.length_nil]; omega
    · simp
  omega

/-- every number fits -/
def NumsOk : List Val → Prop
  | [] => True
  | .mk _ _ n _ is _ :: r => I64 n ∧ NumsOk is ∧ NumsOk r
theorem NumsOk.cons {v : Val} {r : List Val} : NumsOk (v :: r) ↔ I64 v.num ∧ NumsOk v.items ∧ NumsOk r := by cases v; rw [NumsOk]; rfl
theorem quote_lens : ∀ (N : Nat), (∀ (v : Val) (d : Nat), SizeOf.sizeOf v ≤ N → NumsOk [v] → (ownQ d v).2.length + 4 ≤ 160 * valW v) ∧
    (∀ (l : List Val) (d : Nat) (tb : Bool) (ks : List ByteArray) (i : Nat), SizeOf.sizeOf l ≤ N → NumsOk l → (partsQ d tb ks i l).2.length ≤ 160 * valsW l + 8 * strsW (ks.drop i)) := by
  intro N
  induction N with
  | zero =>
    refine ⟨fun v d h => ?_, fun l d tb ks i h => ?_⟩
    · cases v; simp at h
    · cases l <;> simp at h
  | succ N ih =>
    refine ⟨fun v d h hok => ?_, fun l d tb ks i h hok => ?_⟩
    · have h1 := v.items_lt
      obtain ⟨hn, hi, _⟩ := NumsOk.cons.1 hok
      rw [ownQ_eq]
      unfold valW
      split
      · split
        · simp; omega
        · have h2 := ih.2 v.items (d + 1) (decide (v.kind = 6)) v.keys 0 (by omega) hi
          rw [List.drop_zero] at h2
          simp only [List.length_cons, List.length_append, List.length_nil]
          omega
      · have := leafQ_len v.kind v.flag v.num v.text hn
        omega
    · cases l with
      | nil => rw [partsQ_nil]; simp
      | cons v r =>
        obtain ⟨hn, hi, hr⟩ := NumsOk.cons.1 hok
        simp only [List.cons.sizeOf_spec] at h
        have h1 := ih.1 v d (by omega) (NumsOk.cons.2 ⟨hn, hi, by rw [NumsOk]; trivial⟩)
        have h2 := ih.2 r d tb ks (i + 1) (by omega) hr
        have h3 := headQ_len tb ks i
        rw [partsQ_cons]
        have e : valsW (v :: r) = valW v + valsW r := by rw [valsW_cons]; unfold valW; rfl
        rw [e]
        split
        · simp only [List.length_append]
          omega
        · simp
theorem ownQ_len {v : Val} {d : Nat} (h : NumsOk [v]) : (ownQ d v).2.length + 4 ≤ 160 * valW v := (quote_lens _).1 v d (Nat.le_refl _) h
theorem valsW_drop {l : List Val} {j : Nat} {v : Val} (h : l[j]? = some v) : valsW (l.drop j) = valW v + valsW (l.drop (j + 1)) := by
  obtain ⟨hk, rfl⟩ := List.getElem?_eq_some_iff.1 h
  rw [List.drop_eq_getElem_cons hk, valsW_cons]
  unfold valW
  rfl
theorem NumsOk.at_ : ∀ {l : List Val} {j : Nat} {v : Val}, NumsOk l → l[j]? = some v → NumsOk [v]
  | [], j, v, _, h => by simp at h
  | a :: r, 0, v, h, hv => by
    simp only [List.getElem?_cons_zero, Option.some.injEq] at hv
    subst hv
    obtain ⟨h1, h2, _⟩ := NumsOk.cons.1 h
    exact NumsOk.cons.2 ⟨h1, h2, by rw [NumsOk]; trivial⟩
  | a :: r, j + 1, v, h, hv => NumsOk.at_ (NumsOk.cons.1 h).2.2 (by simpa using hv)
theorem nums_of_in {w : World} {P : Nat → Prop} {v : Value} {l : List Val} (h : ValsIn w P v l) : NumsOk l := by
  induction h with
  | mk A c l b o iv kv hlc hc hA hcell hitems hkeys ih =>
    have key : ∀ (m : List Val), (∀ x ∈ m, I64 x.num ∧ NumsOk x.items) → NumsOk m := by
      intro m
      induction m with
      | nil => intro _; rw [NumsOk]; trivial
      | cons a r ihr =>
        intro hm
        exact NumsOk.cons.2 ⟨(hm a (List.mem_cons_self ..)).1, (hm a (List.mem_cons_self ..)).2, ihr fun x hx => hm x (List.mem_cons_of_mem _ hx)⟩
    refine key l fun x hx => ?_
    obtain ⟨i, hi⟩ := List.getElem?_of_mem hx
    exact ⟨(hcell i x hi).2.2.1, ih i x hi⟩

end Go.Proofs.YtebhbgamdhjdkaaDoor
