/-
  Values (api.Value, with what is below) as they lie in memory, by the blocks that they lie in, and how an argument is opened into them.
-/
import Derived.Test.YtphmhhonbkcajaaDoorOwn
namespace Go.Proofs.YtphmhhonbkcajaaDoor
open Go.RowKit Go.ChangeShapes Go.WideShapes Go.Deep

/-- a value of settings and templates -/
inductive Val where
  | mk (kind : Int) (flag : Bool) (num : Int) (text : ByteArray) (items : List Val) (keys : List ByteArray)
namespace Val
def kind : Val → Int | .mk k _ _ _ _ _ => k
def flag : Val → Bool | .mk _ k _ _ _ _ => k
def num : Val → Int | .mk _ _ k _ _ _ => k
def text : Val → ByteArray | .mk _ _ _ k _ _ => k
def items : Val → List Val | .mk _ _ _ _ k _ => k
def keys : Val → List ByteArray | .mk _ _ _ _ _ k => k
theorem items_lt (n : Val) : SizeOf.sizeOf n.items < SizeOf.sizeOf n := by
  cases n; simp [items]; omega
end Val

/-- every block -/
def AnyB : Nat → Prop := fun _ => True

/-- what lies in some blocks of w lies there in w' -/
def KeepsIn (P : Nat → Prop) (w w' : World) : Prop := ∀ (a : Addr) (v : Value), P a.block → w.cell? a = some v → w'.cell? a = some v

theorem KeepsIn.refl (P : Nat → Prop) (w : World) : KeepsIn P w w := fun _ _ _ h => h
theorem KeepsIn.trans {P : Nat → Prop} {a b c : World} (h : KeepsIn P a b) (k : KeepsIn P b c) : KeepsIn P a c := fun x v hp hx => k x v hp (h x v hp hx)
theorem KeepsIn.of_keeps {P : Nat → Prop} {w w' : World} (h : Keeps w w') : KeepsIn P w w' := fun a v _ ha => h a v ha

/-- a slice of strings that lies in some blocks -/
def StrsIn (w : World) (P : Nat → Prop) (v : Value) (l : List ByteArray) : Prop :=
  ∃ (A : Option Addr) (c b o : Nat), v = .slice A l.length c ∧ l.length ≤ c ∧ c ≤ maxLen ∧ (l ≠ [] → A = some ⟨b, o, none⟩ ∧ P b) ∧
    ∀ i s, l[i]? = some s → w.cell? ⟨b, o + i, none⟩ = some (.string s) ∧ s.size ≤ maxLen

theorem StrsIn.keep {w w' : World} {P Q : Nat → Prop} {v : Value} {l : List ByteArray} (h : StrsIn w P v l) (k : KeepsIn P w w') (hq : ∀ b, b < w.heap.size → P b → Q b) : StrsIn w' Q v l := by
  obtain ⟨A, c, b, o, h1, h2, h3, h4, h5⟩ := h
  have hP : ∀ (i : Nat) (s : ByteArray), l[i]? = some s → P b := fun i s hi => (h4 (fun e => by rw [e] at hi; simp at hi)).2
  refine ⟨A, c, b, o, h1, h2, h3, fun hne => ⟨(h4 hne).1, ?_⟩, fun i s hi => ⟨k _ _ (hP i s hi) (h5 i s hi).1, (h5 i s hi).2⟩⟩
  cases l with
  | nil => exact absurd rfl hne
  | cons s r =>
    have := World.block_lt_of_cell? _ _ (h5 0 s rfl).1
    exact hq b this (h4 hne).2
theorem StrsIn.nil (w : World) (P : Nat → Prop) : StrsIn w P (.slice none 0 0) [] := ⟨none, 0, 0, 0, rfl, Nat.le_refl _, by simp [maxLen], fun h => absurd rfl h, fun i s h => by simp at h⟩

structure ValCells (w : World) (b o : Nat) (n : Val) (iv kv : Value) : Prop where
  c0 : w.cell? ⟨b, o, none⟩ = some (.int .i64 n.kind)
  c1 : w.cell? ⟨b, o + 1, none⟩ = some (.bool n.flag)
  c2 : w.cell? ⟨b, o + 2, none⟩ = some (.int .i64 n.num)
  c3 : w.cell? ⟨b, o + 3, none⟩ = some (.string n.text)
  c4 : w.cell? ⟨b, o + 4, none⟩ = some iv
  c5 : w.cell? ⟨b, o + 5, none⟩ = some kv

/-- numbers and texts that the model holds -/
def ValOk (n : Val) : Prop := I64 n.kind ∧ I64 n.num ∧ n.text.size ≤ maxLen

/-- a slice of values that lies in some blocks, with all below -/
inductive ValsIn (w : World) (P : Nat → Prop) : Value → List Val → Prop
  | mk (A : Option Addr) (c : Nat) (l : List Val) (b o : Nat) (iv kv : Nat → Value) (hlc : l.length ≤ c) (hc : c ≤ maxLen)
      (hA : l ≠ [] → A = some ⟨b, o, none⟩ ∧ P b) (hcell : ∀ i n, l[i]? = some n → ValCells w b (o + i * 6) n (iv i) (kv i) ∧ ValOk n)
      (hitems : ∀ i n, l[i]? = some n → ValsIn w P (iv i) n.items) (hkeys : ∀ i n, l[i]? = some n → StrsIn w P (kv i) n.keys) : ValsIn w P (.slice A l.length c) l

theorem ValsIn.inv {w : World} {P : Nat → Prop} {v : Value} {l : List Val} (h : ValsIn w P v l) :
    ∃ (A : Option Addr) (c b o : Nat) (iv kv : Nat → Value), v = .slice A l.length c ∧ l.length ≤ c ∧ c ≤ maxLen ∧ (l ≠ [] → A = some ⟨b, o, none⟩ ∧ P b) ∧
      (∀ i n, l[i]? = some n → ValCells w b (o + i * 6) n (iv i) (kv i) ∧ ValOk n) ∧ (∀ i n, l[i]? = some n → ValsIn w P (iv i) n.items) ∧ (∀ i n, l[i]? = some n → StrsIn w P (kv i) n.keys) := by
  cases h with
  | mk A c _ b o iv kv hlc hc hA hcell hitems hkeys => exact ⟨A, c, b, o, iv, kv, rfl, hlc, hc, hA, hcell, hitems, hkeys⟩

theorem ValsIn.keep {w w' : World} {P Q : Nat → Prop} {v : Value} {l : List Val} (h : ValsIn w P v l) (k : KeepsIn P w w') (hq : ∀ b, b < w.heap.size → P b → Q b) : ValsIn w' Q v l := by
  induction h with
  | mk A c l b o iv kv hlc hc hA hcell hitems hkeys ih =>
    have hP : ∀ (i : Nat) (n : Val), l[i]? = some n → P b := fun i s hi => (hA (fun e => by rw [e] at hi; simp at hi)).2
    refine .mk A c l b o iv kv hlc hc (fun hne => ⟨(hA hne).1, ?_⟩) (fun i n hi => ?_) ih (fun i n hi => (hkeys i n hi).keep k hq)
    · cases l with
      | nil => exact absurd rfl hne
      | cons s r =>
        have := World.block_lt_of_cell? _ _ (hcell 0 s rfl).1.c0
        exact hq b this (hA hne).2
    · obtain ⟨⟨c0, c1, c2, c3, c4, c5⟩, ok⟩ := hcell i n hi
      have hp := hP i n hi
      exact ⟨⟨k _ _ hp c0, k _ _ hp c1, k _ _ hp c2, k _ _ hp c3, k _ _ hp c4, k _ _ hp c5⟩, ok⟩

theorem ValsIn.nil (w : World) (P : Nat → Prop) : ValsIn w P (.slice none 0 0) [] :=
  .mk none 0 [] 0 0 (fun _ => .slice none 0 0) (fun _ => .slice none 0 0) (Nat.le_refl _) (by simp [maxLen]) (fun h => absurd rfl h) (fun i n h => by simp at h) (fun i n h => by simp at h) (fun i n h => by simp at h)

/-- a value as it is handed over -/
def valAgg (n : Val) (iv kv : Value) : Value := .agg #[.int .i64 n.kind, .bool n.flag, .int .i64 n.num, .string n.text, iv, kv]

/-- one value, with all below in some blocks -/
def ValIn (w : World) (P : Nat → Prop) (v : Value) (n : Val) : Prop := ∃ iv kv, v = valAgg n iv kv ∧ ValOk n ∧ ValsIn w P iv n.items ∧ StrsIn w P kv n.keys

theorem ValIn.keep {w w' : World} {P Q : Nat → Prop} {v : Value} {n : Val} (h : ValIn w P v n) (k : KeepsIn P w w') (hq : ∀ b, b < w.heap.size → P b → Q b) : ValIn w' Q v n := by
  obtain ⟨iv, kv, h1, h2, h3, h4⟩ := h
  exact ⟨iv, kv, h1, h2, h3.keep k hq, h4.keep k hq⟩

/-- an element of a slice, as it is handed over -/
theorem ValsIn.at {w : World} {P : Nat → Prop} {v : Value} {l : List Val} (h : ValsIn w P v l) {i : Nat} {n : Val} (hi : l[i]? = some n) :
    ∃ (A : Option Addr) (c b o : Nat) (iv kv : Value), v = .slice A l.length c ∧ l.length ≤ c ∧ c ≤ maxLen ∧ A = some ⟨b, o, none⟩ ∧ ValCells w b (o + i * 6) n iv kv ∧ ValIn w P (valAgg n iv kv) n := by
  obtain ⟨A, c, b, o, iv, kv, h1, h2, h3, h4, h5, h6, h7⟩ := h.inv
  exact ⟨A, c, b, o, iv i, kv i, h1, h2, h3, (h4 (fun e => by rw [e] at hi; simp at hi)).1, (h5 i n hi).1, _, _, rfl, (h5 i n hi).2, h6 i n hi, h7 i n hi⟩

/-- how much strings hold -/
def strsW : List ByteArray → Nat
  | [] => 0
  | s :: r => s.size + 1 + strsW r
theorem strsW_sum (l : List ByteArray) : strsW l = sumBy (fun s => s.size + 1) l := by
  induction l with
  | nil => simp [strsW, sumBy]
  | cons n r ih => rw [strsW, ih]; rfl
theorem strsW_mem {l : List ByteArray} {s : ByteArray} (h : s ∈ l) : s.size + 1 ≤ strsW l := by
  induction l with
  | nil => cases h
  | cons a r ih =>
    simp only [strsW]
    cases List.mem_cons.1 h with
    | inl e => subst e; omega
    | inr e => have := ih e; omega
theorem strsW_len (l : List ByteArray) : l.length ≤ strsW l := by
  induction l with
  | nil => simp [strsW]
  | cons a r ih => simp only [strsW, List.length_cons]; omega

/-- how much values hold -/
def valsW : List Val → Nat
  | [] => 0
  | .mk _ _ _ t is ks :: r => t.size + valsW is + strsW ks + 1 + valsW r
theorem valsW_cons (n : Val) (r : List Val) : valsW (n :: r) = n.text.size + valsW n.items + strsW n.keys + 1 + valsW r := by
  cases n; simp [valsW, Val.text, Val.items, Val.keys]
theorem valsW_sum (l : List Val) : valsW l = sumBy (fun n => n.text.size + valsW n.items + strsW n.keys + 1) l := by
  induction l with
  | nil => simp [valsW, sumBy]
  | cons n r ih => rw [valsW_cons, ih]; rfl
/-- how much a value holds -/
def valW (n : Val) : Nat := n.text.size + valsW n.items + strsW n.keys + 1
theorem valsW_len (l : List Val) : l.length ≤ valsW l := by
  induction l with
  | nil => simp [valsW]
  | cons a r ih => rw [valsW_cons, List.length_cons]; omega
theorem valsW_mem {l : List Val} {n : Val} (h : n ∈ l) : valW n ≤ valsW l := by
  induction l with
  | nil => cases h
  | cons a r ih =>
    rw [valsW_cons]
    cases List.mem_cons.1 h with
    | inl e => subst e; unfold valW; omega
    | inr e => have := ih e; omega

theorem cells_val : Tryd.prog.cellsOf 35 = 6 := by kernel_rfl
theorem cells_strV : Tryd.prog.cellsOf 9 = 1 := by kernel_rfl

section
variable {H : Type} {enc : TypeId × Value → H} {w : World} {base : Nat} {spare : Nat → Bool} {held : Bool}

theorem open_strsV (fuel : Nat) (cs : List Value) (x : DataW H × List MemPlace) (h : DataW.trod enc Tryd.prog w base spare held fuel 33 cs = some x) :
    ∃ (v : Value) (l : List ByteArray), cs = [v] ∧ StrsIn w AnyB v l ∧ strsW l + 1 ≤ Rows.uptoBulk x.1 := by
  obtain ⟨A, len, cap, m, b, o, hm, rfl, hlc, hc, hA, hD, hel⟩ := open_cells Tryd.underlying33 cells_strV (by omega) h
  have key : ∀ i, i < len → ∃ s : ByteArray, (w.cell? ⟨b, o + i, none⟩ = some (.string s) ∧ s.size ≤ maxLen) ∧ ∃ d, (elemsOf x.1)[i]? = some d ∧ s.size + 1 ≤ Rows.uptoBulk d := by
    intro i hi
    obtain ⟨cs', y, hl', hat, hdi, hy⟩ := hel i hi
    obtain ⟨s, e0, z0, w0⟩ := DataW.trod_string Tryd.underlying9 hy
    subst e0
    refine ⟨s, ⟨by have := hat 0 (by omega); simpa using this, w0⟩, _, hdi, ?_⟩
    have hs2 : s.data.toList.length = s.size := by rw [Array.length_toList]; rfl
    rw [z0]
    simp only [Rows.uptoBulk, hs2]
    omega
  obtain ⟨l, hll, hp⟩ := exists_list key
  have hw : strsW l ≤ Rows.uptoBulkAll (elemsOf x.1) := by
    rw [strsW_sum]
    refine sumBy_le_bulk (by rw [hll, hD]) (fun i a d ha hd => ?_)
    obtain ⟨_, d', h2, h3⟩ := hp i a ha
    rw [h2] at hd
    injection hd with hd
    subst hd
    exact h3
  have hb := bulk_elems x.1
  refine ⟨_, l, rfl, ⟨A, cap, b, o, by rw [hll], by omega, hc, fun hne => ⟨hA ?_, trivial⟩, fun i s hi => (hp i s hi).1⟩, by omega⟩
  rcases Nat.eq_zero_or_pos len with h0 | h0
  · exact absurd (List.eq_nil_of_length_eq_zero (by omega)) hne
  · exact h0

theorem open_vals : ∀ (fuel : Nat) (cs : List Value) (x : DataW H × List MemPlace), DataW.trod enc Tryd.prog w base spare held fuel 32 cs = some x →
    ∃ (v : Value) (l : List Val), cs = [v] ∧ ValsIn w AnyB v l ∧ valsW l + 1 ≤ Rows.uptoBulk x.1 := by
  intro fuel
  induction fuel using Nat.strongRecOn with
  | _ fuel ih =>
    intro cs x h
    obtain ⟨A, len, cap, m, b, o, hm, rfl, hlc, hc, hA, hD, hel⟩ := open_cells Tryd.underlying32 cells_val (by omega) h
    have key : ∀ i, i < len → ∃ nk : Val × Value × Value, (ValCells w b (o + i * 6) nk.1 nk.2.1 nk.2.2 ∧ ValOk nk.1) ∧ ValsIn w AnyB nk.2.1 nk.1.items ∧ StrsIn w AnyB nk.2.2 nk.1.keys ∧
        ∃ d, (elemsOf x.1)[i]? = some d ∧ nk.1.text.size + valsW nk.1.items + strsW nk.1.keys + 1 ≤ Rows.uptoBulk d := by
      intro i hi
      obtain ⟨cs', y, hl', hat, hdi, hy⟩ := hel i hi
      obtain ⟨m', ys, hm', hyl, hyd, _, hf⟩ := open_fields Tryd.underlying35 (by kernel_rfl) (by kernel_rfl) hy
      obtain ⟨v0, y0, hv0, hy0, t0⟩ := hf 0 _ rfl
      obtain ⟨v1, y1, hv1, hy1, t1⟩ := hf 1 _ rfl
      obtain ⟨v2, y2, hv2, hy2, t2⟩ := hf 2 _ rfl
      obtain ⟨v3, y3, hv3, hy3, t3⟩ := hf 3 _ rfl
      obtain ⟨v4, y4, hv4, hy4, t4⟩ := hf 4 _ rfl
      obtain ⟨v5, y5, hv5, hy5, t5⟩ := hf 5 _ rfl
      obtain ⟨k, e0, z0, w0⟩ := DataW.trod_int Tryd.underlying3 t0
      obtain ⟨fl, e1, z1⟩ := DataW.trod_bool Tryd.underlying4 t1
      obtain ⟨nu, e2, z2, w2⟩ := DataW.trod_int Tryd.underlying3 t2
      obtain ⟨tx, e3, z3, w3⟩ := DataW.trod_string Tryd.underlying9 t3
      obtain ⟨iv, is, e4, his, hw4⟩ := ih m' (by omega) _ _ t4
      obtain ⟨kv, ks, e5, hks, hw5⟩ := open_strsV _ _ _ t5
      simp only [List.cons.injEq, and_true] at e0 e1 e2 e3 e4 e5
      subst e0 e1 e2 e3 e4 e5
      refine ⟨(.mk k fl nu tx is ks, v4, v5), ⟨⟨(hat 0 (by omega)).trans hv0, (hat 1 (by omega)).trans hv1, (hat 2 (by omega)).trans hv2, (hat 3 (by omega)).trans hv3, (hat 4 (by omega)).trans hv4, (hat 5 (by omega)).trans hv5⟩,
        I64.of_wf w0, I64.of_wf w2, w3⟩, his, hks, _, hdi, ?_⟩
      match ys, hyl with
      | [a0, a1, a2, a3, a4, a5], _ =>
        simp only [List.getElem?_cons_zero, List.getElem?_cons_succ, Option.some.injEq] at hy0 hy1 hy2 hy3 hy4 hy5
        subst hy0 hy1 hy2 hy3 hy4 hy5
        have hs3 : tx.data.toList.length = tx.size := by rw [Array.length_toList]; rfl
        rw [hyd]
        simp only [List.map_cons, List.map_nil, Rows.uptoBulk, Rows.uptoBulkAll, z0, z1, z2, z3, Val.text, Val.items, Val.keys, hs3]
        omega
    obtain ⟨l, hll, hp⟩ := exists_list key
    have hw : valsW (l.map (·.1)) ≤ Rows.uptoBulkAll (elemsOf x.1) := by
      rw [valsW_sum]
      refine sumBy_le_bulk (by rw [List.length_map, hll, hD]) (fun i a d ha hd => ?_)
      rw [List.getElem?_map, Option.map_eq_some_iff] at ha
      obtain ⟨nk, h1, rfl⟩ := ha
      obtain ⟨_, _, _, d', h2, h3⟩ := hp i nk h1
      rw [h2] at hd
      injection hd with hd
      subst hd
      exact h3
    have hb := bulk_elems x.1
    have hlen : (l.map (·.1)).length = len := by rw [List.length_map, hll]
    refine ⟨_, l.map (·.1), rfl, ?_, by omega⟩
    have := ValsIn.mk (w := w) (P := AnyB) A cap (l.map (·.1)) b o (fun i => (l[i]?.map (·.2.1)).getD (.slice none 0 0)) (fun i => (l[i]?.map (·.2.2)).getD (.slice none 0 0)) (by omega) hc (fun hne => ⟨hA (by
      rcases Nat.eq_zero_or_pos len with h0 | h0
      · exact absurd (List.eq_nil_of_length_eq_zero (by omega)) hne
      · exact h0), trivial⟩) (fun i n hi => ?_) (fun i n hi => ?_) (fun i n hi => ?_)
    · rw [hlen] at this; exact this
    · rw [List.getElem?_map, Option.map_eq_some_iff] at hi
      obtain ⟨nk, h1, rfl⟩ := hi
      simpa [h1] using (hp i nk h1).1
    · rw [List.getElem?_map, Option.map_eq_some_iff] at hi
      obtain ⟨nk, h1, rfl⟩ := hi
      simpa [h1] using (hp i nk h1).2.1
    · rw [List.getElem?_map, Option.map_eq_some_iff] at hi
      obtain ⟨nk, h1, rfl⟩ := hi
      simpa [h1] using (hp i nk h1).2.2.1

set_option maxRecDepth 100000 in
/-- an argument that is a value -/
theorem open_val {r : Reach} {b0 : Nat} {v : Value} {d : DataW H} {ps : List MemPlace} (hv : Value.okWide Tryd.prog w r b0 35 v) (h : DataW.Trod enc Tryd.prog w base spare held 35 v d ps) :
    ∃ n : Val, ValIn w AnyB v n ∧ valW n ≤ Rows.uptoBulk d := by
  obtain ⟨cs, rfl, hsz⟩ := okWide_struct Tryd.underlying35 hv
  obtain ⟨fuel, hf⟩ := h
  obtain ⟨m', ys, hm', hyl, hyd, hcl, hfl⟩ := open_fields Tryd.underlying35 (by kernel_rfl) (by kernel_rfl) hf
  obtain ⟨v0, y0, hv0, hy0, t0⟩ := hfl 0 _ rfl
  obtain ⟨v1, y1, hv1, hy1, t1⟩ := hfl 1 _ rfl
  obtain ⟨v2, y2, hv2, hy2, t2⟩ := hfl 2 _ rfl
  obtain ⟨v3, y3, hv3, hy3, t3⟩ := hfl 3 _ rfl
  obtain ⟨v4, y4, hv4, hy4, t4⟩ := hfl 4 _ rfl
  obtain ⟨v5, y5, hv5, hy5, t5⟩ := hfl 5 _ rfl
  obtain ⟨k, e0, z0, w0⟩ := DataW.trod_int Tryd.underlying3 t0
  obtain ⟨fl, e1, z1⟩ := DataW.trod_bool Tryd.underlying4 t1
  obtain ⟨nu, e2, z2, w2⟩ := DataW.trod_int Tryd.underlying3 t2
  obtain ⟨tx, e3, z3, w3⟩ := DataW.trod_string Tryd.underlying9 t3
  obtain ⟨iv, is, e4, his, hw4⟩ := open_vals _ _ _ t4
  obtain ⟨kv, ks, e5, hks, hw5⟩ := open_strsV _ _ _ t5
  simp only [List.cons.injEq, and_true] at e0 e1 e2 e3 e4 e5
  subst e0 e1 e2 e3 e4 e5
  refine ⟨.mk k fl nu tx is ks, ⟨v4, v5, ?_, ⟨I64.of_wf w0, I64.of_wf w2, w3⟩, his, hks⟩, ?_⟩
  · obtain ⟨l⟩ := cs
    simp only [Value.cells] at hv0 hv1 hv2 hv3 hv4 hv5 hcl
    match l, hcl with
    | [a0, a1, a2, a3, a4, a5], _ =>
      simp only [List.getElem?_cons_zero, List.getElem?_cons_succ, Option.some.injEq] at hv0 hv1 hv2 hv3 hv4 hv5
      subst hv0 hv1 hv2 hv3 hv4 hv5
      rfl
  · match ys, hyl with
    | [a0, a1, a2, a3, a4, a5], _ =>
      simp only [List.getElem?_cons_zero, List.getElem?_cons_succ, Option.some.injEq] at hy0 hy1 hy2 hy3 hy4 hy5
      subst hy0 hy1 hy2 hy3 hy4 hy5
      have hs3 : tx.data.toList.length = tx.size := by rw [Array.length_toList]; rfl
      have hyd : d = _ := hyd
      rw [hyd]
      simp only [List.map_cons, List.map_nil, Rows.uptoBulk, Rows.uptoBulkAll, z0, z1, z2, z3, valW, Val.text, Val.items, Val.keys, hs3]
      omega
end

end Go.Proofs.YtphmhhonbkcajaaDoor
