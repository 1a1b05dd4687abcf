/-
  ship.NewIndex: a word's two rows pushed in one drawn region: the invariant.
-/
import Derived.Test.YtmcelgokchhpfaaGreatDoorNixIn
import Derived.Test.YtmcelgokchhpfaaGreatDoorRegInv
namespace Go.Proofs.YtmcelgokchhpfaaGreatDoor
open Go.RowKit Go.Deep

theorem updT_self {α : Type} (f : List UInt8 → α) (s : List UInt8) : updT f s (f s) = f := by
  funext t
  by_cases e : t = s
  · rw [e, updT_same]
  · rw [updT_ne _ _ e]
theorem updT_updT {α : Type} (f : List UInt8 → α) (s : List UInt8) (a b : α) : updT (updT f s a) s b = updT f s b := by
  funext t
  by_cases e : t = s
  · rw [e, updT_same, updT_same]
  · rw [updT_ne _ _ e, updT_ne _ _ e, updT_ne _ _ e]
/-- how a word's row of counts comes to its next state -/
theorem many_step {W : Nat → List UInt8 → Nat} {n : Nat} {v : List UInt8 → Nat} {s : List UInt8} {m : Nat} (hm : 0 < m) :
    ∃ (M6 : List Int) (j : Nat), M6.length = (qD W n (vAdd v s m) s).length ∧ j + 1 = M6.length ∧ M6[j]? = some ((v s : Nat) : Int) ∧ qM W n (vAdd v s m) s = M6.set j (((v s : Nat) : Int) + ((m : Nat) : Int)) ∧
      (v s = 0 → M6 = qM W n v s ++ [0] ∧ qD W n (vAdd v s m) s = qD W n v s ++ [(n : Int)]) ∧ (¬ v s = 0 → M6 = qM W n v s ∧ qD W n (vAdd v s m) s = qD W n v s) := by
  by_cases h : v s = 0
  · refine ⟨qM W n v s ++ [0], (qM W n v s).length, by rw [qD_new hm h, List.length_append, List.length_append, qD_len]; rfl, by simp, by rw [h]; simp, ?_, fun _ => ⟨rfl, qD_new hm h⟩, fun h2 => absurd h h2⟩
    rw [qM_new hm h, h, List.set_append_right _ _ (Nat.le_refl _), Nat.sub_self]
    simp
  · obtain ⟨k, h1, h2, h3⟩ := qM_old (W := W) (n := n) (v := v) (s := s) (m := m) (by omega)
    exact ⟨qM W n v s, k, by rw [qD_old (by omega), qD_len], h1, h2, h3, fun h2 => absurd h2 h, fun _ => ⟨rfl, qD_old (by omega)⟩⟩
theorem getD_at {L : Array Bool} {i : Nat} (h : L.getD i true = false) (b : Bool) : (L.setIfInBounds i true).getD i b = true := by
  have hi : i < L.size := by
    rcases Nat.lt_or_ge i L.size with h1 | h1
    · exact h1
    · simp [h1] at h
  simp [hi]
theorem own_frozen {w : World} {B K g n cap j : Nat} {e : TypeId} {xs : List Value} (h : w.ownsRow B e K (.slice (some ⟨g, 0, none⟩) n cap) n xs) : w.frozen? ⟨g, j, none⟩ = false := by
  rcases h.2 with ⟨h2, _⟩ | ⟨g2, cap2, cur, h2, _, hg, _⟩
  · cases h2
  · cases h2
    exact frozen_of_row w g j cur e hg
theorem intCells_set (l : List Int) (j : Nat) (n : Int) : (intCells l).set j (.int .i64 n) = intCells (l.set j n) := by simp [intCells, List.map_set]

/-- the memory while two numbers are pushed -/
structure W37 (N bk : Nat) (Ad Am : Option Addr) (nD cd cm : Nat) (k : Int) (dl ml : List Int) (p1 : ByteArray) (W1 : World) (p q : Bool) (x8 x14 : Value) (w : World) : Prop where
  ht : CB w bk 44 #[.string p1, .slice Ad nD cd, .slice Am nD cm]
  hb : GrownX (fun b => (Value.slice Ad nD cd).ownBlock = some b ∨ (Value.slice Am nD cm).ownBlock = some b) W1 w
  hN : N ≤ W1.heap.size
  lt : ∀ b, (Value.slice Ad nD cd).ownBlock = some b → b < W1.heap.size
  h0 : p = false → q = false ∧ w.ownsRow N 3 1 (.slice Ad nD cd) (nD) (intCells (dl)) ∧ w.ownsRow N 3 1 (.slice Am nD cm) (nD) (intCells (ml)) ∧ Apart (.slice Ad nD cd) (.slice Am nD cm)
  h1 : p = true → q = false → w.ownsRow N 3 1 (x8) (nD + 1) (intCells (dl ++ [k])) ∧ w.ownsRow N 3 1 (.slice Am nD cm) (nD) (intCells (ml)) ∧ Apart x8 (.slice Am nD cm) ∧ (∀ b, (x8).ownBlock = some b → (Value.slice Ad nD cd).ownBlock = some b ∨ W1.heap.size ≤ b)
  h2 : q = true → w.ownsRow N 3 1 (x8) (nD + 1) (intCells (dl ++ [k])) ∧ w.ownsRow N 3 1 (x14) (nD + 1) (intCells (ml ++ [0])) ∧ Apart x8 x14 ∧ (∀ b, (x8).ownBlock = some b → (Value.slice Ad nD cd).ownBlock = some b ∨ W1.heap.size ≤ b) ∧ (∀ b, (x14).ownBlock = some b → (Value.slice Am nD cm).ownBlock = some b ∨ W1.heap.size ≤ b)
theorem W37.start {N bk : Nat} {Ad Am : Option Addr} {nD cd cm : Nat} {k : Int} {dl ml : List Int} {p1 : ByteArray} {W1 : World} {x8 x14 : Value} (ht : CB W1 bk 44 #[.string p1, .slice Ad nD cd, .slice Am nD cm]) (hN : N ≤ W1.heap.size) (h1 : W1.ownsRow N 3 1 (.slice Ad nD cd) nD (intCells dl)) (h2 : W1.ownsRow N 3 1 (.slice Am nD cm) nD (intCells ml)) (h3 : Apart (.slice Ad nD cd) (.slice Am nD cm)) : W37 N bk Ad Am nD cd cm k dl ml p1 W1 false false x8 x14 W1 :=
  ⟨ht, GrownX.refl _ _, hN, fun b hb => own_lt h1 b hb, fun _ => ⟨rfl, h1, h2, h3⟩, fun h => (by cases h), fun h => (by cases h)⟩
theorem W37.alloc {N bk : Nat} {Ad Am : Option Addr} {nD cd cm : Nat} {k : Int} {dl ml : List Int} {p1 : ByteArray} {W1 : World} {p q : Bool} {x8 x14 : Value} {w : World} (h : W37 N bk Ad Am nD cd cm k dl ml p1 W1 p q x8 x14 w) (o : Obj) : W37 N bk Ad Am nD cd cm k dl ml p1 W1 p q x8 x14 (w.alloc o) :=
  ⟨h.ht.alloc o, h.hb.alloc o, h.hN, h.lt, fun hp => ⟨(h.h0 hp).1, own_alloc (h.h0 hp).2.1 o, own_alloc (h.h0 hp).2.2.1 o, (h.h0 hp).2.2.2⟩, fun hp hq => ⟨own_alloc (h.h1 hp hq).1 o, own_alloc (h.h1 hp hq).2.1 o, (h.h1 hp hq).2.2⟩, fun hq => ⟨own_alloc (h.h2 hq).1 o, own_alloc (h.h2 hq).2.1 o, (h.h2 hq).2.2⟩⟩
theorem W37.step {N bk : Nat} {Ad Am : Option Addr} {nD cd cm : Nat} {k : Int} {dl ml : List Int} {p1 : ByteArray} {W1 : World} {L : Array Bool} {i : Nat} {x8 x14 : Value} {w : World} (h1 : i ≠ 8) (h2 : i ≠ 14) (h : W37 N bk Ad Am nD cd cm k dl ml p1 W1 (L.getD 8 false) (L.getD 14 false) x8 x14 w) : W37 N bk Ad Am nD cd cm k dl ml p1 W1 ((L.setIfInBounds i true).getD 8 false) ((L.setIfInBounds i true).getD 14 false) x8 x14 w := by
  rw [getD_set_ne false h1, getD_set_ne false h2]; exact h
def W38 (N bk : Nat) (Ad Am : Option Addr) (nD cd cm : Nat) (k : Int) (dl ml : List Int) (p1 : ByteArray) (W1 : World) (x8 x14 : Value) (w : World) : Prop := ∃ wz, W37 N bk Ad Am nD cd cm k dl ml p1 W1 true true x8 x14 wz ∧ w = wz.setCell ⟨bk, 1, none⟩ x8
def W39 (N bk : Nat) (Ad Am : Option Addr) (nD cd cm : Nat) (k : Int) (dl ml : List Int) (p1 : ByteArray) (W1 : World) (x8 x14 : Value) (w : World) : Prop := ∃ wz, W37 N bk Ad Am nD cd cm k dl ml p1 W1 true true x8 x14 wz ∧ w = (wz.setCell ⟨bk, 1, none⟩ x8).setCell ⟨bk, 2, none⟩ x14
/-- the memory at a set of what has come up -/
structure WS37 (N bk : Nat) (Ad Am : Option Addr) (nD cd cm : Nat) (k : Int) (dl ml : List Int) (p1 : ByteArray) (W1 : World) (L : Array Bool) (x8 x14 : Value) (w : World) : Prop where
  w0 : L.getD 17 false = false → W37 N bk Ad Am nD cd cm k dl ml p1 W1 (L.getD 8 false) (L.getD 14 false) x8 x14 w
  w1 : L.getD 17 false = true → L.getD 20 false = false → W38 N bk Ad Am nD cd cm k dl ml p1 W1 x8 x14 w
  w2 : L.getD 20 false = true → W39 N bk Ad Am nD cd cm k dl ml p1 W1 x8 x14 w
theorem WS37.same {N bk : Nat} {Ad Am : Option Addr} {nD cd cm : Nat} {k : Int} {dl ml : List Int} {p1 : ByteArray} {W1 : World} {L : Array Bool} {i : Nat} {x8 x14 : Value} {w : World} (h1 : i ≠ 8) (h2 : i ≠ 14) (h3 : i ≠ 17) (h4 : i ≠ 20) (h : WS37 N bk Ad Am nD cd cm k dl ml p1 W1 L x8 x14 w) : WS37 N bk Ad Am nD cd cm k dl ml p1 W1 (L.setIfInBounds i true) x8 x14 w := by
  refine ⟨?_, ?_, ?_⟩
  · rw [getD_set_ne false h1, getD_set_ne false h2, getD_set_ne false h3]; exact h.w0
  · rw [getD_set_ne false h3, getD_set_ne false h4]; exact h.w1
  · rw [getD_set_ne false h4]; exact h.w2
/-- what waits for i has not come up while i is ready -/
theorem not_yet {md : Region.Mode} {ops : Array Oper} {L : Array Bool} {i k : Nat} (hs : ShutL md ops L) (hr : i ∈ Region.ready md ops L) (hc : (ancOf md ops ops.size k).contains i = true) : L.getD k false = false := by
  cases h : L.getD k false with
  | false => rfl
  | true =>
    have h1 := hs.anc ops.size k (hs k h) i (by simpa using hc)
    rw [ready_un hr] at h1
    cases h1
theorem WS37.before {N bk : Nat} {Ad Am : Option Addr} {nD cd cm : Nat} {k : Int} {dl ml : List Int} {p1 : ByteArray} {W1 : World} {L : Array Bool} {i : Nat} {x8 x14 : Value} {w : World} (h3 : i ≠ 17) (h4 : i ≠ 20) (n17 : L.getD 17 false = false) (n20 : L.getD 20 false = false) (h : W37 N bk Ad Am nD cd cm k dl ml p1 W1 ((L.setIfInBounds i true).getD 8 false) ((L.setIfInBounds i true).getD 14 false) x8 x14 w) : WS37 N bk Ad Am nD cd cm k dl ml p1 W1 (L.setIfInBounds i true) x8 x14 w := by
  refine ⟨fun _ => h, fun h1 => ?_, fun h1 => ?_⟩
  · rw [getD_set_ne false h3, n17] at h1; cases h1
  · rw [getD_set_ne false h4, n20] at h1; cases h1
def IR37 (fr : Value → Value → Value → Value → Value → Value → Value → Value → Value → Value → Value → Value → Value → Value → Value → Value → Value → Value → Value → Act) (N bk : Nat) (Ad Am : Option Addr) (nD cd cm : Nat) (k : Int) (dl ml : List Int) (p1 : ByteArray) (W1 : World) (L : Array Bool) (a : Act) (w : World) : Prop :=
  ∃ x0 x1 x2 x3 x4 x5 x6 x7 x8 x9 x10 x11 x12 x13 x14 x15 x16 x18 x19 : Value, a = fr x0 x1 x2 x3 x4 x5 x6 x7 x8 x9 x10 x11 x12 x13 x14 x15 x16 x18 x19 ∧ WS37 N bk Ad Am nD cd cm k dl ml p1 W1 L x8 x14 w ∧ (L.getD 0 false = true → x0 = .pointer (some ⟨bk, 0, none⟩)) ∧ (L.getD 1 false = true → x1 = .pointer (some ⟨bk, 0, none⟩)) ∧ (L.getD 2 false = true → x2 = .pointer (some ⟨bk, 0, none⟩)) ∧ (L.getD 3 false = true → x3 = .pointer (some ⟨bk, 0, none⟩)) ∧ (L.getD 4 false = true → x4 = .pointer (some ⟨bk, 1, none⟩)) ∧ (L.getD 5 false = true → x5 = .slice Ad nD cd) ∧ (L.getD 6 false = true → x6 = .int .i64 k) ∧ (L.getD 7 false = true → L.getD 8 false = false → ∃ gd : Nat, x7 = .slice (some ⟨gd, 0, none⟩) 1 1 ∧ W1.heap.size ≤ gd ∧ gd < w.heap.size ∧ CB w gd 3 #[.int .i64 k]) ∧ (L.getD 8 false = true → ∃ g7 k7 : Nat, x8 = .slice (some ⟨g7, 0, none⟩) (nD + 1) k7) ∧ (L.getD 9 false = true → x9 = .pointer (some ⟨bk, 0, none⟩)) ∧ (L.getD 10 false = true → x10 = .pointer (some ⟨bk, 0, none⟩)) ∧ (L.getD 11 false = true → x11 = .pointer (some ⟨bk, 2, none⟩)) ∧ (L.getD 12 false = true → x12 = .slice Am nD cm) ∧ (L.getD 13 false = true → L.getD 14 false = false → ∃ gi : Nat, x13 = .slice (some ⟨gi, 0, none⟩) 1 1 ∧ CB w gi 3 #[.int .i64 0] ∧ (∀ b, (Value.slice Ad nD cd).ownBlock = some b → b ≠ gi)) ∧ (L.getD 14 false = true → ∃ g9 k9 : Nat, x14 = .slice (some ⟨g9, 0, none⟩) (nD + 1) k9) ∧ (L.getD 15 false = true → x15 = .pointer (some ⟨bk, 0, none⟩)) ∧ (L.getD 16 false = true → x16 = .pointer (some ⟨bk, 1, none⟩)) ∧ (L.getD 18 false = true → x18 = .pointer (some ⟨bk, 0, none⟩)) ∧ (L.getD 19 false = true → x19 = .pointer (some ⟨bk, 2, none⟩))
theorem IR37.start {m : Nat} {fr : Value → Value → Value → Value → Value → Value → Value → Value → Value → Value → Value → Value → Value → Value → Value → Value → Value → Value → Value → Act} {N bk : Nat} {Ad Am : Option Addr} {nD cd cm : Nat} {k : Int} {dl ml : List Int} {p1 : ByteArray} {W1 : World} {a : Act} {w : World} (x0 x1 x2 x3 x4 x5 x6 x7 x8 x9 x10 x11 x12 x13 x14 x15 x16 x18 x19 : Value) (h : a = fr x0 x1 x2 x3 x4 x5 x6 x7 x8 x9 x10 x11 x12 x13 x14 x15 x16 x18 x19) (hW : W37 N bk Ad Am nD cd cm k dl ml p1 W1 false false x8 x14 w) : IR37 fr N bk Ad Am nD cd cm k dl ml p1 W1 (Array.replicate m false) a w :=
  ⟨x0, x1, x2, x3, x4, x5, x6, x7, x8, x9, x10, x11, x12, x13, x14, x15, x16, x18, x19, h, ⟨fun _ => by rw [getD_replicate_false, getD_replicate_false]; exact hW, fun h => (by rw [getD_replicate_false] at h; cases h), fun h => (by rw [getD_replicate_false] at h; cases h)⟩, (fun h => by rw [getD_replicate_false] at h; cases h), (fun h => by rw [getD_replicate_false] at h; cases h), (fun h => by rw [getD_replicate_false] at h; cases h), (fun h => by rw [getD_replicate_false] at h; cases h), (fun h => by rw [getD_replicate_false] at h; cases h), (fun h => by rw [getD_replicate_false] at h; cases h), (fun h => by rw [getD_replicate_false] at h; cases h), (fun h => by rw [getD_replicate_false] at h; cases h), (fun h => by rw [getD_replicate_false] at h; cases h), (fun h => by rw [getD_replicate_false] at h; cases h), (fun h => by rw [getD_replicate_false] at h; cases h), (fun h => by rw [getD_replicate_false] at h; cases h), (fun h => by rw [getD_replicate_false] at h; cases h), (fun h => by rw [getD_replicate_false] at h; cases h), (fun h => by rw [getD_replicate_false] at h; cases h), (fun h => by rw [getD_replicate_false] at h; cases h), (fun h => by rw [getD_replicate_false] at h; cases h), (fun h => by rw [getD_replicate_false] at h; cases h), (fun h => by rw [getD_replicate_false] at h; cases h)⟩

end Go.Proofs.YtmcelgokchhpfaaGreatDoor
