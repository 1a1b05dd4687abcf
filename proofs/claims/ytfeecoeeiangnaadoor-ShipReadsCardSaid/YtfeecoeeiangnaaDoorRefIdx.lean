/-
  mastref1.IndexRead.
-/
import Derived.Test.YtfeecoeeiangnaaDoorReadIdx
import Derived.Test.YtfeecoeeiangnaaDoorIdxError
namespace Go.Proofs.YtfeecoeeiangnaaDoor
open Go.RowKit Go.Deep

def LinesPost (x : List UInt8) (w : World) (e : Ending) (w' : World) : Prop :=
  ∃ (Lb : List ByteArray) (A : Option Addr), e = .returned (.slice A Lb.length Lb.length) ∧ Lb.map (·.data.toList) = textL x ∧ (0 < Lb.length → A = some ⟨w.heap.size, 0, none⟩ ∧ CB w' w.heap.size 9 (Lb.map Value.string).toArray) ∧ Below w.heap.size w w'
set_option maxRecDepth 100000 in
set_option maxHeartbeats 2000000 in
theorem lines_q (s : ByteArray) (w : World) (hs : s.size ≤ 1048576) (hm : MaxAt w) (h : s.data.toList = [] ∨ Lib.hasSuffix s.data.toList [10] = true) : Calls Tryd.prog 22 #[.string s] w (LinesPost s.data.toList w) := by
  have HMx := Lib.hid hm; clear hm
  have hl63 : s.size ≤ 9223372036854775807 := by omega
  by_cases h0 : s.data.toList = []
  · have e1 := isE_true h0
    have HS := Lib.hid (show Lib.hasSuffix s.data.toList (⟨#[10]⟩ : ByteArray).data.toList = false by rw [h0]; rfl)
    have HT := Lib.hid (show textL s.data.toList = [] by rw [textL, if_pos h0])
    clear h h0
    go_enter Tryd.func22, Tryd.ntmps22
    go_wp2_with (go_at_call 16; go_must (refine (hasSuffix_v s ⟨#[10]⟩ false _ hl63 HS.out).mono ?_); rintro e w1 ⟨rfl, rfl⟩)
    go_ret
    exact ⟨[], none, rfl, by rw [HT.out]; rfl, fun h => absurd h (by simp), Below.refl _ _⟩
  · have h1 : Lib.hasSuffix s.data.toList [10] = true := h.resolve_left h0
    have HS := Lib.hid (show Lib.hasSuffix s.data.toList (⟨#[10]⟩ : ByteArray).data.toList = true from h1)
    have HT := Lib.hid (show textL s.data.toList = splitC 10 s.data.toList.dropLast by rw [textL, if_neg h0])
    have hsz := size_of_ne h0
    have hsz1 : (0 : Int) ≤ (s.size : Int) - 1 := by omega
    have hsz2 : ((s.size : Int) - 1).toNat = s.size - 1 := by omega
    obtain ⟨t, ht⟩ : ∃ t, s.extract 0 (s.size - 1) = t := ⟨_, rfl⟩
    have htd : t.data.toList = s.data.toList.dropLast := by rw [← ht, ext_take, List.dropLast_eq_take, size_toList]
    have hts : t.size ≤ 1048576 := by rw [← ht, ByteArray.size_extract]; omega
    have HTd := Lib.hid htd
    clear h h0 h1 htd
    go_enter Tryd.func22, Tryd.ntmps22
    go_wp2_with (first | (go_at_call 16; go_must (refine (hasSuffix_v s ⟨#[10]⟩ true _ hl63 HS.out).mono ?_); rintro e w1 ⟨rfl, rfl⟩) | (go_at_call 25; go_must (refine (splitC_q t 10 _ hts HMx.out).mono ?_); rintro e w2 ⟨p, Q, rfl, hcp, hp, hQ, hb, _⟩; have HCp := Lib.hid hcp; have HP := Lib.hid hp; have HQ := Lib.hid hQ; have HB := Lib.hid hb; clear hcp hp hQ hb))
    go_ret
    refine ⟨p :: Q, some ⟨w.heap.size, 0, none⟩, rfl, ?_, fun _ => ⟨rfl, HCp.out⟩, HB.out⟩
    rw [HT.out, ← HTd.out, splitC_eq, List.map_cons, HP.out, HQ.out, splitC_eq 10 t.data.toList]; rfl

theorem doc_form {l : List UInt8} (h : Lib.hasPrefix l docW0 = true) : l = docW0 ++ l.drop 4 := by
  have h1 : docW0 <+: l := by simpa [Lib.hasPrefix] using h
  obtain ⟨t, rfl⟩ := h1
  rfl
theorem term_form {l : List UInt8} (h : Lib.hasPrefix l termW0 = true) : l = termW0 ++ l.drop 5 := by
  have h1 : termW0 <+: l := by simpa [Lib.hasPrefix] using h
  obtain ⟨t, rfl⟩ := h1
  rfl
def docB : List UInt8 := [100, 111, 99]
theorem doc_bef (r : List UInt8) : bef 32 (docW0 ++ r) = docB ∧ aft 32 (docW0 ++ r) = 32 :: r := by
  constructor
  · simp [docW0, bef, docB]
  · simp [docW0, aft]
theorem term_split {l : List UInt8} (h : Lib.hasPrefix l termW0 = true) : (splitC 32 l).tail = splitC 32 (l.drop 5) := by
  have h1 := term_form h
  have h2 : aft 32 (termW0 ++ l.drop 5) = 32 :: l.drop 5 := by simp [termW0, aft]
  rw [splitC_eq, List.tail_cons, h1, h2, if_neg (by simp)]
  rfl
theorem doc_pieces {l : List UInt8} (h : Lib.hasPrefix l docW0 = true) : Lib.splitK [32] 0 3 l = docB :: (if aft 32 (l.drop 4) = [] then [l.drop 4] else if aft 32 (docR1 (l.drop 4)) = [] then [docA (l.drop 4), docR1 (l.drop 4)] else [docA (l.drop 4), docM (l.drop 4), docZ (l.drop 4)]) := by
  have h1 := doc_form h
  obtain ⟨r, hr⟩ : ∃ r, l.drop 4 = r := ⟨_, rfl⟩
  rw [hr] at h1 ⊢
  obtain ⟨h2, h3⟩ := doc_bef r
  rw [h1, splitK_next, h2, h3, if_neg (by simp), List.tail_cons, splitK_next]
  by_cases h4 : aft 32 r = []
  · rw [if_pos h4, if_pos h4]
  · rw [if_neg h4, if_neg h4, splitK_next]
    by_cases h5 : aft 32 (docR1 r) = []
    · rw [if_pos h5, if_pos (show aft 32 (aft 32 r).tail = [] from h5)]; rfl
    · rw [if_neg h5, if_neg (show ¬ aft 32 (aft 32 r).tail = [] from h5), Lib.splitK]; rfl
def SplitNPost (l : List UInt8) (w : World) (e : Ending) (w' : World) : Prop :=
  ∃ (P : List ByteArray) (cs : Array Value), e = .returned (.slice (some ⟨w.heap.size, 0, none⟩) P.length 4) ∧ P.map (·.data.toList) = Lib.splitK [32] 0 3 l ∧ CB w' w.heap.size 9 cs ∧ (∀ (i : Nat) (p : ByteArray), P[i]? = some p → cs[i]? = some (Value.string p)) ∧ Below w.heap.size w w'
theorem splitN4_q (s : ByteArray) (w : World) (hs : s.size ≤ 1048576) (h4 : 4 ≤ s.size) (hm : MaxAt w) : Calls Tryd.prog 23 #[.string s, .string ⟨#[32]⟩, .int .i64 4] w (SplitNPost s.data.toList w) := by
  obtain ⟨m, hm⟩ := hm
  refine (Tryd.strings_SplitN s ⟨#[32]⟩ 4 m w (by omega) hm (by decide) (by omega) (by omega)).mono fun e w' ⟨he, hw⟩ => ?_
  have hmin : min 4 (s.size + 1) = 4 := by omega
  rw [hmin] at he hw
  refine ⟨Lib.splitB ⟨#[32]⟩ 0 3 s, _, he, Lib.splitB_data _ _ _ _, by rw [hw]; exact CB.new _ _ _, fun i p hp => ?_, by rw [hw]; exact (Below.refl _ _).alloc (Nat.le_refl _) _⟩
  unfold Lib.cellsOf
  have hi := (List.getElem?_eq_some_iff.1 hp).1
  rw [List.getElem?_toArray]
  rw [List.getElem?_append_left (by simpa using hi), List.getElem?_map, hp]; rfl
theorem all_take {Q : List ByteArray} {j : Nat} {q : ByteArray} {f : ByteArray → Bool} (h : Q[j]? = some q) : (Q.take (j + 1)).all f = ((Q.take j).all f && f q) := by
  obtain ⟨hj, rfl⟩ := List.getElem?_eq_some_iff.1 h
  rw [List.take_succ_eq_append_getElem hj, List.all_append]
  simp
theorem term_not {l : List UInt8} {Q : List ByteArray} (hQ : Q.map (·.data.toList) = (splitC 32 l).tail) (h : (Q.all fun q => pairOk q.data.toList) = false) : termOk l = false := by
  have h1 : (Q.map (·.data.toList)).all pairOk = false := by rw [List.all_map]; exact h
  rw [termOk, ← hQ, h1, Bool.and_false]
/-- the memory while a document and its size are pushed -/
structure W15 (N gp g : Nat) (A1 A2 A3 : Option Addr) (c1 c2 c3 : Nat) (b1 b3 : ByteArray) (vn : Int) (st : St) (lb pc : Array Value) (W1 : World) (p q : Bool) (x10 x15 : Value) (w : World) : Prop where
  hx : CB w (N + 1) 26 #[.slice A1 st.D.length c1, .slice A2 st.S.length c2, .slice A3 ([] : List (TermR × Value × Value)).length c3]
  hr : CB w N 26 #[.slice none 0 0, .slice none 0 0, .slice none 0 0]
  hg : CB w g 9 lb
  hp : CB w gp 9 pc
  hb : Below (N + 1) W1 w
  h0 : p = false → q = false ∧ IdxOwn w (N + 1) (.slice A1 st.D.length c1) (.slice A2 st.S.length c2) (.slice A3 ([] : List (TermR × Value × Value)).length c3) st []
  h1 : p = true → q = false → IdxOwn w (N + 1) x10 (.slice A2 st.S.length c2) (.slice A3 ([] : List (TermR × Value × Value)).length c3) ⟨st.D ++ [⟨b1, b3, ⟨#[]⟩⟩], st.S, st.T⟩ []
  h2 : q = true → IdxOwn w (N + 1) x10 x15 (.slice A3 ([] : List (TermR × Value × Value)).length c3) ⟨st.D ++ [⟨b1, b3, ⟨#[]⟩⟩], st.S ++ [vn], st.T⟩ []
theorem W15.start {N gp g : Nat} {A1 A2 A3 : Option Addr} {c1 c2 c3 : Nat} {b1 b3 : ByteArray} {vn : Int} {st : St} {lb pc : Array Value} {W1 : World} {x10 x15 : Value} {w : World} (hx : CB w (N + 1) 26 #[.slice A1 st.D.length c1, .slice A2 st.S.length c2, .slice A3 ([] : List (TermR × Value × Value)).length c3]) (hr : CB w N 26 #[.slice none 0 0, .slice none 0 0, .slice none 0 0]) (hg : CB w g 9 lb) (hp : CB w gp 9 pc) (hb : Below (N + 1) W1 w) (ho : IdxOwn w (N + 1) (.slice A1 st.D.length c1) (.slice A2 st.S.length c2) (.slice A3 ([] : List (TermR × Value × Value)).length c3) st []) : W15 N gp g A1 A2 A3 c1 c2 c3 b1 b3 vn st lb pc W1 false false x10 x15 w :=
  ⟨hx, hr, hg, hp, hb, fun _ => ⟨rfl, ho⟩, fun h => (by cases h), fun h => (by cases h)⟩
theorem W15.alloc {N gp g : Nat} {A1 A2 A3 : Option Addr} {c1 c2 c3 : Nat} {b1 b3 : ByteArray} {vn : Int} {st : St} {lb pc : Array Value} {W1 : World} {p q : Bool} {x10 x15 : Value} {w : World} (h : W15 N gp g A1 A2 A3 c1 c2 c3 b1 b3 vn st lb pc W1 p q x10 x15 w) (o : Obj) : W15 N gp g A1 A2 A3 c1 c2 c3 b1 b3 vn st lb pc W1 p q x10 x15 (w.alloc o) :=
  ⟨h.hx.alloc o, h.hr.alloc o, h.hg.alloc o, h.hp.alloc o, h.hb.alloc (Nat.le_of_lt h.hx.lt) o, fun hp => ⟨(h.h0 hp).1, (h.h0 hp).2.alloc o⟩, fun hp hq => (h.h1 hp hq).alloc o, fun hq => (h.h2 hq).alloc o⟩
def IR15 (fr : Value → Value → Value → Value → Value → Value → Value → Value → Value → Value → Value → Value → Value → Value → Value → Value → Value → Act) (N gp g : Nat) (A1 A2 A3 : Option Addr) (c1 c2 c3 : Nat) (b1 b3 : ByteArray) (vn : Int) (st : St) (lb pc : Array Value) (W1 : World) (L : Array Bool) (a : Act) (w : World) : Prop :=
  ∃ x0 x1 x2 x3 x4 x5 x6 x7 x8 x9 x10 x11 x12 x13 x14 x15 x16 : Value, a = fr x0 x1 x2 x3 x4 x5 x6 x7 x8 x9 x10 x11 x12 x13 x14 x15 x16 ∧ W15 N gp g A1 A2 A3 c1 c2 c3 b1 b3 vn st lb pc W1 (L.getD 10 false) (L.getD 15 false) x10 x15 w ∧ (L.getD 0 false = true → x0 = .pointer (some ⟨N + 1, 0, none⟩)) ∧ (L.getD 1 false = true → x1 = .slice A1 st.D.length c1) ∧ (L.getD 2 false = true → x2 = .slice (some ⟨gp, 0, none⟩) 4 4) ∧ (L.getD 3 false = true → x3 = .pointer (some ⟨gp, 1, none⟩)) ∧ (L.getD 4 false = true → x4 = .string b1) ∧ (L.getD 5 false = true → x5 = .slice (some ⟨gp, 0, none⟩) 4 4) ∧ (L.getD 6 false = true → x6 = .pointer (some ⟨gp, 3, none⟩)) ∧ (L.getD 7 false = true → x7 = .string b3) ∧ (L.getD 8 false = true → x8 = .agg #[.string b1, .string b3, .string ⟨#[]⟩]) ∧ (L.getD 9 false = true → L.getD 10 false = false → ∃ gd : Nat, x9 = .slice (some ⟨gd, 0, none⟩) 1 1 ∧ CB w gd 58 #[.string b1, .string b3, .string ⟨#[]⟩]) ∧ (L.getD 10 false = true → ∃ g7 k7 : Nat, x10 = .slice (some ⟨g7, 0, none⟩) (st.D.length + 1) k7) ∧ (L.getD 11 false = true → x11 = .pointer (some ⟨N + 1, 1, none⟩)) ∧ (L.getD 12 false = true → x12 = .slice A2 st.S.length c2) ∧ (L.getD 13 false = true → x13 = .int .i64 vn) ∧ (L.getD 14 false = true → L.getD 15 false = false → ∃ gi : Nat, x14 = .slice (some ⟨gi, 0, none⟩) 1 1 ∧ CB w gi 3 #[.int .i64 vn]) ∧ (L.getD 15 false = true → ∃ g9 k9 : Nat, x15 = .slice (some ⟨g9, 0, none⟩) (st.S.length + 1) k9) ∧ (L.getD 16 false = true → x16 = .pointer (some ⟨N + 1, 0, none⟩))
theorem IR15.start {m : Nat} {fr : Value → Value → Value → Value → Value → Value → Value → Value → Value → Value → Value → Value → Value → Value → Value → Value → Value → Act} {N gp g : Nat} {A1 A2 A3 : Option Addr} {c1 c2 c3 : Nat} {b1 b3 : ByteArray} {vn : Int} {st : St} {lb pc : Array Value} {W1 : World} {a : Act} {w : World} (x0 x1 x2 x3 x4 x5 x6 x7 x8 x9 x10 x11 x12 x13 x14 x15 x16 : Value) (h : a = fr x0 x1 x2 x3 x4 x5 x6 x7 x8 x9 x10 x11 x12 x13 x14 x15 x16) (hW : W15 N gp g A1 A2 A3 c1 c2 c3 b1 b3 vn st lb pc W1 false false x10 x15 w) : IR15 fr N gp g A1 A2 A3 c1 c2 c3 b1 b3 vn st lb pc W1 (Array.replicate m false) a w :=
  ⟨x0, x1, x2, x3, x4, x5, x6, x7, x8, x9, x10, x11, x12, x13, x14, x15, x16, h, by rw [getD_replicate_false, getD_replicate_false]; exact hW, (fun h => by rw [getD_replicate_false] at h; cases h), (fun h => by rw [getD_replicate_false] at h; cases h), (fun h => by rw [getD_replicate_false] at h; cases h), (fun h => by rw [getD_replicate_false] at h; cases h), (fun h => by rw [getD_replicate_false] at h; cases h), (fun h => by rw [getD_replicate_false] at h; cases h), (fun h => by rw [getD_replicate_false] at h; cases h), (fun h => by rw [getD_replicate_false] at h; cases h), (fun h => by rw [getD_replicate_false] at h; cases h), (fun h => by rw [getD_replicate_false] at h; cases h), (fun h => by rw [getD_replicate_false] at h; cases h), (fun h => by rw [getD_replicate_false] at h; cases h), (fun h => by rw [getD_replicate_false] at h; cases h), (fun h => by rw [getD_replicate_false] at h; cases h), (fun h => by rw [getD_replicate_false] at h; cases h), (fun h => by rw [getD_replicate_false] at h; cases h), (fun h => by rw [getD_replicate_false] at h; cases h)⟩
theorem getD_at {L : Array Bool} {i : Nat} (h : L.getD i true = false) (b : Bool) : (L.setIfInBounds i true).getD i b = true := by
  have hi : i < L.size := by
    rcases Nat.lt_or_ge i L.size with h1 | h1
    · exact h1
    · simp [h1] at h
  simp [hi]
theorem keep2 {L : Array Bool} {i j k : Nat} {F : Bool → Bool → Prop} (h1 : i ≠ j) (h2 : i ≠ k) (h : F (L.getD j false) (L.getD k false)) : F ((L.setIfInBounds i true).getD j false) ((L.setIfInBounds i true).getD k false) := by
  rw [getD_set_ne false h1, getD_set_ne false h2]; exact h
theorem W15.step {N gp g : Nat} {A1 A2 A3 : Option Addr} {c1 c2 c3 : Nat} {b1 b3 : ByteArray} {vn : Int} {st : St} {lb pc : Array Value} {W1 : World} {L : Array Bool} {i : Nat} {x10 x15 : Value} {w : World} (h1 : i ≠ 10) (h2 : i ≠ 15) (h : W15 N gp g A1 A2 A3 c1 c2 c3 b1 b3 vn st lb pc W1 (L.getD 10 false) (L.getD 15 false) x10 x15 w) : W15 N gp g A1 A2 A3 c1 c2 c3 b1 b3 vn st lb pc W1 ((L.setIfInBounds i true).getD 10 false) ((L.setIfInBounds i true).getD 15 false) x10 x15 w := by
  rw [getD_set_ne false h1, getD_set_ne false h2]; exact h
/-- the memory while two numbers are pushed -/
structure W29 (T : Nat) (A4 A5 : Option Addr) (j c4 c5 : Nat) (va vz : Int) (dl ml : List Int) (p1 : ByteArray) (W1 : World) (p q : Bool) (x4 x9 : Value) (w : World) : Prop where
  ht : CB w T 61 #[.string p1, .slice A4 j c4, .slice A5 j c5]
  hb : Below (T + 1) W1 w
  h0 : p = false → q = false ∧ w.ownsRow (T + 1) 3 1 (.slice A4 j c4) (j) (intCells (dl)) ∧ w.ownsRow (T + 1) 3 1 (.slice A5 j c5) (j) (intCells (ml)) ∧ Apart (.slice A4 j c4) (.slice A5 j c5)
  h1 : p = true → q = false → w.ownsRow (T + 1) 3 1 (x4) (j + 1) (intCells (dl ++ [va])) ∧ w.ownsRow (T + 1) 3 1 (.slice A5 j c5) (j) (intCells (ml)) ∧ Apart x4 (.slice A5 j c5)
  h2 : q = true → w.ownsRow (T + 1) 3 1 (x4) (j + 1) (intCells (dl ++ [va])) ∧ w.ownsRow (T + 1) 3 1 (x9) (j + 1) (intCells (ml ++ [vz])) ∧ Apart x4 x9
theorem W29.start {T : Nat} {A4 A5 : Option Addr} {j c4 c5 : Nat} {va vz : Int} {dl ml : List Int} {p1 : ByteArray} {W1 : World} {x4 x9 : Value} {w : World} (ht : CB w T 61 #[.string p1, .slice A4 j c4, .slice A5 j c5]) (hb : Below (T + 1) W1 w) (h1 : w.ownsRow (T + 1) 3 1 (.slice A4 j c4) (j) (intCells (dl))) (h2 : w.ownsRow (T + 1) 3 1 (.slice A5 j c5) (j) (intCells (ml))) (h3 : Apart (.slice A4 j c4) (.slice A5 j c5)) : W29 T A4 A5 j c4 c5 va vz dl ml p1 W1 false false x4 x9 w :=
  ⟨ht, hb, fun _ => ⟨rfl, h1, h2, h3⟩, fun h => (by cases h), fun h => (by cases h)⟩
theorem W29.alloc {T : Nat} {A4 A5 : Option Addr} {j c4 c5 : Nat} {va vz : Int} {dl ml : List Int} {p1 : ByteArray} {W1 : World} {p q : Bool} {x4 x9 : Value} {w : World} (h : W29 T A4 A5 j c4 c5 va vz dl ml p1 W1 p q x4 x9 w) (o : Obj) : W29 T A4 A5 j c4 c5 va vz dl ml p1 W1 p q x4 x9 (w.alloc o) :=
  ⟨h.ht.alloc o, h.hb.alloc h.ht.lt o, fun hp => ⟨(h.h0 hp).1, own_alloc (h.h0 hp).2.1 o, own_alloc (h.h0 hp).2.2.1 o, (h.h0 hp).2.2.2⟩, fun hp hq => ⟨own_alloc (h.h1 hp hq).1 o, own_alloc (h.h1 hp hq).2.1 o, (h.h1 hp hq).2.2⟩, fun hq => ⟨own_alloc (h.h2 hq).1 o, own_alloc (h.h2 hq).2.1 o, (h.h2 hq).2.2⟩⟩
theorem W29.step {T : Nat} {A4 A5 : Option Addr} {j c4 c5 : Nat} {va vz : Int} {dl ml : List Int} {p1 : ByteArray} {W1 : World} {L : Array Bool} {i : Nat} {x4 x9 : Value} {w : World} (h1 : i ≠ 4) (h2 : i ≠ 9) (h : W29 T A4 A5 j c4 c5 va vz dl ml p1 W1 (L.getD 4 false) (L.getD 9 false) x4 x9 w) : W29 T A4 A5 j c4 c5 va vz dl ml p1 W1 ((L.setIfInBounds i true).getD 4 false) ((L.setIfInBounds i true).getD 9 false) x4 x9 w := by
  rw [getD_set_ne false h1, getD_set_ne false h2]; exact h
def IR29 (fr : Value → Value → Value → Value → Value → Value → Value → Value → Value → Value → Value → Act) (T : Nat) (A4 A5 : Option Addr) (j c4 c5 : Nat) (va vz : Int) (dl ml : List Int) (p1 : ByteArray) (W1 : World) (L : Array Bool) (a : Act) (w : World) : Prop :=
  ∃ x0 x1 x2 x3 x4 x5 x6 x7 x8 x9 x10 : Value, a = fr x0 x1 x2 x3 x4 x5 x6 x7 x8 x9 x10 ∧ W29 T A4 A5 j c4 c5 va vz dl ml p1 W1 (L.getD 4 false) (L.getD 9 false) x4 x9 w ∧ (L.getD 0 false = true → x0 = .pointer (some ⟨T, 1, none⟩)) ∧ (L.getD 1 false = true → x1 = .slice A4 j c4) ∧ (L.getD 2 false = true → x2 = .int .i64 va) ∧ (L.getD 3 false = true → L.getD 4 false = false → ∃ gd : Nat, x3 = .slice (some ⟨gd, 0, none⟩) 1 1 ∧ gd < w.heap.size ∧ ∀ (k : Nat) (u : Value), [Value.int .i64 va][k]? = some u → w.cell? ⟨gd, k, none⟩ = some u) ∧ (L.getD 4 false = true → ∃ g7 k7 : Nat, x4 = .slice (some ⟨g7, 0, none⟩) (j + 1) k7) ∧ (L.getD 5 false = true → x5 = .pointer (some ⟨T, 2, none⟩)) ∧ (L.getD 6 false = true → x6 = .slice A5 j c5) ∧ (L.getD 7 false = true → x7 = .int .i64 vz) ∧ (L.getD 8 false = true → L.getD 9 false = false → ∃ gi : Nat, x8 = .slice (some ⟨gi, 0, none⟩) 1 1 ∧ CB w gi 3 #[.int .i64 vz] ∧ (∀ b, (Value.slice A4 j c4).ownBlock = some b → b ≠ gi)) ∧ (L.getD 9 false = true → ∃ g9 k9 : Nat, x9 = .slice (some ⟨g9, 0, none⟩) (j + 1) k9) ∧ (L.getD 10 false = true → x10 = .pointer (some ⟨T, 1, none⟩))
theorem IR29.start {m : Nat} {fr : Value → Value → Value → Value → Value → Value → Value → Value → Value → Value → Value → Act} {T : Nat} {A4 A5 : Option Addr} {j c4 c5 : Nat} {va vz : Int} {dl ml : List Int} {p1 : ByteArray} {W1 : World} {a : Act} {w : World} (x0 x1 x2 x3 x4 x5 x6 x7 x8 x9 x10 : Value) (h : a = fr x0 x1 x2 x3 x4 x5 x6 x7 x8 x9 x10) (hW : W29 T A4 A5 j c4 c5 va vz dl ml p1 W1 false false x4 x9 w) : IR29 fr T A4 A5 j c4 c5 va vz dl ml p1 W1 (Array.replicate m false) a w :=
  ⟨x0, x1, x2, x3, x4, x5, x6, x7, x8, x9, x10, h, by rw [getD_replicate_false, getD_replicate_false]; exact hW, (fun h => by rw [getD_replicate_false] at h; cases h), (fun h => by rw [getD_replicate_false] at h; cases h), (fun h => by rw [getD_replicate_false] at h; cases h), (fun h => by rw [getD_replicate_false] at h; cases h), (fun h => by rw [getD_replicate_false] at h; cases h), (fun h => by rw [getD_replicate_false] at h; cases h), (fun h => by rw [getD_replicate_false] at h; cases h), (fun h => by rw [getD_replicate_false] at h; cases h), (fun h => by rw [getD_replicate_false] at h; cases h), (fun h => by rw [getD_replicate_false] at h; cases h), (fun h => by rw [getD_replicate_false] at h; cases h)⟩
theorem doc_bad1 {l : List UInt8} (h : aft 32 l = []) : docOk l = false := by rw [docOk, h]; simp
theorem doc_bad2 {l : List UInt8} (h : aft 32 (docR1 l) = []) : docOk l = false := by rw [docOk, h]; simp
theorem doc_bad3 {l : List UInt8} (h : docA l = []) : docOk l = false := by rw [docOk, h]; simp
theorem doc_num {l : List UInt8} (h1 : aft 32 l ≠ []) (h2 : aft 32 (docR1 l) ≠ []) (h3 : docA l ≠ []) : docOk l = numB (docM l) := by rw [docOk, isNE h1, isNE h2, isNE h3]; simp

set_option maxRecDepth 100000 in
set_option maxHeartbeats 16000000 in
theorem indexRead_q (s : ByteArray) (w : World) (hm : MaxAt w) (htab : TabOk w) : Calls Tryd.prog 7 #[.string s] w (ReadPost w.heap.size s.data.toList w) := by
  have HMx := Lib.hid hm; clear hm
  have HTb := Lib.hid htab; clear htab
  obtain ⟨N, hN⟩ : ∃ N, w.heap.size = N := ⟨_, rfl⟩
  rw [hN]
  have HN := Lib.hid hN
  have HRes := Lib.hid (show CB (w.alloc (.cells #[.slice none 0 0, .slice none 0 0, .slice none 0 0] 26)) N 26 #[.slice none 0 0, .slice none 0 0, .slice none 0 0] by rw [← hN]; exact CB.new w _ _)
  by_cases hbig : 400000 < s.size
  · have HE := Lib.hid (readE_large (l := s.data.toList) (by rw [size_toList]; exact hbig))
    have hbig1 : (400000 : Int) < (s.size : Int) := by omega
    go_enter Tryd.func7, Tryd.ntmps7
    go_wp2_with fail
    refine idx_done rfl HRes.out rfl rfl rfl rfl (ReadPost.err HE.out (by decide) ?_)
    exact (Below.refl _ _).alloc (by omega) _
  have hle : (s.size : Int) ≤ 400000 := by omega
  have hle2 : s.data.toList.length ≤ 400000 := by rw [size_toList]; omega
  have HLe := Lib.hid hle2; clear hle2
  obtain ⟨vs, hvs⟩ : ∃ v, Lib.hasSuffix s.data.toList [10] = v := ⟨_, rfl⟩
  have HVs := Lib.hid hvs
  have hcase : s.data.toList = [] ∨ s.data.toList ≠ [] := by by_cases h : s.data.toList = []; exact Or.inl h; exact Or.inr h
  have hl63 : s.size ≤ 9223372036854775807 := by omega
  have hs1m : s.size ≤ 1048576 := by omega
  by_cases hbad : s.data.toList ≠ [] ∧ vs = false
  · obtain ⟨h1, rfl⟩ := hbad
    have HE := Lib.hid (readE_open HLe.out h1 HVs.out)
    have e1 := isE_false h1
    clear h1 hcase hvs
    go_enter Tryd.func7, Tryd.ntmps7
    go_wp2_with (go_at_call 16; go_must (refine (hasSuffix_v s ⟨#[10]⟩ false _ hl63 HVs.out).mono ?_); rintro e w1 ⟨rfl, rfl⟩)
    refine idx_done rfl HRes.out rfl rfl rfl rfl (ReadPost.err HE.out (by decide) ?_)
    exact (Below.refl _ _).alloc (by omega) _
  have hform : s.data.toList = [] ∨ Lib.hasSuffix s.data.toList [10] = true := by
    rcases hcase with h | h
    · exact Or.inl h
    · right
      rw [HVs.out]
      cases vs
      · exact absurd ⟨h, rfl⟩ hbad
      · rfl
  have HF := Lib.hid hform
  have HLft := Lib.hid (textL_left hform)
  have hgo : (s.data.toList = []) ∨ (s.data.toList ≠ [] ∧ vs = true) := by
    rcases hcase with h | h
    · exact Or.inl h
    · refine Or.inr ⟨h, ?_⟩
      cases vs
      · exact absurd ⟨h, rfl⟩ hbad
      · rfl
  clear hform hcase hbad hvs
  have HMx2 := Lib.hid (show MaxAt ((w.alloc (.cells #[.slice none 0 0, .slice none 0 0, .slice none 0 0] 26)).alloc (.cells #[.slice none 0 0, .slice none 0 0, .slice none 0 0] 26)) from (HMx.out.keep (Keeps.alloc _ _)).keep (Keeps.alloc _ _))
  rcases hgo with h1 | ⟨h1, h2⟩
  · have e1 := isE_true h1
    have HNil := Lib.hid h1
    clear h1
    go_enter Tryd.func7, Tryd.ntmps7
    go_wp2_with (go_at_call 22; go_must (refine (lines_q s _ hs1m HMx2.out HF.out).mono ?_); rintro e w1 ⟨Lb, A0, rfl, hLb, hcg, hb1⟩; have HLb := Lib.hid hLb; have HCg := Lib.hid hcg; have HB1 := Lib.hid hb1; clear hLb hcg hb1)
    clear e1
    have HS0 := Lib.hid (show Reads s.data.toList N w ((w.alloc (.cells #[.slice none 0 0, .slice none 0 0, .slice none 0 0] 26)).alloc (.cells #[.slice none 0 0, .slice none 0 0, .slice none 0 0] 26)) (.slice none 0 0) (.slice none 0 0) (.slice none 0 0) st0 [] (textL s.data.toList) from by
      have q1 := CB.new (w.alloc (.cells #[.slice none 0 0, .slice none 0 0, .slice none 0 0] 26)) #[.slice none 0 0, .slice none 0 0, .slice none 0 0] 26
      rw [World.size_alloc, HN.out] at q1
      have q2 := (CB.new w #[.slice none 0 0, .slice none 0 0, .slice none 0 0] 26).alloc (.cells #[.slice none 0 0, .slice none 0 0, .slice none 0 0] 26)
      rw [HN.out] at q2
      refine ⟨q1, q2, IdxOwn.start _ _, rfl, rfl, ?_, rfl, ((Below.refl _ _).alloc (by have := HN.out; omega) _).alloc (by have := HN.out; rw [World.size_alloc]; omega) _⟩
      have q3 := HLft.out.rem
      have q4 := HLe.out
      have q5 : stW st0 = 0 := rfl
      omega)
    have HS := Lib.hid (HS0.out.below HB1.out)
    have hLbl : Lb.length ≤ 1048576 := by
      have q1 := congrArg List.length HLb.out
      rw [List.length_map] at q1
      have q2 := HLft.out.rem
      have q3 : (textL s.data.toList).length ≤ remW (textL s.data.toList) := sumBy_count _ (fun x => by omega) _
      have q4 := HLe.out
      omega
    obtain ⟨g, hg⟩ : ∃ g, ((w.alloc (.cells #[.slice none 0 0, .slice none 0 0, .slice none 0 0] 26)).alloc (.cells #[.slice none 0 0, .slice none 0 0, .slice none 0 0] 26)).heap.size = g := ⟨_, rfl⟩
    rw [hg] at HCg
    have hgN : g = N + 2 := by rw [← hg, World.size_alloc, World.size_alloc, HN.out]
    have HgN := Lib.hid hgN
    clear hg hgN HS0
    go_loopw [36] (fun t36 wr => ∃ (j : Nat) (dv sv tv : Value) (st : St) (L : List (TermR × Value × Value)), j ≤ Lb.length ∧ t36 = .int .i64 j ∧ Hid (Reads s.data.toList N w wr dv sv tv st L ((Lb.drop j).map (·.data.toList))) ∧ Hid (0 < Lb.length → A0 = some ⟨g, 0, none⟩ ∧ CB wr g 9 (Lb.map Value.string).toArray)) (fun t36 _ => Lb.length - (intOf t36).toNat)
    case atStart => exact ⟨0, _, _, _, _, _, Nat.zero_le _, rfl, by rw [List.drop_zero, HLb.out]; exact HS.out, HCg.out⟩
    case round =>
      clear HCg HS
      obtain ⟨j, dv, sv, tv, st, L, hj, rfl, HR, HCg⟩ := hrel
      obtain ⟨A1, c1, rfl, _, hdm, _⟩ := own_form HR.out.ho.od
      obtain ⟨A2, c2, rfl, _, hsm, _⟩ := own_form HR.out.ho.os
      obtain ⟨A3, c3, rfl, _, htm, _⟩ := own_form HR.out.ho.ot
      have HSz := Lib.hid HR.out.sizes
      have hDl := HSz.out.2.2.2.1
      have hSl := HSz.out.2.2.2.2.1
      have hLl := HSz.out.2.2.2.2.2
      have HMr := Lib.hid (HMx.out.keep (Keeps.of_below (by rw [← HN.out] at HR; exact HR.out.hb)))
      have x0 := HR.out.hx.c 0
      have x1 := HR.out.hx.c 1
      have x2 := HR.out.hx.c 2
      by_cases hlt : j < Lb.length
      · exfalso
        have h8 := HLb.out
        rw [textL, if_pos HNil.out] at h8
        rw [List.map_eq_nil_iff.1 h8] at hlt
        simp at hlt
      · obtain rfl : j = Lb.length := by omega
        rw [List.drop_length] at HR
        have HE := Lib.hid (readE_end HLe.out HF.out HR.out.hok HR.out.hen)
        have HTr := Lib.hid (HTb.out.keep (by rw [HN.out]; exact HR.out.hb))
        obtain ⟨v, hv⟩ : ∃ v, idxE st.D st.S st.T = v := ⟨_, rfl⟩
        have HV := Lib.hid hv; clear hv
        by_cases hv0 : v = 0
        · subst hv0
          go_wp2_with (go_at_call 27; go_must (refine (indexError_q st.D st.S st.T _ _ _ _ HR.out.ho.at HSz.out.1 HSz.out.2.1 HSz.out.2.2.1 HTr.out HMr.out).mono ?_); rw [HV.out]; rintro e w5 ⟨rfl, hb⟩; have HR5 := Lib.hid (HR.out.below hb); clear hb; have y0 := HR5.out.hx.c 0; have y1 := HR5.out.hx.c 1; have y2 := HR5.out.hx.c 2; have r0 := HR5.out.hr.c 0; have r1 := HR5.out.hr.c 1; have r2 := HR5.out.hr.c 2; have f0 := HR5.out.hr.f 0; have f1 := HR5.out.hr.f 1; have f2 := HR5.out.hr.f 2; have fs := HR5.out.hr.sh)
          refine idx_done rfl (((HR5.out.hr.put 0 _).put 1 _).put 2 _) rfl rfl rfl rfl ?_
          exact ReadPost.ok (HE.out.trans HV.out) (by rw [HR5.out.hen]; rfl) (((HR5.out.ho.base (Nat.le_succ N)).set3 HR5.out.hr)) (((HR5.out.hb.setCell (p := ⟨N, 0, none⟩) (Nat.le_refl N) _).setCell (p := ⟨N, 1, none⟩) (Nat.le_refl N) _).setCell (p := ⟨N, 2, none⟩) (Nat.le_refl N) _)
        · go_wp2_with (go_at_call 27; go_must (refine (indexError_q st.D st.S st.T _ _ _ _ HR.out.ho.at HSz.out.1 HSz.out.2.1 HSz.out.2.2.1 HTr.out HMr.out).mono ?_); rw [HV.out]; rintro e w5 ⟨rfl, hb⟩; have HR5 := Lib.hid (HR.out.below hb); clear hb; have y0 := HR5.out.hx.c 0; have y1 := HR5.out.hx.c 1; have y2 := HR5.out.hx.c 2; have r0 := HR5.out.hr.c 0; have r1 := HR5.out.hr.c 1; have r2 := HR5.out.hr.c 2; have f0 := HR5.out.hr.f 0; have f1 := HR5.out.hr.f 1; have f2 := HR5.out.hr.f 2; have fs := HR5.out.hr.sh)
          refine idx_done rfl (((HR5.out.hr.put 0 _).put 1 _).put 2 _) rfl rfl rfl rfl ?_
          exact ReadPost.err (HE.out.trans HV.out) hv0 (((HR5.out.hb.setCell (p := ⟨N, 0, none⟩) (Nat.le_refl N) _).setCell (p := ⟨N, 1, none⟩) (Nat.le_refl N) _).setCell (p := ⟨N, 2, none⟩) (Nat.le_refl N) _)
  · have e1 := isE_false h1
    subst h2
    clear h1
    go_enter Tryd.func7, Tryd.ntmps7
    go_wp2_with (first | (go_at_call 16; go_must (refine (hasSuffix_v s ⟨#[10]⟩ true _ hl63 HVs.out).mono ?_); rintro e w1 ⟨rfl, rfl⟩) | (go_at_call 22; go_must (refine (lines_q s _ hs1m HMx2.out HF.out).mono ?_); rintro e w1 ⟨Lb, A0, rfl, hLb, hcg, hb1⟩; have HLb := Lib.hid hLb; have HCg := Lib.hid hcg; have HB1 := Lib.hid hb1; clear hLb hcg hb1))
    clear e1
    have HS0 := Lib.hid (show Reads s.data.toList N w ((w.alloc (.cells #[.slice none 0 0, .slice none 0 0, .slice none 0 0] 26)).alloc (.cells #[.slice none 0 0, .slice none 0 0, .slice none 0 0] 26)) (.slice none 0 0) (.slice none 0 0) (.slice none 0 0) st0 [] (textL s.data.toList) from by
      have q1 := CB.new (w.alloc (.cells #[.slice none 0 0, .slice none 0 0, .slice none 0 0] 26)) #[.slice none 0 0, .slice none 0 0, .slice none 0 0] 26
      rw [World.size_alloc, HN.out] at q1
      have q2 := (CB.new w #[.slice none 0 0, .slice none 0 0, .slice none 0 0] 26).alloc (.cells #[.slice none 0 0, .slice none 0 0, .slice none 0 0] 26)
      rw [HN.out] at q2
      refine ⟨q1, q2, IdxOwn.start _ _, rfl, rfl, ?_, rfl, ((Below.refl _ _).alloc (by have := HN.out; omega) _).alloc (by have := HN.out; rw [World.size_alloc]; omega) _⟩
      have q3 := HLft.out.rem
      have q4 := HLe.out
      have q5 : stW st0 = 0 := rfl
      omega)
    have HS := Lib.hid (HS0.out.below HB1.out)
    have hLbl : Lb.length ≤ 1048576 := by
      have q1 := congrArg List.length HLb.out
      rw [List.length_map] at q1
      have q2 := HLft.out.rem
      have q3 : (textL s.data.toList).length ≤ remW (textL s.data.toList) := sumBy_count _ (fun x => by omega) _
      have q4 := HLe.out
      omega
    obtain ⟨g, hg⟩ : ∃ g, ((w.alloc (.cells #[.slice none 0 0, .slice none 0 0, .slice none 0 0] 26)).alloc (.cells #[.slice none 0 0, .slice none 0 0, .slice none 0 0] 26)).heap.size = g := ⟨_, rfl⟩
    rw [hg] at HCg
    have hgN : g = N + 2 := by rw [← hg, World.size_alloc, World.size_alloc, HN.out]
    have HgN := Lib.hid hgN
    clear hg hgN HS0
    go_loopw [36] (fun t36 wr => ∃ (j : Nat) (dv sv tv : Value) (st : St) (L : List (TermR × Value × Value)), j ≤ Lb.length ∧ t36 = .int .i64 j ∧ Hid (Reads s.data.toList N w wr dv sv tv st L ((Lb.drop j).map (·.data.toList))) ∧ Hid (0 < Lb.length → A0 = some ⟨g, 0, none⟩ ∧ CB wr g 9 (Lb.map Value.string).toArray)) (fun t36 _ => Lb.length - (intOf t36).toNat)
    case atStart => exact ⟨0, _, _, _, _, _, Nat.zero_le _, rfl, by rw [List.drop_zero, HLb.out]; exact HS.out, HCg.out⟩
    case round =>
      clear HCg HS
      obtain ⟨j, dv, sv, tv, st, L, hj, rfl, HR, HCg⟩ := hrel
      obtain ⟨A1, c1, rfl, _, hdm, _⟩ := own_form HR.out.ho.od
      obtain ⟨A2, c2, rfl, _, hsm, _⟩ := own_form HR.out.ho.os
      obtain ⟨A3, c3, rfl, _, htm, _⟩ := own_form HR.out.ho.ot
      have HSz := Lib.hid HR.out.sizes
      have hDl := HSz.out.2.2.2.1
      have hSl := HSz.out.2.2.2.2.1
      have hLl := HSz.out.2.2.2.2.2
      have HMr := Lib.hid (HMx.out.keep (Keeps.of_below (by rw [← HN.out] at HR; exact HR.out.hb)))
      have x0 := HR.out.hx.c 0
      have x1 := HR.out.hx.c 1
      have x2 := HR.out.hx.c 2
      by_cases hlt : j < Lb.length
      · obtain ⟨a, ha⟩ : ∃ a, Lb[j]? = some a := ⟨_, List.getElem?_eq_getElem hlt⟩
        obtain ⟨hA0, hcg⟩ := HCg.out (by omega)
        subst hA0
        have HCb := Lib.hid hcg
        clear HCg
        have g0 : wr.cell? ⟨g, j, none⟩ = some (.string a) := by rw [hcg.c j]; simp [ha]
        have hdr : (Lb.drop j).map (·.data.toList) = a.data.toList :: (Lb.drop (j + 1)).map (·.data.toList) := by rw [drop_at ha, List.map_cons]
        rw [hdr] at HR
        have has : a.size ≤ 1048576 := by
          have h1 := HR.out.hw
          have h2 : remW (a.data.toList :: (Lb.drop (j + 1)).map (·.data.toList)) = a.data.toList.length + 1 + remW ((Lb.drop (j + 1)).map (·.data.toList)) := rfl
          rw [size_toList] at h2
          omega
        clear hcg hdr ha
        cases hp1 : Lib.hasPrefix a.data.toList docW0
        · have HP1 := Lib.hid (show Lib.hasPrefix a.data.toList (⟨#[100, 111, 99, 32]⟩ : ByteArray).data.toList = false from hp1)
          cases hp2 : Lib.hasPrefix a.data.toList termW0
          · have HP2 := Lib.hid (show Lib.hasPrefix a.data.toList (⟨#[116, 101, 114, 109, 32]⟩ : ByteArray).data.toList = false from hp2)
            have HE := Lib.hid (readE_bad HLe.out HF.out HR.out.hok (line_none hp1 hp2))
            clear hp1 hp2
            have r0 := HR.out.hr.c 0; have r1 := HR.out.hr.c 1; have r2 := HR.out.hr.c 2; have f0 := HR.out.hr.f 0; have f1 := HR.out.hr.f 1; have f2 := HR.out.hr.f 2; have fs := HR.out.hr.sh
            go_wp2_with (first | (go_at_call 18; (with_reducible refine (hasPrefix_v a ⟨#[100, 111, 99, 32]⟩ false _ HP1.out).mono ?_); rintro e w6 ⟨rfl, rfl⟩) | (go_at_call 18; (with_reducible refine (hasPrefix_v a ⟨#[116, 101, 114, 109, 32]⟩ false _ HP2.out).mono ?_); rintro e w7 ⟨rfl, rfl⟩))
            refine idx_done rfl (((HR.out.hr.put 0 _).put 1 _).put 2 _) rfl rfl rfl rfl ?_
            exact ReadPost.err HE.out (by decide) (((HR.out.hb.setCell (p := ⟨N, 0, none⟩) (Nat.le_refl N) _).setCell (p := ⟨N, 1, none⟩) (Nat.le_refl N) _).setCell (p := ⟨N, 2, none⟩) (Nat.le_refl N) _)
          · have HP2 := Lib.hid (show Lib.hasPrefix a.data.toList (⟨#[116, 101, 114, 109, 32]⟩ : ByteArray).data.toList = true from hp2)
            have HLk := Lib.hid (line_term (T := st.T) hp1 hp2)
            have HSk := Lib.hid (lineS_term (s := st) hp1)
            have HSp := Lib.hid (term_split hp2)
            obtain ⟨l5, hl5⟩ : ∃ l, a.data.toList.drop 5 = l := ⟨_, rfl⟩
            rw [hl5] at HLk HSk HSp
            have h5l : l5.length ≤ 1048576 := by rw [← hl5, List.length_drop, size_toList]; omega
            obtain ⟨G, hG⟩ : ∃ G, wr.heap.size = G := ⟨_, rfl⟩
            clear hl5 hp1 hp2
            go_wp2_with (first | (go_at_call 18; (with_reducible refine (hasPrefix_v a ⟨#[100, 111, 99, 32]⟩ false _ HP1.out).mono ?_); rintro e w6 ⟨rfl, rfl⟩) | (go_at_call 18; (with_reducible refine (hasPrefix_v a ⟨#[116, 101, 114, 109, 32]⟩ true _ HP2.out).mono ?_); rintro e w7 ⟨rfl, rfl⟩))
            refine (splitC_q a 32 _ has HMr.out).mono ?_
            rintro e w5 ⟨p, Q1, rfl, hcp, hp, hQ, hb5, hs5⟩
            rw [hG] at hcp hs5 ⊢
            have HR5 := Lib.hid (HR.out.below hb5)
            have HCb5 := Lib.hid (HCb.out.below hb5)
            obtain ⟨p1, Q, rfl, hp1, hQ2⟩ := List.map_eq_cons_iff.1 (hQ.trans (HSp.out.trans (splitC_eq 32 l5)))
            have hQ3 : Q.map (·.data.toList) = (splitC 32 l5).tail := by rw [splitC_eq 32 l5, List.tail_cons]; exact hQ2
            have HP1e := Lib.hid hp1
            have HQ := Lib.hid hQ3
            have HCp := Lib.hid hcp
            have c1 : w5.cell? ⟨G, 1, none⟩ = some (.string p1) := hcp.c 1
            have hQl : Q.length ≤ 1048577 := by
              have h1 := congrArg List.length hQ3
              rw [List.length_map, List.length_tail] at h1
              have h2 := splitC_len 32 l5
              omega
            have hGN : N + 1 < G := by have h8 := HR.out.hx.lt; omega
            have hGg : g < G := by have h8 := HCb.out.lt; omega
            have HSz5 := Lib.hid HR5.out.sizes
            clear hcp hp hQ hQ2 hQ3 hp1 hb5 x0 x1 x2 g0
            have hpos : (0 : Int) < ((Q.length : Int) + 1 + 1) := by omega
            by_cases hQ0 : Q = []
            · subst hQ0
              have HTk := Lib.hid (term_nil HQ.out)
              have HE := Lib.hid (readE_bad HLe.out HF.out HR.out.hok (HLk.out.trans HTk.out))
              by_cases hpe : p1.data.toList = []
              have ee := isE_true hpe
              have ee2 : p1.toList = [] := by rw [Go.ByteArray.toList_eq]; exact hpe
              go_wp2_with fail
              rotate_left
              have ee := isE_false hpe
              have ee2 : ¬ p1.toList = [] := by rw [Go.ByteArray.toList_eq]; exact hpe
              go_wp2_with fail
              all_goals
                have HBt0 := Lib.hid (show CB (w5.alloc (.cells #[.string p1, .slice none 0 0, .slice none 0 0] 61)) (G + 1) 61 #[.string p1, .slice none 0 0, .slice none 0 0] by have h9 := CB.new w5 #[.string p1, .slice none 0 0, .slice none 0 0] 61; rw [hs5] at h9; exact h9)
                go_loopw [104, 7] (fun t104 t7 wr => t104 = .int .i64 0 ∧ t7 = .bool false ∧ Hid (CB wr (G + 1) 61 #[.string p1, .slice none 0 0, .slice none 0 0]) ∧ Hid (Below (G + 1) w5 wr)) (fun _ _ _ => 0)
                case atStart => exact ⟨rfl, rfl, HBt0.out, (Below.refl _ _).alloc (by omega) _⟩
                case round =>
                  obtain ⟨rfl, rfl, HT, HBq⟩ := hrel
                  have HW := Lib.hid (show Below w5.heap.size w5 wr by rw [hs5]; exact HBq.out)
                  have HRq := Lib.hid (HR5.out.below HW.out)
                  have HCq := Lib.hid (HCb5.out.below HW.out)
                  have b0 : wr.cell? ⟨G + 1, 0, none⟩ = some (.string p1) := HT.out.c 0
                  have b1 : wr.cell? ⟨G + 1, 1, none⟩ = some (.slice none 0 0) := HT.out.c 1
                  have b2 : wr.cell? ⟨G + 1, 2, none⟩ = some (.slice none 0 0) := HT.out.c 2
                  have z2 : wr.cell? ⟨N + 1, 2, none⟩ = some (.slice A3 L.length c3) := HRq.out.hx.c 2
                  have hN5 : N + 1 ≤ wr.heap.size := Nat.le_of_lt HRq.out.hx.lt
                  go_wp2_with (at_builtin; go_must (refine wpList_push _ rfl (.tmp 148) (.tmp 150) 24 rfl (N + 1) 61 _ 3 64 Tryd.underlying24 info_term rfl (by omega) (.slice A3 L.length c3) L.length _ rfl (own_alloc HRq.out.ho.ot _) [.string p1, .slice none 0 0, .slice none 0 0] rfl _ rfl (cell_new _ [.string p1, .slice none 0 0, .slice none 0 0] 61 _ rfl) (by intro u hu; simp at hu; rcases hu with rfl | rfl | rfl <;> rfl) (by omega) (by unfold maxLen; omega) (by simp; omega) ?_); intro g7 c7 w7 own7 hg7 hgg7 hb7; have HX7 := Lib.hid ((HRq.out.hx.alloc (.cells #[.string p1, .slice none 0 0, .slice none 0 0] 61)).push (own_alloc HRq.out.ho.ot _) (by decide) hg7); have HR7 := Lib.hid ((HRq.out.hr.alloc (.cells #[.string p1, .slice none 0 0, .slice none 0 0] 61)).push (own_alloc HRq.out.ho.ot _) (by decide) hg7); have HC7 := Lib.hid ((HCq.out.alloc (.cells #[.string p1, .slice none 0 0, .slice none 0 0] 61)).push (own_alloc HRq.out.ho.ot _) (by decide) hg7); have HB7 := Lib.hid (((Below.refl (N + 1) wr).alloc hN5 (.cells #[.string p1, .slice none 0 0, .slice none 0 0] 61)).trans hb7); have v2 : w7.cell? ⟨N + 1, 2, none⟩ = some (.slice A3 L.length c3) := HX7.out.c 2; have v2f := HX7.out.f 2; have v2s := HX7.out.sh; have r0 := HR7.out.c 0; have r1 := HR7.out.c 1; have r2 := HR7.out.c 2; have f0 := HR7.out.f 0; have f1 := HR7.out.f 1; have f2 := HR7.out.f 2; have fs := HR7.out.sh; clear own7 hg7 hgg7 hb7)
                  have HRz := Lib.hid (HR7.out.set_other (m := N + 1) (o := 2) (by omega) (.slice (some ⟨g7, 0, none⟩) (L.length + 1) c7))
                  have HBz := Lib.hid (HRq.out.hb.trans (((HB7.out.setCell (p := ⟨N + 1, 2, none⟩) (Nat.le_refl _) (.slice (some ⟨g7, 0, none⟩) (L.length + 1) c7))).mono (Nat.le_succ N)))
                  refine idx_done rfl (((HRz.out.put 0 _).put 1 _).put 2 _) rfl rfl rfl rfl ?_
                  exact ReadPost.err HE.out (by decide) (((HBz.out.setCell (p := ⟨N, 0, none⟩) (Nat.le_refl N) _).setCell (p := ⟨N, 1, none⟩) (Nat.le_refl N) _).setCell (p := ⟨N, 2, none⟩) (Nat.le_refl N) _)
            · have hq1 : 1 ≤ Q.length := by cases Q with | nil => exact absurd rfl hQ0 | cons _ _ => simp
              have hq0 : ¬ Q.length = 0 := by omega
              clear hQ0
              by_cases hpe : p1.data.toList = []
              · have ee := isE_true hpe
                have ee2 : p1.toList = [] := by rw [Go.ByteArray.toList_eq]; exact hpe
                have hpe' := Lib.hid hpe
                clear hpe
                go_wp2_with fail
                have HBt0 := Lib.hid (show CB (w5.alloc (.cells #[.string p1, .slice none 0 0, .slice none 0 0] 61)) (G + 1) 61 #[.string p1, .slice none 0 0, .slice none 0 0] by have h9 := CB.new w5 #[.string p1, .slice none 0 0, .slice none 0 0] 61; rw [hs5] at h9; exact h9)
                go_loopw [104, 7] (fun t104 t7 wr => ∃ (j2 : Nat) (ok : Bool) (A4 : Option Addr) (c4 : Nat) (A5 : Option Addr) (c5 : Nat), j2 ≤ Q.length ∧ t104 = .int .i64 j2 ∧ t7 = .bool ok ∧ Hid (CB wr (G + 1) 61 #[.string p1, .slice A4 j2 c4, .slice A5 j2 c5]) ∧ Hid (wr.ownsRow (G + 1 + 1) 3 1 (.slice A4 j2 c4) j2 (intCells (docsQ (Q.take j2)))) ∧ Hid (wr.ownsRow (G + 1 + 1) 3 1 (.slice A5 j2 c5) j2 (intCells (manyQ (Q.take j2)))) ∧ Hid (Apart (.slice A4 j2 c4) (.slice A5 j2 c5)) ∧ Hid (Below (G + 1) w5 wr) ∧ Hid (ok = false)) (fun t _ _ => Q.length - (intOf t).toNat)
                case atStart => exact ⟨0, _, none, 0, none, 0, Nat.zero_le _, rfl, rfl, HBt0.out, World.ownsRow_nil _ _ _ _, World.ownsRow_nil _ _ _ _, Apart.nil _ _, (Below.refl _ _).alloc (by omega) _, rfl⟩
                case round =>
                  obtain ⟨j2, ok, A4, c4, A5, c5, hj2, rfl, rfl, HT, HD, HM, HAp, HBq, HOk⟩ := hrel
                  by_cases hlt2 : j2 < Q.length
                  · obtain ⟨q, hq⟩ : ∃ q, Q[j2]? = some q := ⟨_, List.getElem?_eq_getElem hlt2⟩
                    have d1 : wr.cell? ⟨G, 2 + j2, none⟩ = some (.string q) := by
                      rw [(HCp.out.belowB HBq.out (Nat.lt_succ_self G)).c (2 + j2), Nat.add_comm]
                      simp [hq]
                    have hqs : q.size ≤ 1048576 := by
                      have h1 : q.data.toList ∈ splitC 32 l5 := List.mem_of_mem_tail (by rw [← HQ.out]; exact List.mem_map.2 ⟨q, List.mem_of_getElem? hq, rfl⟩)
                      have h2 := splitC_mem 32 _ _ h1
                      rw [size_toList] at h2
                      omega
                    have HQj := Lib.hid hq
                    clear hq
                    rcases ib_cases 58 q.data.toList with ⟨i1, i2, i3⟩ | ⟨k, i1, i2, i3, i4, i5⟩
                    · have HIb := Lib.hid i1
                      have HTk := Lib.hid (pair_no HQ.out HQj.out (by rw [pairOk, pairZ, i3]; simp [numB, numForm]))
                      have HE := Lib.hid (readE_bad HLe.out HF.out HR.out.hok (HLk.out.trans HTk.out))
                      clear i1 i2 i3
                      have HW := Lib.hid (show Below w5.heap.size w5 wr by rw [hs5]; exact HBq.out)
                      have HRq := Lib.hid (HR5.out.below HW.out)
                      have HCq := Lib.hid (HCb5.out.below HW.out)
                      have b0 : wr.cell? ⟨G + 1, 0, none⟩ = some (.string p1) := HT.out.c 0
                      have b1 : wr.cell? ⟨G + 1, 1, none⟩ = some (.slice A4 j2 c4) := HT.out.c 1
                      have b2 : wr.cell? ⟨G + 1, 2, none⟩ = some (.slice A5 j2 c5) := HT.out.c 2
                      have z2 : wr.cell? ⟨N + 1, 2, none⟩ = some (.slice A3 L.length c3) := HRq.out.hx.c 2
                      have hN5 : N + 1 ≤ wr.heap.size := Nat.le_of_lt HRq.out.hx.lt
                      go_wp2_with (first | (go_at_call 26; go_must (refine (ibyte_q q 58 58 (-1) _ rfl HIb.out).mono ?_); rintro e wi ⟨rfl, rfl⟩) | (at_builtin; go_must (refine wpList_push _ rfl (.tmp 148) (.tmp 150) 24 rfl (N + 1) 61 _ 3 64 Tryd.underlying24 info_term rfl (by omega) (.slice A3 L.length c3) L.length _ rfl (own_alloc HRq.out.ho.ot _) [.string p1, .slice A4 j2 c4, .slice A5 j2 c5] rfl _ rfl (cell_new _ [.string p1, .slice A4 j2 c4, .slice A5 j2 c5] 61 _ rfl) (by intro u hu; simp at hu; rcases hu with rfl | rfl | rfl <;> rfl) (by omega) (by unfold maxLen; omega) (by simp; omega) ?_); intro g7 c7 w7 own7 hg7 hgg7 hb7; have HX7 := Lib.hid ((HRq.out.hx.alloc (.cells #[.string p1, .slice A4 j2 c4, .slice A5 j2 c5] 61)).push (own_alloc HRq.out.ho.ot _) (by decide) hg7); have HR7 := Lib.hid ((HRq.out.hr.alloc (.cells #[.string p1, .slice A4 j2 c4, .slice A5 j2 c5] 61)).push (own_alloc HRq.out.ho.ot _) (by decide) hg7); have HC7 := Lib.hid ((HCq.out.alloc (.cells #[.string p1, .slice A4 j2 c4, .slice A5 j2 c5] 61)).push (own_alloc HRq.out.ho.ot _) (by decide) hg7); have HB7 := Lib.hid (((Below.refl (N + 1) wr).alloc hN5 (.cells #[.string p1, .slice A4 j2 c4, .slice A5 j2 c5] 61)).trans hb7); have v2 : w7.cell? ⟨N + 1, 2, none⟩ = some (.slice A3 L.length c3) := HX7.out.c 2; have v2f := HX7.out.f 2; have v2s := HX7.out.sh; have r0 := HR7.out.c 0; have r1 := HR7.out.c 1; have r2 := HR7.out.c 2; have f0 := HR7.out.f 0; have f1 := HR7.out.f 1; have f2 := HR7.out.f 2; have fs := HR7.out.sh; clear own7 hg7 hgg7 hb7))
                      have HRz := Lib.hid (HR7.out.set_other (m := N + 1) (o := 2) (by omega) (.slice (some ⟨g7, 0, none⟩) (L.length + 1) c7))
                      have HBz := Lib.hid (HRq.out.hb.trans (((HB7.out.setCell (p := ⟨N + 1, 2, none⟩) (Nat.le_refl _) (.slice (some ⟨g7, 0, none⟩) (L.length + 1) c7))).mono (Nat.le_succ N)))
                      refine idx_done rfl (((HRz.out.put 0 _).put 1 _).put 2 _) rfl rfl rfl rfl ?_
                      exact ReadPost.err HE.out (by decide) (((HBz.out.setCell (p := ⟨N, 0, none⟩) (Nat.le_refl N) _).setCell (p := ⟨N, 1, none⟩) (Nat.le_refl N) _).setCell (p := ⟨N, 2, none⟩) (Nat.le_refl N) _)
                    · rw [size_toList] at i2
                      have HIb := Lib.hid i1
                      have hk0 : (0 : Int) ≤ (k : Int) := by omega
                      have hk1 : (k : Int) ≤ (q.size : Int) := by omega
                      have hk2 : (k : Int) + 1 ≤ (q.size : Int) := by omega
                      have hkn : ((k : Int) < 0) = False := by simp
                      have hkt : ((k : Int) + 1).toNat = k + 1 := by omega
                      obtain ⟨a1, ha1⟩ : ∃ a1, q.extract 0 k = a1 := ⟨_, rfl⟩
                      obtain ⟨z1, hz1⟩ : ∃ z1, q.extract (k + 1) q.size = z1 := ⟨_, rfl⟩
                      have ha1d : a1.data.toList = bef 58 q.data.toList := by rw [← ha1, ext_take, i3]
                      have hz1d : z1.data.toList = (aft 58 q.data.toList).tail := by rw [← hz1, ext_drop, i4, List.tail_drop]
                      have ha1s : a1.size ≤ 1048576 := by rw [← ha1, ByteArray.size_extract]; omega
                      have hz1s : z1.size ≤ 1048576 := by rw [← hz1, ByteArray.size_extract]; omega
                      obtain ⟨na, hna⟩ : ∃ b, numB a1.data.toList = b := ⟨_, rfl⟩
                      obtain ⟨nz, hnz⟩ : ∃ b, numB z1.data.toList = b := ⟨_, rfl⟩
                      obtain ⟨va, hva⟩ : ∃ v : Int, ((numV a1.data.toList : Nat) : Int) = v := ⟨_, rfl⟩
                      obtain ⟨vz, hvz⟩ : ∃ v : Int, ((numV z1.data.toList : Nat) : Int) = v := ⟨_, rfl⟩
                      have HPk := Lib.hid (show pairOk q.data.toList = (na && nz) by rw [pairOk, pairA, pairZ, ← ha1d, ← hz1d, hna, hnz])
                      have HDs := Lib.hid (show docsQ (Q.take (j2 + 1)) = docsQ (Q.take j2) ++ [va] by rw [docsQ, take_map HQj.out, ← hva, ha1d]; rfl)
                      have HMs := Lib.hid (show manyQ (Q.take (j2 + 1)) = manyQ (Q.take j2) ++ [vz] by rw [manyQ, take_map HQj.out, ← hvz, hz1d]; rfl)
                      have HNa := Lib.hid hna; have HNz := Lib.hid hnz; have HVa := Lib.hid hva; have HVz := Lib.hid hvz
                      have HOl := Lib.hid (fun (wl : World) (hs : wr.heap.size ≤ wl.heap.size) (b : Nat) (hb : (Value.slice A4 j2 c4).ownBlock = some b) => Nat.lt_of_lt_of_le (own_lt HD.out b hb) hs)
                      have hTl : G + 1 < wr.heap.size := HT.out.lt
                      have t1 := HT.out.c 1; have t2 := HT.out.c 2
                      clear i1 i3 i4 i5 ha1d hz1d hna hnz hva hvz
                      obtain rfl : ok = false := HOk.out
                      go_wp2_with (first | (go_at_call 26; go_must (refine (ibyte_q q 58 58 (k : Int) _ rfl HIb.out).mono ?_); rintro e wi ⟨rfl, rfl⟩) | (go_at_call 24; have hsm := natural_q a1 wr ha1s; rw [HVa.out, HNa.out] at hsm; (with_reducible refine hsm.mono ?_); clear hsm; rintro e wn ⟨rfl, rfl⟩) | (go_at_call 24; have hsm := natural_q z1 wr hz1s; rw [HVz.out, HNz.out] at hsm; (with_reducible refine hsm.mono ?_); clear hsm; rintro e wn ⟨rfl, rfl⟩))
                      refine wp_region_any (by kernel_rfl) ?_
                      change wpAny _ _ _ _ _ _ _ wr.drew
                      refine wpAny_inv [0, 1, 2, 3, 4, 5, 6, 7, 8, 9, 10] (IR29 (fun v134 v135 v136 v137 v138 v139 v140 v141 v142 v143 v144 => (⟨#[Value.string s, undef, Value.pointer (some { block := N, off := 0 }), u3, Value.pointer (some { block := N + 1, off := 0 }), undef, Value.string a, Value.bool false, u8, u9, Value.slice (some { block := G, off := 0 }) (Q.length + 1 + 1) (Q.length + 1 + 1), Value.pointer (some { block := G + 1, off := 0 }), undef, Value.string q, Value.int IntKind.i64 ↑k, Value.int IntKind.i64 va, Value.bool na, Value.int IntKind.i64 vz, Value.bool nz, undef, Value.string s, Value.int IntKind.i64 ↑s.size, Value.bool (decide ((400000 : Int) < ↑s.size)), undef, Value.string s, Value.bool true, Value.bool true, Value.string s, Value.bool true, Value.bool false, Value.bool false, undef, Value.agg #[Value.slice none 0 0, Value.slice none 0 0, Value.slice none 0 0], Value.string s, Value.slice (some { block := g, off := 0 }) Lb.length Lb.length, Value.int IntKind.i64 ↑Lb.length, Value.int IntKind.i64 ↑j, Value.bool true, Value.pointer (some { block := g, off := j }), Value.string a, Value.string a, Value.bool false, Value.bool false, undef, undef, undef, undef, Value.bool false, u48, u49, u50, u51, u52, u53, u54, u55, u56, u57, u58, u59, u60, u61, u62, u63, u64, u65, u66, u67, u68, u69, u70, u71, u72, u73, u74, u75, u76, u77, u78, u79, u80, u81, u82, u83, Value.string a, Value.bool true, Value.string a, Value.slice (some { block := G, off := 0 }) (Q.length + 1 + 1) (Q.length + 1 + 1), Value.slice (some { block := G, off := 0 }) (Q.length + 1 + 1) (Q.length + 1 + 1), Value.pointer (some { block := G, off := 1 }), Value.string p1, Value.agg #[Value.string p1, Value.slice none 0 0, Value.slice none 0 0], Value.slice (some { block := G, off := 0 }) (Q.length + 1 + 1) (Q.length + 1 + 1), Value.pointer (some { block := G, off := 1 }), Value.string p1, Value.bool false, Value.bool false, undef, undef, undef, Value.bool false, Value.slice (some { block := G, off := 0 }) (Q.length + 1 + 1) (Q.length + 1 + 1), Value.slice (some { block := G, off := 2 }) Q.length Q.length, Value.int IntKind.i64 ↑Q.length, Value.int IntKind.i64 ↑j2, Value.bool true, Value.pointer (some { block := G, off := 2 + j2 }), Value.string q, Value.string q, Value.int IntKind.i64 ↑k, Value.int IntKind.i64 ↑k, Value.bool false, Value.tuple #[Value.int IntKind.i64 va, Value.bool na], Value.string q, Value.int IntKind.i64 ↑k, Value.string a1, Value.tuple #[Value.int IntKind.i64 va, Value.bool na], Value.int IntKind.i64 va, Value.bool na, Value.tuple #[Value.int IntKind.i64 vz, Value.bool nz], Value.string q, Value.int IntKind.i64 ↑k, Value.int IntKind.i64 (↑k + 1), Value.string z1, Value.tuple #[Value.int IntKind.i64 vz, Value.bool nz], Value.int IntKind.i64 vz, Value.bool nz, Value.bool false, Value.bool false, undef, Value.bool false, Value.bool false, undef, Value.bool false, v134, v135, v136, v137, v138, v139, v140, v141, v142, v143, v144, u145, u146, u147, u148, u149, u150, u151, u152, u153, u154, u155, u156, undef, undef, undef, undef, undef, undef, undef], []⟩ : Act)) (G + 1) A4 A5 j2 c4 c5 va vz (docsQ (Q.take j2)) (manyQ (Q.take j2)) p1 wr) #[true, true, true, true, true, true, true, true, true, true, true, false, false, false] (g := 3) (by kernel_rfl) (by kernel_rfl) (by kernel_rfl) (IR29.start u134 u135 u136 u137 u138 u139 u140 u141 u142 u143 u144 rfl (W29.start HT.out.drew ((Below.refl _ _).drew) (own_drew HD.out) (own_drew HM.out) HAp.out)) ?stepR0 ?lastR0
                      case stepR0 =>
                        intro i hi L a' w' hs hr hI
                        obtain ⟨x0, x1, x2, x3, x4, x5, x6, x7, x8, x9, x10, rfl, hW, h0, h1, h2, h3, h4, h5, h6, h7, h8, h9, h10⟩ := hI
                        simp only [List.mem_cons, List.not_mem_nil, or_false] at hi
                        rcases hi with rfl | rfl | rfl | rfl | rfl | rfl | rfl | rfl | rfl | rfl | rfl
                        · refine wpOp_step rfl (fun K hK => ?_)
                          go_simp
                          exact hK _ _ ⟨_, _, _, _, _, _, _, _, _, _, _, rfl, W29.step (by decide) (by decide) hW, fun _ => rfl, (fun h => h1 (getD_was (by decide) h)), (fun h => h2 (getD_was (by decide) h)), (fun h h' => h3 (getD_was (by decide) h) (by rw [← getD_set_ne false (show 0 ≠ 4 by decide)]; exact h')), (fun h => h4 (getD_was (by decide) h)), (fun h => h5 (getD_was (by decide) h)), (fun h => h6 (getD_was (by decide) h)), (fun h => h7 (getD_was (by decide) h)), (fun h h' => h8 (getD_was (by decide) h) (by rw [← getD_set_ne false (show 0 ≠ 9 by decide)]; exact h')), (fun h => h9 (getD_was (by decide) h)), (fun h => h10 (getD_was (by decide) h))⟩
                        · have q0 := h0 (ready_dep hr (by kernel_rfl))
                          subst q0
                          have z := hW.ht.c 1
                          simp only [List.getElem?_toArray, List.getElem?_cons_zero, List.getElem?_cons_succ] at z
                          refine wpOp_step rfl (fun K hK => ?_)
                          go_simp
                          exact hK _ _ ⟨_, _, _, _, _, _, _, _, _, _, _, rfl, W29.step (by decide) (by decide) hW, fun _ => rfl, fun _ => rfl, (fun h => h2 (getD_was (by decide) h)), (fun h h' => h3 (getD_was (by decide) h) (by rw [← getD_set_ne false (show 1 ≠ 4 by decide)]; exact h')), (fun h => h4 (getD_was (by decide) h)), (fun h => h5 (getD_was (by decide) h)), (fun h => h6 (getD_was (by decide) h)), (fun h => h7 (getD_was (by decide) h)), (fun h h' => h8 (getD_was (by decide) h) (by rw [← getD_set_ne false (show 1 ≠ 9 by decide)]; exact h')), (fun h => h9 (getD_was (by decide) h)), (fun h => h10 (getD_was (by decide) h))⟩
                        · refine wpOp_step rfl (fun K hK => ?_)
                          go_simp
                          exact hK _ _ ⟨_, _, _, _, _, _, _, _, _, _, _, rfl, W29.step (by decide) (by decide) hW, (fun h => h0 (getD_was (by decide) h)), (fun h => h1 (getD_was (by decide) h)), fun _ => rfl, (fun h h' => h3 (getD_was (by decide) h) (by rw [← getD_set_ne false (show 2 ≠ 4 by decide)]; exact h')), (fun h => h4 (getD_was (by decide) h)), (fun h => h5 (getD_was (by decide) h)), (fun h => h6 (getD_was (by decide) h)), (fun h => h7 (getD_was (by decide) h)), (fun h h' => h8 (getD_was (by decide) h) (by rw [← getD_set_ne false (show 2 ≠ 9 by decide)]; exact h')), (fun h => h9 (getD_was (by decide) h)), (fun h => h10 (getD_was (by decide) h))⟩
                        · have q2 := h2 (ready_dep hr (by kernel_rfl))
                          subst q2
                          refine wpOp_step rfl (fun K hK => ?_)
                          go_simp
                          exact hK _ _ ⟨_, _, _, _, _, _, _, _, _, _, _, rfl, W29.step (by decide) (by decide) (hW.alloc _), (fun h => h0 (getD_was (by decide) h)), (fun h => h1 (getD_was (by decide) h)), fun _ => rfl, (fun _ _ => ⟨_, rfl, by rw [World.size_alloc]; omega, cell_new _ [.int .i64 va] 3 _ rfl⟩), (fun h => h4 (getD_was (by decide) h)), (fun h => h5 (getD_was (by decide) h)), (fun h => h6 (getD_was (by decide) h)), (fun h => h7 (getD_was (by decide) h)), (fun h h' => (by obtain ⟨q1, q2, q3, q4⟩ := h8 (getD_was (by decide) h) (by rw [← getD_set_ne false (show 3 ≠ 9 by decide)]; exact h'); exact ⟨q1, q2, q3.alloc _, q4⟩)), (fun h => h9 (getD_was (by decide) h)), (fun h => h10 (getD_was (by decide) h))⟩
                        · have q1 := h1 (ready_dep hr (by kernel_rfl))
                          subst q1
                          have hL4 := ready_un hr
                          obtain ⟨hL9, hO1, hO2, hAp⟩ := hW.h0 hL4
                          obtain ⟨gd, rfl, hgd, hcd⟩ := h3 (ready_dep hr (by kernel_rfl)) hL4
                          have hsz := hW.ht.lt
                          refine wpOp_step rfl (fun K hK => ?_)
                          refine step_pushR rfl (.tmp 135) (.tmp 137) 23 rfl (G + 1 + 1) 3 _ 1 8 Tryd.underlying23 info_intR rfl (by omega) (.slice A4 j2 c4) j2 _ rfl hO1 [.int .i64 va] rfl gd rfl hcd (one_int _ _) (by omega) (by unfold maxLen; omega) (by omega) ?_
                          intro g7 k7 w7 own7 hg7 hgg7 hb7
                          have hO2' := World.ownsRow.kept hO2 hg7 hAp.symm.or
                          have hAp' := Apart.push (n := j2 + 1) (cap := k7) hAp hgg7 (own_lt hO2)
                          rw [← intCells_snoc] at own7
                          have hnew : (L.setIfInBounds 4 true).getD 4 false = true := getD_at (mem_ready.1 hr).1 false
                          have hold : (L.setIfInBounds 4 true).getD 9 false = false := by rw [getD_set_ne false (by decide)]; exact hL9
                          refine hK _ _ ⟨_, _, _, _, _, _, _, _, _, _, _, rfl, ?_, (fun h => h0 (getD_was (by decide) h)), fun _ => rfl, (fun h => h2 (getD_was (by decide) h)), (fun _ h => by rw [getD_at (mem_ready.1 hr).1] at h; cases h), (fun _ => ⟨_, _, rfl⟩), (fun h => h5 (getD_was (by decide) h)), (fun h => h6 (getD_was (by decide) h)), (fun h => h7 (getD_was (by decide) h)), (fun h h' => (by obtain ⟨q1, q2, q3, q4⟩ := h8 (getD_was (by decide) h) (by rw [← getD_set_ne false (show 4 ≠ 9 by decide)]; exact h'); exact ⟨q1, q2, q3.other hg7 (fun e => q4 _ e.symm rfl), q4⟩)), (fun h => h9 (getD_was (by decide) h)), (fun h => h10 (getD_was (by decide) h))⟩
                          rw [hnew, hold]
                          exact ⟨hW.ht.push hO1 (by decide) hg7, hW.hb.trans hb7, (fun h => by cases h), (fun _ _ => ⟨own7, hO2', hAp'⟩), (fun h => by cases h)⟩
                        · refine wpOp_step rfl (fun K hK => ?_)
                          go_simp
                          exact hK _ _ ⟨_, _, _, _, _, _, _, _, _, _, _, rfl, W29.step (by decide) (by decide) hW, (fun h => h0 (getD_was (by decide) h)), (fun h => h1 (getD_was (by decide) h)), (fun h => h2 (getD_was (by decide) h)), (fun h h' => h3 (getD_was (by decide) h) (by rw [← getD_set_ne false (show 5 ≠ 4 by decide)]; exact h')), (fun h => h4 (getD_was (by decide) h)), fun _ => rfl, (fun h => h6 (getD_was (by decide) h)), (fun h => h7 (getD_was (by decide) h)), (fun h h' => h8 (getD_was (by decide) h) (by rw [← getD_set_ne false (show 5 ≠ 9 by decide)]; exact h')), (fun h => h9 (getD_was (by decide) h)), (fun h => h10 (getD_was (by decide) h))⟩
                        · have q5 := h5 (ready_dep hr (by kernel_rfl))
                          subst q5
                          have z := hW.ht.c 2
                          simp only [List.getElem?_toArray, List.getElem?_cons_zero, List.getElem?_cons_succ] at z
                          refine wpOp_step rfl (fun K hK => ?_)
                          go_simp
                          exact hK _ _ ⟨_, _, _, _, _, _, _, _, _, _, _, rfl, W29.step (by decide) (by decide) hW, (fun h => h0 (getD_was (by decide) h)), (fun h => h1 (getD_was (by decide) h)), (fun h => h2 (getD_was (by decide) h)), (fun h h' => h3 (getD_was (by decide) h) (by rw [← getD_set_ne false (show 6 ≠ 4 by decide)]; exact h')), (fun h => h4 (getD_was (by decide) h)), fun _ => rfl, fun _ => rfl, (fun h => h7 (getD_was (by decide) h)), (fun h h' => h8 (getD_was (by decide) h) (by rw [← getD_set_ne false (show 6 ≠ 9 by decide)]; exact h')), (fun h => h9 (getD_was (by decide) h)), (fun h => h10 (getD_was (by decide) h))⟩
                        · refine wpOp_step rfl (fun K hK => ?_)
                          go_simp
                          exact hK _ _ ⟨_, _, _, _, _, _, _, _, _, _, _, rfl, W29.step (by decide) (by decide) hW, (fun h => h0 (getD_was (by decide) h)), (fun h => h1 (getD_was (by decide) h)), (fun h => h2 (getD_was (by decide) h)), (fun h h' => h3 (getD_was (by decide) h) (by rw [← getD_set_ne false (show 7 ≠ 4 by decide)]; exact h')), (fun h => h4 (getD_was (by decide) h)), (fun h => h5 (getD_was (by decide) h)), (fun h => h6 (getD_was (by decide) h)), fun _ => rfl, (fun h h' => h8 (getD_was (by decide) h) (by rw [← getD_set_ne false (show 7 ≠ 9 by decide)]; exact h')), (fun h => h9 (getD_was (by decide) h)), (fun h => h10 (getD_was (by decide) h))⟩
                        · have hA := HOl.out w' hW.hb.size
                          have q7 := h7 (ready_dep hr (by kernel_rfl))
                          subst q7
                          refine wpOp_step rfl (fun K hK => ?_)
                          go_simp
                          exact hK _ _ ⟨_, _, _, _, _, _, _, _, _, _, _, rfl, W29.step (by decide) (by decide) (hW.alloc _), (fun h => h0 (getD_was (by decide) h)), (fun h => h1 (getD_was (by decide) h)), (fun h => h2 (getD_was (by decide) h)), (fun h h' => (by obtain ⟨q1, q2, q3, q4⟩ := h3 (getD_was (by decide) h) (by rw [← getD_set_ne false (show 8 ≠ 4 by decide)]; exact h'); exact ⟨q1, q2, by rw [World.size_alloc]; omega, fun k u hk => Keeps.alloc _ _ _ _ (q4 k u hk)⟩)), (fun h => h4 (getD_was (by decide) h)), (fun h => h5 (getD_was (by decide) h)), (fun h => h6 (getD_was (by decide) h)), fun _ => rfl, (fun _ _ => ⟨_, rfl, CB.new _ _ _, fun b hb => by have h9 := hA b hb; omega⟩), (fun h => h9 (getD_was (by decide) h)), (fun h => h10 (getD_was (by decide) h))⟩
                        · have q6 := h6 (ready_dep hr (by kernel_rfl))
                          subst q6
                          have hL9 := ready_un hr
                          have hL4 := ready_dep hr (show (depsOf _ _ 9).contains 4 = true by kernel_rfl)
                          obtain ⟨hO1, hO2, hAp⟩ := hW.h1 hL4 hL9
                          obtain ⟨gi, rfl, hci, _⟩ := h8 (ready_dep hr (by kernel_rfl)) hL9
                          have hsz := hW.ht.lt
                          refine wpOp_step rfl (fun K hK => ?_)
                          refine step_pushR rfl (.tmp 140) (.tmp 142) 23 rfl (G + 1 + 1) 3 _ 1 8 Tryd.underlying23 info_intR rfl (by omega) (.slice A5 j2 c5) j2 _ rfl hO2 [.int .i64 vz] rfl gi rfl (fun k u hk => (hci.c k).trans (by simpa using hk)) (one_int _ _) (by omega) (by unfold maxLen; omega) (by omega) ?_
                          intro g9 k9 w9 own9 hg9 hgg9 hb9
                          have hO1' := World.ownsRow.kept hO1 hg9 hAp.or
                          have hAp' := Apart.symm (Apart.push (n := j2 + 1) (cap := k9) hAp.symm hgg9 (own_lt hO1))
                          rw [← intCells_snoc] at own9
                          have hnew : (L.setIfInBounds 9 true).getD 9 false = true := getD_at (mem_ready.1 hr).1 false
                          have hold : (L.setIfInBounds 9 true).getD 4 false = true := by rw [getD_set_ne false (by decide)]; exact hL4
                          refine hK _ _ ⟨_, _, _, _, _, _, _, _, _, _, _, rfl, ?_, (fun h => h0 (getD_was (by decide) h)), (fun h => h1 (getD_was (by decide) h)), (fun h => h2 (getD_was (by decide) h)), (fun _ h' => by rw [hold] at h'; cases h'), (fun h => h4 (getD_was (by decide) h)), (fun h => h5 (getD_was (by decide) h)), fun _ => rfl, (fun h => h7 (getD_was (by decide) h)), (fun _ h => by rw [getD_at (mem_ready.1 hr).1] at h; cases h), (fun _ => ⟨_, _, rfl⟩), (fun h => h10 (getD_was (by decide) h))⟩
                          rw [hnew, hold]
                          exact ⟨hW.ht.push hO2 (by decide) hg9, hW.hb.trans hb9, (fun h => by cases h), (fun _ h => by cases h), (fun _ => ⟨hO1', own9, hAp'⟩)⟩
                        · refine wpOp_step rfl (fun K hK => ?_)
                          go_simp
                          exact hK _ _ ⟨_, _, _, _, _, _, _, _, _, _, _, rfl, W29.step (by decide) (by decide) hW, (fun h => h0 (getD_was (by decide) h)), (fun h => h1 (getD_was (by decide) h)), (fun h => h2 (getD_was (by decide) h)), (fun h h' => h3 (getD_was (by decide) h) (by rw [← getD_set_ne false (show 10 ≠ 4 by decide)]; exact h')), (fun h => h4 (getD_was (by decide) h)), (fun h => h5 (getD_was (by decide) h)), (fun h => h6 (getD_was (by decide) h)), (fun h => h7 (getD_was (by decide) h)), (fun h h' => h8 (getD_was (by decide) h) (by rw [← getD_set_ne false (show 10 ≠ 9 by decide)]; exact h')), (fun h => h9 (getD_was (by decide) h)), fun _ => rfl⟩
                      case lastR0 =>
                        intro a' w' hI
                        obtain ⟨x0, x1, x2, x3, x4, x5, x6, x7, x8, x9, x10, rfl, hW, h0, h1, h2, h3, h4, h5, h6, h7, h8, h9, h10⟩ := hI
                        obtain ⟨g7, k7, rfl⟩ := h4 rfl
                        obtain ⟨g9, k9, rfl⟩ := h9 rfl
                        have q10 := h10 rfl
                        clear h0 h1 h2 h3 h4 h5 h6 h7 h8 h9 h10
                        subst q10
                        have HT9 := Lib.hid hW.ht; have HB9 := Lib.hid hW.hb; have HO9 := Lib.hid (hW.h2 rfl)
                        clear hW
                        have e1 := HT9.out.c 1; have e2 := HT9.out.c 2; have e1f := HT9.out.f 1; have e2f := HT9.out.f 2; have esh := HT9.out.sh
                        refine wpAny_of_seqA 3 11 rfl (by kernel_rfl) ?_
                        simp only [List.drop_succ_cons, List.drop_zero]
                        have hjl : j2 ≤ 1048577 := by omega
                        go_wp2_with fail
                        go_roundw
                        case rel => exact ⟨j2 + 1, false, _, _, _, _, by omega, by go_num, rfl, (HT9.out.put 1 _).put 2 _, by rw [HDs.out]; exact own_setT (own_setT HO9.out.1 HT9.out (by decide) _) (HT9.out.put 1 _) (by decide) _, by rw [HMs.out]; exact own_setT (own_setT HO9.out.2.1 HT9.out (by decide) _) (HT9.out.put 1 _) (by decide) _, HO9.out.2.2, HBq.out.trans (((HB9.out.mono (Nat.le_succ _)).setCell (p := ⟨G + 1, 1, none⟩) (Nat.le_refl _) _).setCell (p := ⟨G + 1, 2, none⟩) (Nat.le_refl _) _), rfl⟩
                        case measure => simp [intOf]; omega
                  · obtain rfl : j2 = Q.length := by omega
                    obtain rfl : ok = false := HOk.out
                    have HTk := Lib.hid (show termOk l5 = false by rw [termOk, ← HP1e.out, hpe'.out]; rfl)
                    have HE := Lib.hid (readE_bad HLe.out HF.out HR.out.hok (HLk.out.trans HTk.out))
                    have HW := Lib.hid (show Below w5.heap.size w5 wr by rw [hs5]; exact HBq.out)
                    have HRq := Lib.hid (HR5.out.below HW.out)
                    have HCq := Lib.hid (HCb5.out.below HW.out)
                    have b0 : wr.cell? ⟨G + 1, 0, none⟩ = some (.string p1) := HT.out.c 0
                    have b1 : wr.cell? ⟨G + 1, 1, none⟩ = some (.slice A4 Q.length c4) := HT.out.c 1
                    have b2 : wr.cell? ⟨G + 1, 2, none⟩ = some (.slice A5 Q.length c5) := HT.out.c 2
                    have z2 : wr.cell? ⟨N + 1, 2, none⟩ = some (.slice A3 L.length c3) := HRq.out.hx.c 2
                    have hN5 : N + 1 ≤ wr.heap.size := Nat.le_of_lt HRq.out.hx.lt
                    go_wp2_with (at_builtin; go_must (refine wpList_push _ rfl (.tmp 148) (.tmp 150) 24 rfl (N + 1) 61 _ 3 64 Tryd.underlying24 info_term rfl (by omega) (.slice A3 L.length c3) L.length _ rfl (own_alloc HRq.out.ho.ot _) [.string p1, .slice A4 Q.length c4, .slice A5 Q.length c5] rfl _ rfl (cell_new _ [.string p1, .slice A4 Q.length c4, .slice A5 Q.length c5] 61 _ rfl) (by intro u hu; simp at hu; rcases hu with rfl | rfl | rfl <;> rfl) (by omega) (by unfold maxLen; omega) (by simp; omega) ?_); intro g7 c7 w7 own7 hg7 hgg7 hb7; have HX7 := Lib.hid ((HRq.out.hx.alloc (.cells #[.string p1, .slice A4 Q.length c4, .slice A5 Q.length c5] 61)).push (own_alloc HRq.out.ho.ot _) (by decide) hg7); have HR7 := Lib.hid ((HRq.out.hr.alloc (.cells #[.string p1, .slice A4 Q.length c4, .slice A5 Q.length c5] 61)).push (own_alloc HRq.out.ho.ot _) (by decide) hg7); have HC7 := Lib.hid ((HCq.out.alloc (.cells #[.string p1, .slice A4 Q.length c4, .slice A5 Q.length c5] 61)).push (own_alloc HRq.out.ho.ot _) (by decide) hg7); have HB7 := Lib.hid (((Below.refl (N + 1) wr).alloc hN5 (.cells #[.string p1, .slice A4 Q.length c4, .slice A5 Q.length c5] 61)).trans hb7); have v2 : w7.cell? ⟨N + 1, 2, none⟩ = some (.slice A3 L.length c3) := HX7.out.c 2; have v2f := HX7.out.f 2; have v2s := HX7.out.sh; have r0 := HR7.out.c 0; have r1 := HR7.out.c 1; have r2 := HR7.out.c 2; have f0 := HR7.out.f 0; have f1 := HR7.out.f 1; have f2 := HR7.out.f 2; have fs := HR7.out.sh; clear own7 hg7 hgg7 hb7)
                    have HRz := Lib.hid (HR7.out.set_other (m := N + 1) (o := 2) (by omega) (.slice (some ⟨g7, 0, none⟩) (L.length + 1) c7))
                    have HBz := Lib.hid (HRq.out.hb.trans (((HB7.out.setCell (p := ⟨N + 1, 2, none⟩) (Nat.le_refl _) (.slice (some ⟨g7, 0, none⟩) (L.length + 1) c7))).mono (Nat.le_succ N)))
                    refine idx_done rfl (((HRz.out.put 0 _).put 1 _).put 2 _) rfl rfl rfl rfl ?_
                    exact ReadPost.err HE.out (by decide) (((HBz.out.setCell (p := ⟨N, 0, none⟩) (Nat.le_refl N) _).setCell (p := ⟨N, 1, none⟩) (Nat.le_refl N) _).setCell (p := ⟨N, 2, none⟩) (Nat.le_refl N) _)
              · have ee := isE_false hpe
                have ee2 : ¬ p1.toList = [] := by rw [Go.ByteArray.toList_eq]; exact hpe
                have hpe' := Lib.hid hpe
                clear hpe
                go_wp2_with fail
                have HBt0 := Lib.hid (show CB (w5.alloc (.cells #[.string p1, .slice none 0 0, .slice none 0 0] 61)) (G + 1) 61 #[.string p1, .slice none 0 0, .slice none 0 0] by have h9 := CB.new w5 #[.string p1, .slice none 0 0, .slice none 0 0] 61; rw [hs5] at h9; exact h9)
                go_loopw [104, 7] (fun t104 t7 wr => ∃ (j2 : Nat) (ok : Bool) (A4 : Option Addr) (c4 : Nat) (A5 : Option Addr) (c5 : Nat), j2 ≤ Q.length ∧ t104 = .int .i64 j2 ∧ t7 = .bool ok ∧ Hid (CB wr (G + 1) 61 #[.string p1, .slice A4 j2 c4, .slice A5 j2 c5]) ∧ Hid (wr.ownsRow (G + 1 + 1) 3 1 (.slice A4 j2 c4) j2 (intCells (docsQ (Q.take j2)))) ∧ Hid (wr.ownsRow (G + 1 + 1) 3 1 (.slice A5 j2 c5) j2 (intCells (manyQ (Q.take j2)))) ∧ Hid (Apart (.slice A4 j2 c4) (.slice A5 j2 c5)) ∧ Hid (Below (G + 1) w5 wr) ∧ Hid (ok = (Q.take j2).all fun q => pairOk q.data.toList)) (fun t _ _ => Q.length - (intOf t).toNat)
                case atStart => exact ⟨0, _, none, 0, none, 0, Nat.zero_le _, rfl, rfl, HBt0.out, World.ownsRow_nil _ _ _ _, World.ownsRow_nil _ _ _ _, Apart.nil _ _, (Below.refl _ _).alloc (by omega) _, Lib.hid (by simp; omega)⟩
                case round =>
                  obtain ⟨j2, ok, A4, c4, A5, c5, hj2, rfl, rfl, HT, HD, HM, HAp, HBq, HOk⟩ := hrel
                  by_cases hlt2 : j2 < Q.length
                  · obtain ⟨q, hq⟩ : ∃ q, Q[j2]? = some q := ⟨_, List.getElem?_eq_getElem hlt2⟩
                    have d1 : wr.cell? ⟨G, 2 + j2, none⟩ = some (.string q) := by
                      rw [(HCp.out.belowB HBq.out (Nat.lt_succ_self G)).c (2 + j2), Nat.add_comm]
                      simp [hq]
                    have hqs : q.size ≤ 1048576 := by
                      have h1 : q.data.toList ∈ splitC 32 l5 := List.mem_of_mem_tail (by rw [← HQ.out]; exact List.mem_map.2 ⟨q, List.mem_of_getElem? hq, rfl⟩)
                      have h2 := splitC_mem 32 _ _ h1
                      rw [size_toList] at h2
                      omega
                    have HQj := Lib.hid hq
                    clear hq
                    rcases ib_cases 58 q.data.toList with ⟨i1, i2, i3⟩ | ⟨k, i1, i2, i3, i4, i5⟩
                    · have HIb := Lib.hid i1
                      have HTk := Lib.hid (pair_no HQ.out HQj.out (by rw [pairOk, pairZ, i3]; simp [numB, numForm]))
                      have HE := Lib.hid (readE_bad HLe.out HF.out HR.out.hok (HLk.out.trans HTk.out))
                      clear i1 i2 i3
                      have HW := Lib.hid (show Below w5.heap.size w5 wr by rw [hs5]; exact HBq.out)
                      have HRq := Lib.hid (HR5.out.below HW.out)
                      have HCq := Lib.hid (HCb5.out.below HW.out)
                      have b0 : wr.cell? ⟨G + 1, 0, none⟩ = some (.string p1) := HT.out.c 0
                      have b1 : wr.cell? ⟨G + 1, 1, none⟩ = some (.slice A4 j2 c4) := HT.out.c 1
                      have b2 : wr.cell? ⟨G + 1, 2, none⟩ = some (.slice A5 j2 c5) := HT.out.c 2
                      have z2 : wr.cell? ⟨N + 1, 2, none⟩ = some (.slice A3 L.length c3) := HRq.out.hx.c 2
                      have hN5 : N + 1 ≤ wr.heap.size := Nat.le_of_lt HRq.out.hx.lt
                      go_wp2_with (first | (go_at_call 26; go_must (refine (ibyte_q q 58 58 (-1) _ rfl HIb.out).mono ?_); rintro e wi ⟨rfl, rfl⟩) | (at_builtin; go_must (refine wpList_push _ rfl (.tmp 148) (.tmp 150) 24 rfl (N + 1) 61 _ 3 64 Tryd.underlying24 info_term rfl (by omega) (.slice A3 L.length c3) L.length _ rfl (own_alloc HRq.out.ho.ot _) [.string p1, .slice A4 j2 c4, .slice A5 j2 c5] rfl _ rfl (cell_new _ [.string p1, .slice A4 j2 c4, .slice A5 j2 c5] 61 _ rfl) (by intro u hu; simp at hu; rcases hu with rfl | rfl | rfl <;> rfl) (by omega) (by unfold maxLen; omega) (by simp; omega) ?_); intro g7 c7 w7 own7 hg7 hgg7 hb7; have HX7 := Lib.hid ((HRq.out.hx.alloc (.cells #[.string p1, .slice A4 j2 c4, .slice A5 j2 c5] 61)).push (own_alloc HRq.out.ho.ot _) (by decide) hg7); have HR7 := Lib.hid ((HRq.out.hr.alloc (.cells #[.string p1, .slice A4 j2 c4, .slice A5 j2 c5] 61)).push (own_alloc HRq.out.ho.ot _) (by decide) hg7); have HC7 := Lib.hid ((HCq.out.alloc (.cells #[.string p1, .slice A4 j2 c4, .slice A5 j2 c5] 61)).push (own_alloc HRq.out.ho.ot _) (by decide) hg7); have HB7 := Lib.hid (((Below.refl (N + 1) wr).alloc hN5 (.cells #[.string p1, .slice A4 j2 c4, .slice A5 j2 c5] 61)).trans hb7); have v2 : w7.cell? ⟨N + 1, 2, none⟩ = some (.slice A3 L.length c3) := HX7.out.c 2; have v2f := HX7.out.f 2; have v2s := HX7.out.sh; have r0 := HR7.out.c 0; have r1 := HR7.out.c 1; have r2 := HR7.out.c 2; have f0 := HR7.out.f 0; have f1 := HR7.out.f 1; have f2 := HR7.out.f 2; have fs := HR7.out.sh; clear own7 hg7 hgg7 hb7))
                      have HRz := Lib.hid (HR7.out.set_other (m := N + 1) (o := 2) (by omega) (.slice (some ⟨g7, 0, none⟩) (L.length + 1) c7))
                      have HBz := Lib.hid (HRq.out.hb.trans (((HB7.out.setCell (p := ⟨N + 1, 2, none⟩) (Nat.le_refl _) (.slice (some ⟨g7, 0, none⟩) (L.length + 1) c7))).mono (Nat.le_succ N)))
                      refine idx_done rfl (((HRz.out.put 0 _).put 1 _).put 2 _) rfl rfl rfl rfl ?_
                      exact ReadPost.err HE.out (by decide) (((HBz.out.setCell (p := ⟨N, 0, none⟩) (Nat.le_refl N) _).setCell (p := ⟨N, 1, none⟩) (Nat.le_refl N) _).setCell (p := ⟨N, 2, none⟩) (Nat.le_refl N) _)
                    · rw [size_toList] at i2
                      have HIb := Lib.hid i1
                      have hk0 : (0 : Int) ≤ (k : Int) := by omega
                      have hk1 : (k : Int) ≤ (q.size : Int) := by omega
                      have hk2 : (k : Int) + 1 ≤ (q.size : Int) := by omega
                      have hkn : ((k : Int) < 0) = False := by simp
                      have hkt : ((k : Int) + 1).toNat = k + 1 := by omega
                      obtain ⟨a1, ha1⟩ : ∃ a1, q.extract 0 k = a1 := ⟨_, rfl⟩
                      obtain ⟨z1, hz1⟩ : ∃ z1, q.extract (k + 1) q.size = z1 := ⟨_, rfl⟩
                      have ha1d : a1.data.toList = bef 58 q.data.toList := by rw [← ha1, ext_take, i3]
                      have hz1d : z1.data.toList = (aft 58 q.data.toList).tail := by rw [← hz1, ext_drop, i4, List.tail_drop]
                      have ha1s : a1.size ≤ 1048576 := by rw [← ha1, ByteArray.size_extract]; omega
                      have hz1s : z1.size ≤ 1048576 := by rw [← hz1, ByteArray.size_extract]; omega
                      obtain ⟨na, hna⟩ : ∃ b, numB a1.data.toList = b := ⟨_, rfl⟩
                      obtain ⟨nz, hnz⟩ : ∃ b, numB z1.data.toList = b := ⟨_, rfl⟩
                      obtain ⟨va, hva⟩ : ∃ v : Int, ((numV a1.data.toList : Nat) : Int) = v := ⟨_, rfl⟩
                      obtain ⟨vz, hvz⟩ : ∃ v : Int, ((numV z1.data.toList : Nat) : Int) = v := ⟨_, rfl⟩
                      have HPk := Lib.hid (show pairOk q.data.toList = (na && nz) by rw [pairOk, pairA, pairZ, ← ha1d, ← hz1d, hna, hnz])
                      have HDs := Lib.hid (show docsQ (Q.take (j2 + 1)) = docsQ (Q.take j2) ++ [va] by rw [docsQ, take_map HQj.out, ← hva, ha1d]; rfl)
                      have HMs := Lib.hid (show manyQ (Q.take (j2 + 1)) = manyQ (Q.take j2) ++ [vz] by rw [manyQ, take_map HQj.out, ← hvz, hz1d]; rfl)
                      have HNa := Lib.hid hna; have HNz := Lib.hid hnz; have HVa := Lib.hid hva; have HVz := Lib.hid hvz
                      have HOl := Lib.hid (fun (wl : World) (hs : wr.heap.size ≤ wl.heap.size) (b : Nat) (hb : (Value.slice A4 j2 c4).ownBlock = some b) => Nat.lt_of_lt_of_le (own_lt HD.out b hb) hs)
                      have hTl : G + 1 < wr.heap.size := HT.out.lt
                      have t1 := HT.out.c 1; have t2 := HT.out.c 2
                      clear i1 i3 i4 i5 ha1d hz1d hna hnz hva hvz
                      cases ok
                      · go_wp2_with (first | (go_at_call 26; go_must (refine (ibyte_q q 58 58 (k : Int) _ rfl HIb.out).mono ?_); rintro e wi ⟨rfl, rfl⟩) | (go_at_call 24; have hsm := natural_q a1 wr ha1s; rw [HVa.out, HNa.out] at hsm; (with_reducible refine hsm.mono ?_); clear hsm; rintro e wn ⟨rfl, rfl⟩) | (go_at_call 24; have hsm := natural_q z1 wr hz1s; rw [HVz.out, HNz.out] at hsm; (with_reducible refine hsm.mono ?_); clear hsm; rintro e wn ⟨rfl, rfl⟩))
                        refine wp_region_any (by kernel_rfl) ?_
                        change wpAny _ _ _ _ _ _ _ wr.drew
                        refine wpAny_inv [0, 1, 2, 3, 4, 5, 6, 7, 8, 9, 10] (IR29 (fun v134 v135 v136 v137 v138 v139 v140 v141 v142 v143 v144 => (⟨#[Value.string s, undef, Value.pointer (some { block := N, off := 0 }), u3, Value.pointer (some { block := N + 1, off := 0 }), undef, Value.string a, Value.bool false, u8, u9, Value.slice (some { block := G, off := 0 }) (Q.length + 1 + 1) (Q.length + 1 + 1), Value.pointer (some { block := G + 1, off := 0 }), undef, Value.string q, Value.int IntKind.i64 ↑k, Value.int IntKind.i64 va, Value.bool na, Value.int IntKind.i64 vz, Value.bool nz, undef, Value.string s, Value.int IntKind.i64 ↑s.size, Value.bool (decide ((400000 : Int) < ↑s.size)), undef, Value.string s, Value.bool true, Value.bool true, Value.string s, Value.bool true, Value.bool false, Value.bool false, undef, Value.agg #[Value.slice none 0 0, Value.slice none 0 0, Value.slice none 0 0], Value.string s, Value.slice (some { block := g, off := 0 }) Lb.length Lb.length, Value.int IntKind.i64 ↑Lb.length, Value.int IntKind.i64 ↑j, Value.bool true, Value.pointer (some { block := g, off := j }), Value.string a, Value.string a, Value.bool false, Value.bool false, undef, undef, undef, undef, Value.bool false, u48, u49, u50, u51, u52, u53, u54, u55, u56, u57, u58, u59, u60, u61, u62, u63, u64, u65, u66, u67, u68, u69, u70, u71, u72, u73, u74, u75, u76, u77, u78, u79, u80, u81, u82, u83, Value.string a, Value.bool true, Value.string a, Value.slice (some { block := G, off := 0 }) (Q.length + 1 + 1) (Q.length + 1 + 1), Value.slice (some { block := G, off := 0 }) (Q.length + 1 + 1) (Q.length + 1 + 1), Value.pointer (some { block := G, off := 1 }), Value.string p1, Value.agg #[Value.string p1, Value.slice none 0 0, Value.slice none 0 0], Value.slice (some { block := G, off := 0 }) (Q.length + 1 + 1) (Q.length + 1 + 1), Value.pointer (some { block := G, off := 1 }), Value.string p1, Value.bool true, Value.bool true, Value.slice (some { block := G, off := 0 }) (Q.length + 1 + 1) (Q.length + 1 + 1), Value.int IntKind.i64 (↑Q.length + 1 + 1), Value.bool (decide ((2 : Int) < (↑Q.length : Int) + 1 + 1)), Value.bool (decide ((2 : Int) < (↑Q.length : Int) + 1 + 1)), Value.slice (some { block := G, off := 0 }) (Q.length + 1 + 1) (Q.length + 1 + 1), Value.slice (some { block := G, off := 2 }) Q.length Q.length, Value.int IntKind.i64 ↑Q.length, Value.int IntKind.i64 ↑j2, Value.bool true, Value.pointer (some { block := G, off := 2 + j2 }), Value.string q, Value.string q, Value.int IntKind.i64 ↑k, Value.int IntKind.i64 ↑k, Value.bool false, Value.tuple #[Value.int IntKind.i64 va, Value.bool na], Value.string q, Value.int IntKind.i64 ↑k, Value.string a1, Value.tuple #[Value.int IntKind.i64 va, Value.bool na], Value.int IntKind.i64 va, Value.bool na, Value.tuple #[Value.int IntKind.i64 vz, Value.bool nz], Value.string q, Value.int IntKind.i64 ↑k, Value.int IntKind.i64 (↑k + 1), Value.string z1, Value.tuple #[Value.int IntKind.i64 vz, Value.bool nz], Value.int IntKind.i64 vz, Value.bool nz, Value.bool false, Value.bool false, undef, Value.bool false, Value.bool false, undef, Value.bool false, v134, v135, v136, v137, v138, v139, v140, v141, v142, v143, v144, u145, u146, u147, u148, u149, u150, u151, u152, u153, u154, u155, u156, undef, undef, undef, undef, undef, undef, undef], []⟩ : Act)) (G + 1) A4 A5 j2 c4 c5 va vz (docsQ (Q.take j2)) (manyQ (Q.take j2)) p1 wr) #[true, true, true, true, true, true, true, true, true, true, true, false, false, false] (g := 3) (by kernel_rfl) (by kernel_rfl) (by kernel_rfl) (IR29.start u134 u135 u136 u137 u138 u139 u140 u141 u142 u143 u144 rfl (W29.start HT.out.drew ((Below.refl _ _).drew) (own_drew HD.out) (own_drew HM.out) HAp.out)) ?stepR1 ?lastR1
                        case stepR1 =>
                          intro i hi L a' w' hs hr hI
                          obtain ⟨x0, x1, x2, x3, x4, x5, x6, x7, x8, x9, x10, rfl, hW, h0, h1, h2, h3, h4, h5, h6, h7, h8, h9, h10⟩ := hI
                          simp only [List.mem_cons, List.not_mem_nil, or_false] at hi
                          rcases hi with rfl | rfl | rfl | rfl | rfl | rfl | rfl | rfl | rfl | rfl | rfl
                          · refine wpOp_step rfl (fun K hK => ?_)
                            go_simp
                            exact hK _ _ ⟨_, _, _, _, _, _, _, _, _, _, _, rfl, W29.step (by decide) (by decide) hW, fun _ => rfl, (fun h => h1 (getD_was (by decide) h)), (fun h => h2 (getD_was (by decide) h)), (fun h h' => h3 (getD_was (by decide) h) (by rw [← getD_set_ne false (show 0 ≠ 4 by decide)]; exact h')), (fun h => h4 (getD_was (by decide) h)), (fun h => h5 (getD_was (by decide) h)), (fun h => h6 (getD_was (by decide) h)), (fun h => h7 (getD_was (by decide) h)), (fun h h' => h8 (getD_was (by decide) h) (by rw [← getD_set_ne false (show 0 ≠ 9 by decide)]; exact h')), (fun h => h9 (getD_was (by decide) h)), (fun h => h10 (getD_was (by decide) h))⟩
                          · have q0 := h0 (ready_dep hr (by kernel_rfl))
                            subst q0
                            have z := hW.ht.c 1
                            simp only [List.getElem?_toArray, List.getElem?_cons_zero, List.getElem?_cons_succ] at z
                            refine wpOp_step rfl (fun K hK => ?_)
                            go_simp
                            exact hK _ _ ⟨_, _, _, _, _, _, _, _, _, _, _, rfl, W29.step (by decide) (by decide) hW, fun _ => rfl, fun _ => rfl, (fun h => h2 (getD_was (by decide) h)), (fun h h' => h3 (getD_was (by decide) h) (by rw [← getD_set_ne false (show 1 ≠ 4 by decide)]; exact h')), (fun h => h4 (getD_was (by decide) h)), (fun h => h5 (getD_was (by decide) h)), (fun h => h6 (getD_was (by decide) h)), (fun h => h7 (getD_was (by decide) h)), (fun h h' => h8 (getD_was (by decide) h) (by rw [← getD_set_ne false (show 1 ≠ 9 by decide)]; exact h')), (fun h => h9 (getD_was (by decide) h)), (fun h => h10 (getD_was (by decide) h))⟩
                          · refine wpOp_step rfl (fun K hK => ?_)
                            go_simp
                            exact hK _ _ ⟨_, _, _, _, _, _, _, _, _, _, _, rfl, W29.step (by decide) (by decide) hW, (fun h => h0 (getD_was (by decide) h)), (fun h => h1 (getD_was (by decide) h)), fun _ => rfl, (fun h h' => h3 (getD_was (by decide) h) (by rw [← getD_set_ne false (show 2 ≠ 4 by decide)]; exact h')), (fun h => h4 (getD_was (by decide) h)), (fun h => h5 (getD_was (by decide) h)), (fun h => h6 (getD_was (by decide) h)), (fun h => h7 (getD_was (by decide) h)), (fun h h' => h8 (getD_was (by decide) h) (by rw [← getD_set_ne false (show 2 ≠ 9 by decide)]; exact h')), (fun h => h9 (getD_was (by decide) h)), (fun h => h10 (getD_was (by decide) h))⟩
                          · have q2 := h2 (ready_dep hr (by kernel_rfl))
                            subst q2
                            refine wpOp_step rfl (fun K hK => ?_)
                            go_simp
                            exact hK _ _ ⟨_, _, _, _, _, _, _, _, _, _, _, rfl, W29.step (by decide) (by decide) (hW.alloc _), (fun h => h0 (getD_was (by decide) h)), (fun h => h1 (getD_was (by decide) h)), fun _ => rfl, (fun _ _ => ⟨_, rfl, by rw [World.size_alloc]; omega, cell_new _ [.int .i64 va] 3 _ rfl⟩), (fun h => h4 (getD_was (by decide) h)), (fun h => h5 (getD_was (by decide) h)), (fun h => h6 (getD_was (by decide) h)), (fun h => h7 (getD_was (by decide) h)), (fun h h' => (by obtain ⟨q1, q2, q3, q4⟩ := h8 (getD_was (by decide) h) (by rw [← getD_set_ne false (show 3 ≠ 9 by decide)]; exact h'); exact ⟨q1, q2, q3.alloc _, q4⟩)), (fun h => h9 (getD_was (by decide) h)), (fun h => h10 (getD_was (by decide) h))⟩
                          · have q1 := h1 (ready_dep hr (by kernel_rfl))
                            subst q1
                            have hL4 := ready_un hr
                            obtain ⟨hL9, hO1, hO2, hAp⟩ := hW.h0 hL4
                            obtain ⟨gd, rfl, hgd, hcd⟩ := h3 (ready_dep hr (by kernel_rfl)) hL4
                            have hsz := hW.ht.lt
                            refine wpOp_step rfl (fun K hK => ?_)
                            refine step_pushR rfl (.tmp 135) (.tmp 137) 23 rfl (G + 1 + 1) 3 _ 1 8 Tryd.underlying23 info_intR rfl (by omega) (.slice A4 j2 c4) j2 _ rfl hO1 [.int .i64 va] rfl gd rfl hcd (one_int _ _) (by omega) (by unfold maxLen; omega) (by omega) ?_
                            intro g7 k7 w7 own7 hg7 hgg7 hb7
                            have hO2' := World.ownsRow.kept hO2 hg7 hAp.symm.or
                            have hAp' := Apart.push (n := j2 + 1) (cap := k7) hAp hgg7 (own_lt hO2)
                            rw [← intCells_snoc] at own7
                            have hnew : (L.setIfInBounds 4 true).getD 4 false = true := getD_at (mem_ready.1 hr).1 false
                            have hold : (L.setIfInBounds 4 true).getD 9 false = false := by rw [getD_set_ne false (by decide)]; exact hL9
                            refine hK _ _ ⟨_, _, _, _, _, _, _, _, _, _, _, rfl, ?_, (fun h => h0 (getD_was (by decide) h)), fun _ => rfl, (fun h => h2 (getD_was (by decide) h)), (fun _ h => by rw [getD_at (mem_ready.1 hr).1] at h; cases h), (fun _ => ⟨_, _, rfl⟩), (fun h => h5 (getD_was (by decide) h)), (fun h => h6 (getD_was (by decide) h)), (fun h => h7 (getD_was (by decide) h)), (fun h h' => (by obtain ⟨q1, q2, q3, q4⟩ := h8 (getD_was (by decide) h) (by rw [← getD_set_ne false (show 4 ≠ 9 by decide)]; exact h'); exact ⟨q1, q2, q3.other hg7 (fun e => q4 _ e.symm rfl), q4⟩)), (fun h => h9 (getD_was (by decide) h)), (fun h => h10 (getD_was (by decide) h))⟩
                            rw [hnew, hold]
                            exact ⟨hW.ht.push hO1 (by decide) hg7, hW.hb.trans hb7, (fun h => by cases h), (fun _ _ => ⟨own7, hO2', hAp'⟩), (fun h => by cases h)⟩
                          · refine wpOp_step rfl (fun K hK => ?_)
                            go_simp
                            exact hK _ _ ⟨_, _, _, _, _, _, _, _, _, _, _, rfl, W29.step (by decide) (by decide) hW, (fun h => h0 (getD_was (by decide) h)), (fun h => h1 (getD_was (by decide) h)), (fun h => h2 (getD_was (by decide) h)), (fun h h' => h3 (getD_was (by decide) h) (by rw [← getD_set_ne false (show 5 ≠ 4 by decide)]; exact h')), (fun h => h4 (getD_was (by decide) h)), fun _ => rfl, (fun h => h6 (getD_was (by decide) h)), (fun h => h7 (getD_was (by decide) h)), (fun h h' => h8 (getD_was (by decide) h) (by rw [← getD_set_ne false (show 5 ≠ 9 by decide)]; exact h')), (fun h => h9 (getD_was (by decide) h)), (fun h => h10 (getD_was (by decide) h))⟩
                          · have q5 := h5 (ready_dep hr (by kernel_rfl))
                            subst q5
                            have z := hW.ht.c 2
                            simp only [List.getElem?_toArray, List.getElem?_cons_zero, List.getElem?_cons_succ] at z
                            refine wpOp_step rfl (fun K hK => ?_)
                            go_simp
                            exact hK _ _ ⟨_, _, _, _, _, _, _, _, _, _, _, rfl, W29.step (by decide) (by decide) hW, (fun h => h0 (getD_was (by decide) h)), (fun h => h1 (getD_was (by decide) h)), (fun h => h2 (getD_was (by decide) h)), (fun h h' => h3 (getD_was (by decide) h) (by rw [← getD_set_ne false (show 6 ≠ 4 by decide)]; exact h')), (fun h => h4 (getD_was (by decide) h)), fun _ => rfl, fun _ => rfl, (fun h => h7 (getD_was (by decide) h)), (fun h h' => h8 (getD_was (by decide) h) (by rw [← getD_set_ne false (show 6 ≠ 9 by decide)]; exact h')), (fun h => h9 (getD_was (by decide) h)), (fun h => h10 (getD_was (by decide) h))⟩
                          · refine wpOp_step rfl (fun K hK => ?_)
                            go_simp
                            exact hK _ _ ⟨_, _, _, _, _, _, _, _, _, _, _, rfl, W29.step (by decide) (by decide) hW, (fun h => h0 (getD_was (by decide) h)), (fun h => h1 (getD_was (by decide) h)), (fun h => h2 (getD_was (by decide) h)), (fun h h' => h3 (getD_was (by decide) h) (by rw [← getD_set_ne false (show 7 ≠ 4 by decide)]; exact h')), (fun h => h4 (getD_was (by decide) h)), (fun h => h5 (getD_was (by decide) h)), (fun h => h6 (getD_was (by decide) h)), fun _ => rfl, (fun h h' => h8 (getD_was (by decide) h) (by rw [← getD_set_ne false (show 7 ≠ 9 by decide)]; exact h')), (fun h => h9 (getD_was (by decide) h)), (fun h => h10 (getD_was (by decide) h))⟩
                          · have hA := HOl.out w' hW.hb.size
                            have q7 := h7 (ready_dep hr (by kernel_rfl))
                            subst q7
                            refine wpOp_step rfl (fun K hK => ?_)
                            go_simp
                            exact hK _ _ ⟨_, _, _, _, _, _, _, _, _, _, _, rfl, W29.step (by decide) (by decide) (hW.alloc _), (fun h => h0 (getD_was (by decide) h)), (fun h => h1 (getD_was (by decide) h)), (fun h => h2 (getD_was (by decide) h)), (fun h h' => (by obtain ⟨q1, q2, q3, q4⟩ := h3 (getD_was (by decide) h) (by rw [← getD_set_ne false (show 8 ≠ 4 by decide)]; exact h'); exact ⟨q1, q2, by rw [World.size_alloc]; omega, fun k u hk => Keeps.alloc _ _ _ _ (q4 k u hk)⟩)), (fun h => h4 (getD_was (by decide) h)), (fun h => h5 (getD_was (by decide) h)), (fun h => h6 (getD_was (by decide) h)), fun _ => rfl, (fun _ _ => ⟨_, rfl, CB.new _ _ _, fun b hb => by have h9 := hA b hb; omega⟩), (fun h => h9 (getD_was (by decide) h)), (fun h => h10 (getD_was (by decide) h))⟩
                          · have q6 := h6 (ready_dep hr (by kernel_rfl))
                            subst q6
                            have hL9 := ready_un hr
                            have hL4 := ready_dep hr (show (depsOf _ _ 9).contains 4 = true by kernel_rfl)
                            obtain ⟨hO1, hO2, hAp⟩ := hW.h1 hL4 hL9
                            obtain ⟨gi, rfl, hci, _⟩ := h8 (ready_dep hr (by kernel_rfl)) hL9
                            have hsz := hW.ht.lt
                            refine wpOp_step rfl (fun K hK => ?_)
                            refine step_pushR rfl (.tmp 140) (.tmp 142) 23 rfl (G + 1 + 1) 3 _ 1 8 Tryd.underlying23 info_intR rfl (by omega) (.slice A5 j2 c5) j2 _ rfl hO2 [.int .i64 vz] rfl gi rfl (fun k u hk => (hci.c k).trans (by simpa using hk)) (one_int _ _) (by omega) (by unfold maxLen; omega) (by omega) ?_
                            intro g9 k9 w9 own9 hg9 hgg9 hb9
                            have hO1' := World.ownsRow.kept hO1 hg9 hAp.or
                            have hAp' := Apart.symm (Apart.push (n := j2 + 1) (cap := k9) hAp.symm hgg9 (own_lt hO1))
                            rw [← intCells_snoc] at own9
                            have hnew : (L.setIfInBounds 9 true).getD 9 false = true := getD_at (mem_ready.1 hr).1 false
                            have hold : (L.setIfInBounds 9 true).getD 4 false = true := by rw [getD_set_ne false (by decide)]; exact hL4
                            refine hK _ _ ⟨_, _, _, _, _, _, _, _, _, _, _, rfl, ?_, (fun h => h0 (getD_was (by decide) h)), (fun h => h1 (getD_was (by decide) h)), (fun h => h2 (getD_was (by decide) h)), (fun _ h' => by rw [hold] at h'; cases h'), (fun h => h4 (getD_was (by decide) h)), (fun h => h5 (getD_was (by decide) h)), fun _ => rfl, (fun h => h7 (getD_was (by decide) h)), (fun _ h => by rw [getD_at (mem_ready.1 hr).1] at h; cases h), (fun _ => ⟨_, _, rfl⟩), (fun h => h10 (getD_was (by decide) h))⟩
                            rw [hnew, hold]
                            exact ⟨hW.ht.push hO2 (by decide) hg9, hW.hb.trans hb9, (fun h => by cases h), (fun _ h => by cases h), (fun _ => ⟨hO1', own9, hAp'⟩)⟩
                          · refine wpOp_step rfl (fun K hK => ?_)
                            go_simp
                            exact hK _ _ ⟨_, _, _, _, _, _, _, _, _, _, _, rfl, W29.step (by decide) (by decide) hW, (fun h => h0 (getD_was (by decide) h)), (fun h => h1 (getD_was (by decide) h)), (fun h => h2 (getD_was (by decide) h)), (fun h h' => h3 (getD_was (by decide) h) (by rw [← getD_set_ne false (show 10 ≠ 4 by decide)]; exact h')), (fun h => h4 (getD_was (by decide) h)), (fun h => h5 (getD_was (by decide) h)), (fun h => h6 (getD_was (by decide) h)), (fun h => h7 (getD_was (by decide) h)), (fun h h' => h8 (getD_was (by decide) h) (by rw [← getD_set_ne false (show 10 ≠ 9 by decide)]; exact h')), (fun h => h9 (getD_was (by decide) h)), fun _ => rfl⟩
                        case lastR1 =>
                          intro a' w' hI
                          obtain ⟨x0, x1, x2, x3, x4, x5, x6, x7, x8, x9, x10, rfl, hW, h0, h1, h2, h3, h4, h5, h6, h7, h8, h9, h10⟩ := hI
                          obtain ⟨g7, k7, rfl⟩ := h4 rfl
                          obtain ⟨g9, k9, rfl⟩ := h9 rfl
                          have q10 := h10 rfl
                          clear h0 h1 h2 h3 h4 h5 h6 h7 h8 h9 h10
                          subst q10
                          have HT9 := Lib.hid hW.ht; have HB9 := Lib.hid hW.hb; have HO9 := Lib.hid (hW.h2 rfl)
                          clear hW
                          have e1 := HT9.out.c 1; have e2 := HT9.out.c 2; have e1f := HT9.out.f 1; have e2f := HT9.out.f 2; have esh := HT9.out.sh
                          refine wpAny_of_seqA 3 11 rfl (by kernel_rfl) ?_
                          simp only [List.drop_succ_cons, List.drop_zero]
                          have hjl : j2 ≤ 1048577 := by omega
                          go_wp2_with fail
                          go_roundw
                          case rel => exact ⟨j2 + 1, false, _, _, _, _, by omega, by go_num, rfl, (HT9.out.put 1 _).put 2 _, by rw [HDs.out]; exact own_setT (own_setT HO9.out.1 HT9.out (by decide) _) (HT9.out.put 1 _) (by decide) _, by rw [HMs.out]; exact own_setT (own_setT HO9.out.2.1 HT9.out (by decide) _) (HT9.out.put 1 _) (by decide) _, HO9.out.2.2, HBq.out.trans (((HB9.out.mono (Nat.le_succ _)).setCell (p := ⟨G + 1, 1, none⟩) (Nat.le_refl _) _).setCell (p := ⟨G + 1, 2, none⟩) (Nat.le_refl _) _), by rw [all_take HQj.out, ← HOk.out, HPk.out]; rfl⟩
                          case measure => simp [intOf]; omega
                      · cases na
                        · go_wp2_with (first | (go_at_call 26; go_must (refine (ibyte_q q 58 58 (k : Int) _ rfl HIb.out).mono ?_); rintro e wi ⟨rfl, rfl⟩) | (go_at_call 24; have hsm := natural_q a1 wr ha1s; rw [HVa.out, HNa.out] at hsm; (with_reducible refine hsm.mono ?_); clear hsm; rintro e wn ⟨rfl, rfl⟩) | (go_at_call 24; have hsm := natural_q z1 wr hz1s; rw [HVz.out, HNz.out] at hsm; (with_reducible refine hsm.mono ?_); clear hsm; rintro e wn ⟨rfl, rfl⟩))
                          refine wp_region_any (by kernel_rfl) ?_
                          change wpAny _ _ _ _ _ _ _ wr.drew
                          refine wpAny_inv [0, 1, 2, 3, 4, 5, 6, 7, 8, 9, 10] (IR29 (fun v134 v135 v136 v137 v138 v139 v140 v141 v142 v143 v144 => (⟨#[Value.string s, undef, Value.pointer (some { block := N, off := 0 }), u3, Value.pointer (some { block := N + 1, off := 0 }), undef, Value.string a, Value.bool false, u8, u9, Value.slice (some { block := G, off := 0 }) (Q.length + 1 + 1) (Q.length + 1 + 1), Value.pointer (some { block := G + 1, off := 0 }), undef, Value.string q, Value.int IntKind.i64 ↑k, Value.int IntKind.i64 va, Value.bool false, Value.int IntKind.i64 vz, Value.bool nz, undef, Value.string s, Value.int IntKind.i64 ↑s.size, Value.bool (decide ((400000 : Int) < ↑s.size)), undef, Value.string s, Value.bool true, Value.bool true, Value.string s, Value.bool true, Value.bool false, Value.bool false, undef, Value.agg #[Value.slice none 0 0, Value.slice none 0 0, Value.slice none 0 0], Value.string s, Value.slice (some { block := g, off := 0 }) Lb.length Lb.length, Value.int IntKind.i64 ↑Lb.length, Value.int IntKind.i64 ↑j, Value.bool true, Value.pointer (some { block := g, off := j }), Value.string a, Value.string a, Value.bool false, Value.bool false, undef, undef, undef, undef, Value.bool false, u48, u49, u50, u51, u52, u53, u54, u55, u56, u57, u58, u59, u60, u61, u62, u63, u64, u65, u66, u67, u68, u69, u70, u71, u72, u73, u74, u75, u76, u77, u78, u79, u80, u81, u82, u83, Value.string a, Value.bool true, Value.string a, Value.slice (some { block := G, off := 0 }) (Q.length + 1 + 1) (Q.length + 1 + 1), Value.slice (some { block := G, off := 0 }) (Q.length + 1 + 1) (Q.length + 1 + 1), Value.pointer (some { block := G, off := 1 }), Value.string p1, Value.agg #[Value.string p1, Value.slice none 0 0, Value.slice none 0 0], Value.slice (some { block := G, off := 0 }) (Q.length + 1 + 1) (Q.length + 1 + 1), Value.pointer (some { block := G, off := 1 }), Value.string p1, Value.bool true, Value.bool true, Value.slice (some { block := G, off := 0 }) (Q.length + 1 + 1) (Q.length + 1 + 1), Value.int IntKind.i64 (↑Q.length + 1 + 1), Value.bool (decide ((2 : Int) < (↑Q.length : Int) + 1 + 1)), Value.bool (decide ((2 : Int) < (↑Q.length : Int) + 1 + 1)), Value.slice (some { block := G, off := 0 }) (Q.length + 1 + 1) (Q.length + 1 + 1), Value.slice (some { block := G, off := 2 }) Q.length Q.length, Value.int IntKind.i64 ↑Q.length, Value.int IntKind.i64 ↑j2, Value.bool true, Value.pointer (some { block := G, off := 2 + j2 }), Value.string q, Value.string q, Value.int IntKind.i64 ↑k, Value.int IntKind.i64 ↑k, Value.bool false, Value.tuple #[Value.int IntKind.i64 va, Value.bool false], Value.string q, Value.int IntKind.i64 ↑k, Value.string a1, Value.tuple #[Value.int IntKind.i64 va, Value.bool false], Value.int IntKind.i64 va, Value.bool false, Value.tuple #[Value.int IntKind.i64 vz, Value.bool nz], Value.string q, Value.int IntKind.i64 ↑k, Value.int IntKind.i64 (↑k + 1), Value.string z1, Value.tuple #[Value.int IntKind.i64 vz, Value.bool nz], Value.int IntKind.i64 vz, Value.bool nz, Value.bool true, Value.bool true, Value.bool false, Value.bool false, Value.bool false, undef, Value.bool false, v134, v135, v136, v137, v138, v139, v140, v141, v142, v143, v144, u145, u146, u147, u148, u149, u150, u151, u152, u153, u154, u155, u156, undef, undef, undef, undef, undef, undef, undef], []⟩ : Act)) (G + 1) A4 A5 j2 c4 c5 va vz (docsQ (Q.take j2)) (manyQ (Q.take j2)) p1 wr) #[true, true, true, true, true, true, true, true, true, true, true, false, false, false] (g := 3) (by kernel_rfl) (by kernel_rfl) (by kernel_rfl) (IR29.start u134 u135 u136 u137 u138 u139 u140 u141 u142 u143 u144 rfl (W29.start HT.out.drew ((Below.refl _ _).drew) (own_drew HD.out) (own_drew HM.out) HAp.out)) ?stepR2 ?lastR2
                          case stepR2 =>
                            intro i hi L a' w' hs hr hI
                            obtain ⟨x0, x1, x2, x3, x4, x5, x6, x7, x8, x9, x10, rfl, hW, h0, h1, h2, h3, h4, h5, h6, h7, h8, h9, h10⟩ := hI
                            simp only [List.mem_cons, List.not_mem_nil, or_false] at hi
                            rcases hi with rfl | rfl | rfl | rfl | rfl | rfl | rfl | rfl | rfl | rfl | rfl
                            · refine wpOp_step rfl (fun K hK => ?_)
                              go_simp
                              exact hK _ _ ⟨_, _, _, _, _, _, _, _, _, _, _, rfl, W29.step (by decide) (by decide) hW, fun _ => rfl, (fun h => h1 (getD_was (by decide) h)), (fun h => h2 (getD_was (by decide) h)), (fun h h' => h3 (getD_was (by decide) h) (by rw [← getD_set_ne false (show 0 ≠ 4 by decide)]; exact h')), (fun h => h4 (getD_was (by decide) h)), (fun h => h5 (getD_was (by decide) h)), (fun h => h6 (getD_was (by decide) h)), (fun h => h7 (getD_was (by decide) h)), (fun h h' => h8 (getD_was (by decide) h) (by rw [← getD_set_ne false (show 0 ≠ 9 by decide)]; exact h')), (fun h => h9 (getD_was (by decide) h)), (fun h => h10 (getD_was (by decide) h))⟩
                            · have q0 := h0 (ready_dep hr (by kernel_rfl))
                              subst q0
                              have z := hW.ht.c 1
                              simp only [List.getElem?_toArray, List.getElem?_cons_zero, List.getElem?_cons_succ] at z
                              refine wpOp_step rfl (fun K hK => ?_)
                              go_simp
                              exact hK _ _ ⟨_, _, _, _, _, _, _, _, _, _, _, rfl, W29.step (by decide) (by decide) hW, fun _ => rfl, fun _ => rfl, (fun h => h2 (getD_was (by decide) h)), (fun h h' => h3 (getD_was (by decide) h) (by rw [← getD_set_ne false (show 1 ≠ 4 by decide)]; exact h')), (fun h => h4 (getD_was (by decide) h)), (fun h => h5 (getD_was (by decide) h)), (fun h => h6 (getD_was (by decide) h)), (fun h => h7 (getD_was (by decide) h)), (fun h h' => h8 (getD_was (by decide) h) (by rw [← getD_set_ne false (show 1 ≠ 9 by decide)]; exact h')), (fun h => h9 (getD_was (by decide) h)), (fun h => h10 (getD_was (by decide) h))⟩
                            · refine wpOp_step rfl (fun K hK => ?_)
                              go_simp
                              exact hK _ _ ⟨_, _, _, _, _, _, _, _, _, _, _, rfl, W29.step (by decide) (by decide) hW, (fun h => h0 (getD_was (by decide) h)), (fun h => h1 (getD_was (by decide) h)), fun _ => rfl, (fun h h' => h3 (getD_was (by decide) h) (by rw [← getD_set_ne false (show 2 ≠ 4 by decide)]; exact h')), (fun h => h4 (getD_was (by decide) h)), (fun h => h5 (getD_was (by decide) h)), (fun h => h6 (getD_was (by decide) h)), (fun h => h7 (getD_was (by decide) h)), (fun h h' => h8 (getD_was (by decide) h) (by rw [← getD_set_ne false (show 2 ≠ 9 by decide)]; exact h')), (fun h => h9 (getD_was (by decide) h)), (fun h => h10 (getD_was (by decide) h))⟩
                            · have q2 := h2 (ready_dep hr (by kernel_rfl))
                              subst q2
                              refine wpOp_step rfl (fun K hK => ?_)
                              go_simp
                              exact hK _ _ ⟨_, _, _, _, _, _, _, _, _, _, _, rfl, W29.step (by decide) (by decide) (hW.alloc _), (fun h => h0 (getD_was (by decide) h)), (fun h => h1 (getD_was (by decide) h)), fun _ => rfl, (fun _ _ => ⟨_, rfl, by rw [World.size_alloc]; omega, cell_new _ [.int .i64 va] 3 _ rfl⟩), (fun h => h4 (getD_was (by decide) h)), (fun h => h5 (getD_was (by decide) h)), (fun h => h6 (getD_was (by decide) h)), (fun h => h7 (getD_was (by decide) h)), (fun h h' => (by obtain ⟨q1, q2, q3, q4⟩ := h8 (getD_was (by decide) h) (by rw [← getD_set_ne false (show 3 ≠ 9 by decide)]; exact h'); exact ⟨q1, q2, q3.alloc _, q4⟩)), (fun h => h9 (getD_was (by decide) h)), (fun h => h10 (getD_was (by decide) h))⟩
                            · have q1 := h1 (ready_dep hr (by kernel_rfl))
                              subst q1
                              have hL4 := ready_un hr
                              obtain ⟨hL9, hO1, hO2, hAp⟩ := hW.h0 hL4
                              obtain ⟨gd, rfl, hgd, hcd⟩ := h3 (ready_dep hr (by kernel_rfl)) hL4
                              have hsz := hW.ht.lt
                              refine wpOp_step rfl (fun K hK => ?_)
                              refine step_pushR rfl (.tmp 135) (.tmp 137) 23 rfl (G + 1 + 1) 3 _ 1 8 Tryd.underlying23 info_intR rfl (by omega) (.slice A4 j2 c4) j2 _ rfl hO1 [.int .i64 va] rfl gd rfl hcd (one_int _ _) (by omega) (by unfold maxLen; omega) (by omega) ?_
                              intro g7 k7 w7 own7 hg7 hgg7 hb7
                              have hO2' := World.ownsRow.kept hO2 hg7 hAp.symm.or
                              have hAp' := Apart.push (n := j2 + 1) (cap := k7) hAp hgg7 (own_lt hO2)
                              rw [← intCells_snoc] at own7
                              have hnew : (L.setIfInBounds 4 true).getD 4 false = true := getD_at (mem_ready.1 hr).1 false
                              have hold : (L.setIfInBounds 4 true).getD 9 false = false := by rw [getD_set_ne false (by decide)]; exact hL9
                              refine hK _ _ ⟨_, _, _, _, _, _, _, _, _, _, _, rfl, ?_, (fun h => h0 (getD_was (by decide) h)), fun _ => rfl, (fun h => h2 (getD_was (by decide) h)), (fun _ h => by rw [getD_at (mem_ready.1 hr).1] at h; cases h), (fun _ => ⟨_, _, rfl⟩), (fun h => h5 (getD_was (by decide) h)), (fun h => h6 (getD_was (by decide) h)), (fun h => h7 (getD_was (by decide) h)), (fun h h' => (by obtain ⟨q1, q2, q3, q4⟩ := h8 (getD_was (by decide) h) (by rw [← getD_set_ne false (show 4 ≠ 9 by decide)]; exact h'); exact ⟨q1, q2, q3.other hg7 (fun e => q4 _ e.symm rfl), q4⟩)), (fun h => h9 (getD_was (by decide) h)), (fun h => h10 (getD_was (by decide) h))⟩
                              rw [hnew, hold]
                              exact ⟨hW.ht.push hO1 (by decide) hg7, hW.hb.trans hb7, (fun h => by cases h), (fun _ _ => ⟨own7, hO2', hAp'⟩), (fun h => by cases h)⟩
                            · refine wpOp_step rfl (fun K hK => ?_)
                              go_simp
                              exact hK _ _ ⟨_, _, _, _, _, _, _, _, _, _, _, rfl, W29.step (by decide) (by decide) hW, (fun h => h0 (getD_was (by decide) h)), (fun h => h1 (getD_was (by decide) h)), (fun h => h2 (getD_was (by decide) h)), (fun h h' => h3 (getD_was (by decide) h) (by rw [← getD_set_ne false (show 5 ≠ 4 by decide)]; exact h')), (fun h => h4 (getD_was (by decide) h)), fun _ => rfl, (fun h => h6 (getD_was (by decide) h)), (fun h => h7 (getD_was (by decide) h)), (fun h h' => h8 (getD_was (by decide) h) (by rw [← getD_set_ne false (show 5 ≠ 9 by decide)]; exact h')), (fun h => h9 (getD_was (by decide) h)), (fun h => h10 (getD_was (by decide) h))⟩
                            · have q5 := h5 (ready_dep hr (by kernel_rfl))
                              subst q5
                              have z := hW.ht.c 2
                              simp only [List.getElem?_toArray, List.getElem?_cons_zero, List.getElem?_cons_succ] at z
                              refine wpOp_step rfl (fun K hK => ?_)
                              go_simp
                              exact hK _ _ ⟨_, _, _, _, _, _, _, _, _, _, _, rfl, W29.step (by decide) (by decide) hW, (fun h => h0 (getD_was (by decide) h)), (fun h => h1 (getD_was (by decide) h)), (fun h => h2 (getD_was (by decide) h)), (fun h h' => h3 (getD_was (by decide) h) (by rw [← getD_set_ne false (show 6 ≠ 4 by decide)]; exact h')), (fun h => h4 (getD_was (by decide) h)), fun _ => rfl, fun _ => rfl, (fun h => h7 (getD_was (by decide) h)), (fun h h' => h8 (getD_was (by decide) h) (by rw [← getD_set_ne false (show 6 ≠ 9 by decide)]; exact h')), (fun h => h9 (getD_was (by decide) h)), (fun h => h10 (getD_was (by decide) h))⟩
                            · refine wpOp_step rfl (fun K hK => ?_)
                              go_simp
                              exact hK _ _ ⟨_, _, _, _, _, _, _, _, _, _, _, rfl, W29.step (by decide) (by decide) hW, (fun h => h0 (getD_was (by decide) h)), (fun h => h1 (getD_was (by decide) h)), (fun h => h2 (getD_was (by decide) h)), (fun h h' => h3 (getD_was (by decide) h) (by rw [← getD_set_ne false (show 7 ≠ 4 by decide)]; exact h')), (fun h => h4 (getD_was (by decide) h)), (fun h => h5 (getD_was (by decide) h)), (fun h => h6 (getD_was (by decide) h)), fun _ => rfl, (fun h h' => h8 (getD_was (by decide) h) (by rw [← getD_set_ne false (show 7 ≠ 9 by decide)]; exact h')), (fun h => h9 (getD_was (by decide) h)), (fun h => h10 (getD_was (by decide) h))⟩
                            · have hA := HOl.out w' hW.hb.size
                              have q7 := h7 (ready_dep hr (by kernel_rfl))
                              subst q7
                              refine wpOp_step rfl (fun K hK => ?_)
                              go_simp
                              exact hK _ _ ⟨_, _, _, _, _, _, _, _, _, _, _, rfl, W29.step (by decide) (by decide) (hW.alloc _), (fun h => h0 (getD_was (by decide) h)), (fun h => h1 (getD_was (by decide) h)), (fun h => h2 (getD_was (by decide) h)), (fun h h' => (by obtain ⟨q1, q2, q3, q4⟩ := h3 (getD_was (by decide) h) (by rw [← getD_set_ne false (show 8 ≠ 4 by decide)]; exact h'); exact ⟨q1, q2, by rw [World.size_alloc]; omega, fun k u hk => Keeps.alloc _ _ _ _ (q4 k u hk)⟩)), (fun h => h4 (getD_was (by decide) h)), (fun h => h5 (getD_was (by decide) h)), (fun h => h6 (getD_was (by decide) h)), fun _ => rfl, (fun _ _ => ⟨_, rfl, CB.new _ _ _, fun b hb => by have h9 := hA b hb; omega⟩), (fun h => h9 (getD_was (by decide) h)), (fun h => h10 (getD_was (by decide) h))⟩
                            · have q6 := h6 (ready_dep hr (by kernel_rfl))
                              subst q6
                              have hL9 := ready_un hr
                              have hL4 := ready_dep hr (show (depsOf _ _ 9).contains 4 = true by kernel_rfl)
                              obtain ⟨hO1, hO2, hAp⟩ := hW.h1 hL4 hL9
                              obtain ⟨gi, rfl, hci, _⟩ := h8 (ready_dep hr (by kernel_rfl)) hL9
                              have hsz := hW.ht.lt
                              refine wpOp_step rfl (fun K hK => ?_)
                              refine step_pushR rfl (.tmp 140) (.tmp 142) 23 rfl (G + 1 + 1) 3 _ 1 8 Tryd.underlying23 info_intR rfl (by omega) (.slice A5 j2 c5) j2 _ rfl hO2 [.int .i64 vz] rfl gi rfl (fun k u hk => (hci.c k).trans (by simpa using hk)) (one_int _ _) (by omega) (by unfold maxLen; omega) (by omega) ?_
                              intro g9 k9 w9 own9 hg9 hgg9 hb9
                              have hO1' := World.ownsRow.kept hO1 hg9 hAp.or
                              have hAp' := Apart.symm (Apart.push (n := j2 + 1) (cap := k9) hAp.symm hgg9 (own_lt hO1))
                              rw [← intCells_snoc] at own9
                              have hnew : (L.setIfInBounds 9 true).getD 9 false = true := getD_at (mem_ready.1 hr).1 false
                              have hold : (L.setIfInBounds 9 true).getD 4 false = true := by rw [getD_set_ne false (by decide)]; exact hL4
                              refine hK _ _ ⟨_, _, _, _, _, _, _, _, _, _, _, rfl, ?_, (fun h => h0 (getD_was (by decide) h)), (fun h => h1 (getD_was (by decide) h)), (fun h => h2 (getD_was (by decide) h)), (fun _ h' => by rw [hold] at h'; cases h'), (fun h => h4 (getD_was (by decide) h)), (fun h => h5 (getD_was (by decide) h)), fun _ => rfl, (fun h => h7 (getD_was (by decide) h)), (fun _ h => by rw [getD_at (mem_ready.1 hr).1] at h; cases h), (fun _ => ⟨_, _, rfl⟩), (fun h => h10 (getD_was (by decide) h))⟩
                              rw [hnew, hold]
                              exact ⟨hW.ht.push hO2 (by decide) hg9, hW.hb.trans hb9, (fun h => by cases h), (fun _ h => by cases h), (fun _ => ⟨hO1', own9, hAp'⟩)⟩
                            · refine wpOp_step rfl (fun K hK => ?_)
                              go_simp
                              exact hK _ _ ⟨_, _, _, _, _, _, _, _, _, _, _, rfl, W29.step (by decide) (by decide) hW, (fun h => h0 (getD_was (by decide) h)), (fun h => h1 (getD_was (by decide) h)), (fun h => h2 (getD_was (by decide) h)), (fun h h' => h3 (getD_was (by decide) h) (by rw [← getD_set_ne false (show 10 ≠ 4 by decide)]; exact h')), (fun h => h4 (getD_was (by decide) h)), (fun h => h5 (getD_was (by decide) h)), (fun h => h6 (getD_was (by decide) h)), (fun h => h7 (getD_was (by decide) h)), (fun h h' => h8 (getD_was (by decide) h) (by rw [← getD_set_ne false (show 10 ≠ 9 by decide)]; exact h')), (fun h => h9 (getD_was (by decide) h)), fun _ => rfl⟩
                          case lastR2 =>
                            intro a' w' hI
                            obtain ⟨x0, x1, x2, x3, x4, x5, x6, x7, x8, x9, x10, rfl, hW, h0, h1, h2, h3, h4, h5, h6, h7, h8, h9, h10⟩ := hI
                            obtain ⟨g7, k7, rfl⟩ := h4 rfl
                            obtain ⟨g9, k9, rfl⟩ := h9 rfl
                            have q10 := h10 rfl
                            clear h0 h1 h2 h3 h4 h5 h6 h7 h8 h9 h10
                            subst q10
                            have HT9 := Lib.hid hW.ht; have HB9 := Lib.hid hW.hb; have HO9 := Lib.hid (hW.h2 rfl)
                            clear hW
                            have e1 := HT9.out.c 1; have e2 := HT9.out.c 2; have e1f := HT9.out.f 1; have e2f := HT9.out.f 2; have esh := HT9.out.sh
                            refine wpAny_of_seqA 3 11 rfl (by kernel_rfl) ?_
                            simp only [List.drop_succ_cons, List.drop_zero]
                            have hjl : j2 ≤ 1048577 := by omega
                            go_wp2_with fail
                            go_roundw
                            case rel => exact ⟨j2 + 1, false, _, _, _, _, by omega, by go_num, rfl, (HT9.out.put 1 _).put 2 _, by rw [HDs.out]; exact own_setT (own_setT HO9.out.1 HT9.out (by decide) _) (HT9.out.put 1 _) (by decide) _, by rw [HMs.out]; exact own_setT (own_setT HO9.out.2.1 HT9.out (by decide) _) (HT9.out.put 1 _) (by decide) _, HO9.out.2.2, HBq.out.trans (((HB9.out.mono (Nat.le_succ _)).setCell (p := ⟨G + 1, 1, none⟩) (Nat.le_refl _) _).setCell (p := ⟨G + 1, 2, none⟩) (Nat.le_refl _) _), by rw [all_take HQj.out, ← HOk.out, HPk.out]; rfl⟩
                            case measure => simp [intOf]; omega
                        · go_wp2_with (first | (go_at_call 26; go_must (refine (ibyte_q q 58 58 (k : Int) _ rfl HIb.out).mono ?_); rintro e wi ⟨rfl, rfl⟩) | (go_at_call 24; have hsm := natural_q a1 wr ha1s; rw [HVa.out, HNa.out] at hsm; (with_reducible refine hsm.mono ?_); clear hsm; rintro e wn ⟨rfl, rfl⟩) | (go_at_call 24; have hsm := natural_q z1 wr hz1s; rw [HVz.out, HNz.out] at hsm; (with_reducible refine hsm.mono ?_); clear hsm; rintro e wn ⟨rfl, rfl⟩))
                          refine wp_region_any (by kernel_rfl) ?_
                          change wpAny _ _ _ _ _ _ _ wr.drew
                          refine wpAny_inv [0, 1, 2, 3, 4, 5, 6, 7, 8, 9, 10] (IR29 (fun v134 v135 v136 v137 v138 v139 v140 v141 v142 v143 v144 => (⟨#[Value.string s, undef, Value.pointer (some { block := N, off := 0 }), u3, Value.pointer (some { block := N + 1, off := 0 }), undef, Value.string a, Value.bool nz, u8, u9, Value.slice (some { block := G, off := 0 }) (Q.length + 1 + 1) (Q.length + 1 + 1), Value.pointer (some { block := G + 1, off := 0 }), undef, Value.string q, Value.int IntKind.i64 ↑k, Value.int IntKind.i64 va, Value.bool true, Value.int IntKind.i64 vz, Value.bool nz, undef, Value.string s, Value.int IntKind.i64 ↑s.size, Value.bool (decide ((400000 : Int) < ↑s.size)), undef, Value.string s, Value.bool true, Value.bool true, Value.string s, Value.bool true, Value.bool false, Value.bool false, undef, Value.agg #[Value.slice none 0 0, Value.slice none 0 0, Value.slice none 0 0], Value.string s, Value.slice (some { block := g, off := 0 }) Lb.length Lb.length, Value.int IntKind.i64 ↑Lb.length, Value.int IntKind.i64 ↑j, Value.bool true, Value.pointer (some { block := g, off := j }), Value.string a, Value.string a, Value.bool false, Value.bool false, undef, undef, undef, undef, Value.bool false, u48, u49, u50, u51, u52, u53, u54, u55, u56, u57, u58, u59, u60, u61, u62, u63, u64, u65, u66, u67, u68, u69, u70, u71, u72, u73, u74, u75, u76, u77, u78, u79, u80, u81, u82, u83, Value.string a, Value.bool true, Value.string a, Value.slice (some { block := G, off := 0 }) (Q.length + 1 + 1) (Q.length + 1 + 1), Value.slice (some { block := G, off := 0 }) (Q.length + 1 + 1) (Q.length + 1 + 1), Value.pointer (some { block := G, off := 1 }), Value.string p1, Value.agg #[Value.string p1, Value.slice none 0 0, Value.slice none 0 0], Value.slice (some { block := G, off := 0 }) (Q.length + 1 + 1) (Q.length + 1 + 1), Value.pointer (some { block := G, off := 1 }), Value.string p1, Value.bool true, Value.bool true, Value.slice (some { block := G, off := 0 }) (Q.length + 1 + 1) (Q.length + 1 + 1), Value.int IntKind.i64 (↑Q.length + 1 + 1), Value.bool (decide ((2 : Int) < (↑Q.length : Int) + 1 + 1)), Value.bool (decide ((2 : Int) < (↑Q.length : Int) + 1 + 1)), Value.slice (some { block := G, off := 0 }) (Q.length + 1 + 1) (Q.length + 1 + 1), Value.slice (some { block := G, off := 2 }) Q.length Q.length, Value.int IntKind.i64 ↑Q.length, Value.int IntKind.i64 ↑j2, Value.bool true, Value.pointer (some { block := G, off := 2 + j2 }), Value.string q, Value.string q, Value.int IntKind.i64 ↑k, Value.int IntKind.i64 ↑k, Value.bool false, Value.tuple #[Value.int IntKind.i64 va, Value.bool true], Value.string q, Value.int IntKind.i64 ↑k, Value.string a1, Value.tuple #[Value.int IntKind.i64 va, Value.bool true], Value.int IntKind.i64 va, Value.bool true, Value.tuple #[Value.int IntKind.i64 vz, Value.bool nz], Value.string q, Value.int IntKind.i64 ↑k, Value.int IntKind.i64 (↑k + 1), Value.string z1, Value.tuple #[Value.int IntKind.i64 vz, Value.bool nz], Value.int IntKind.i64 vz, Value.bool nz, Value.bool true, Value.bool true, Value.bool true, Value.bool true, Value.bool true, Value.bool nz, Value.bool nz, v134, v135, v136, v137, v138, v139, v140, v141, v142, v143, v144, u145, u146, u147, u148, u149, u150, u151, u152, u153, u154, u155, u156, undef, undef, undef, undef, undef, undef, undef], []⟩ : Act)) (G + 1) A4 A5 j2 c4 c5 va vz (docsQ (Q.take j2)) (manyQ (Q.take j2)) p1 wr) #[true, true, true, true, true, true, true, true, true, true, true, false, false, false] (g := 3) (by kernel_rfl) (by kernel_rfl) (by kernel_rfl) (IR29.start u134 u135 u136 u137 u138 u139 u140 u141 u142 u143 u144 rfl (W29.start HT.out.drew ((Below.refl _ _).drew) (own_drew HD.out) (own_drew HM.out) HAp.out)) ?stepR3 ?lastR3
                          case stepR3 =>
                            intro i hi L a' w' hs hr hI
                            obtain ⟨x0, x1, x2, x3, x4, x5, x6, x7, x8, x9, x10, rfl, hW, h0, h1, h2, h3, h4, h5, h6, h7, h8, h9, h10⟩ := hI
                            simp only [List.mem_cons, List.not_mem_nil, or_false] at hi
                            rcases hi with rfl | rfl | rfl | rfl | rfl | rfl | rfl | rfl | rfl | rfl | rfl
                            · refine wpOp_step rfl (fun K hK => ?_)
                              go_simp
                              exact hK _ _ ⟨_, _, _, _, _, _, _, _, _, _, _, rfl, W29.step (by decide) (by decide) hW, fun _ => rfl, (fun h => h1 (getD_was (by decide) h)), (fun h => h2 (getD_was (by decide) h)), (fun h h' => h3 (getD_was (by decide) h) (by rw [← getD_set_ne false (show 0 ≠ 4 by decide)]; exact h')), (fun h => h4 (getD_was (by decide) h)), (fun h => h5 (getD_was (by decide) h)), (fun h => h6 (getD_was (by decide) h)), (fun h => h7 (getD_was (by decide) h)), (fun h h' => h8 (getD_was (by decide) h) (by rw [← getD_set_ne false (show 0 ≠ 9 by decide)]; exact h')), (fun h => h9 (getD_was (by decide) h)), (fun h => h10 (getD_was (by decide) h))⟩
                            · have q0 := h0 (ready_dep hr (by kernel_rfl))
                              subst q0
                              have z := hW.ht.c 1
                              simp only [List.getElem?_toArray, List.getElem?_cons_zero, List.getElem?_cons_succ] at z
                              refine wpOp_step rfl (fun K hK => ?_)
                              go_simp
                              exact hK _ _ ⟨_, _, _, _, _, _, _, _, _, _, _, rfl, W29.step (by decide) (by decide) hW, fun _ => rfl, fun _ => rfl, (fun h => h2 (getD_was (by decide) h)), (fun h h' => h3 (getD_was (by decide) h) (by rw [← getD_set_ne false (show 1 ≠ 4 by decide)]; exact h')), (fun h => h4 (getD_was (by decide) h)), (fun h => h5 (getD_was (by decide) h)), (fun h => h6 (getD_was (by decide) h)), (fun h => h7 (getD_was (by decide) h)), (fun h h' => h8 (getD_was (by decide) h) (by rw [← getD_set_ne false (show 1 ≠ 9 by decide)]; exact h')), (fun h => h9 (getD_was (by decide) h)), (fun h => h10 (getD_was (by decide) h))⟩
                            · refine wpOp_step rfl (fun K hK => ?_)
                              go_simp
                              exact hK _ _ ⟨_, _, _, _, _, _, _, _, _, _, _, rfl, W29.step (by decide) (by decide) hW, (fun h => h0 (getD_was (by decide) h)), (fun h => h1 (getD_was (by decide) h)), fun _ => rfl, (fun h h' => h3 (getD_was (by decide) h) (by rw [← getD_set_ne false (show 2 ≠ 4 by decide)]; exact h')), (fun h => h4 (getD_was (by decide) h)), (fun h => h5 (getD_was (by decide) h)), (fun h => h6 (getD_was (by decide) h)), (fun h => h7 (getD_was (by decide) h)), (fun h h' => h8 (getD_was (by decide) h) (by rw [← getD_set_ne false (show 2 ≠ 9 by decide)]; exact h')), (fun h => h9 (getD_was (by decide) h)), (fun h => h10 (getD_was (by decide) h))⟩
                            · have q2 := h2 (ready_dep hr (by kernel_rfl))
                              subst q2
                              refine wpOp_step rfl (fun K hK => ?_)
                              go_simp
                              exact hK _ _ ⟨_, _, _, _, _, _, _, _, _, _, _, rfl, W29.step (by decide) (by decide) (hW.alloc _), (fun h => h0 (getD_was (by decide) h)), (fun h => h1 (getD_was (by decide) h)), fun _ => rfl, (fun _ _ => ⟨_, rfl, by rw [World.size_alloc]; omega, cell_new _ [.int .i64 va] 3 _ rfl⟩), (fun h => h4 (getD_was (by decide) h)), (fun h => h5 (getD_was (by decide) h)), (fun h => h6 (getD_was (by decide) h)), (fun h => h7 (getD_was (by decide) h)), (fun h h' => (by obtain ⟨q1, q2, q3, q4⟩ := h8 (getD_was (by decide) h) (by rw [← getD_set_ne false (show 3 ≠ 9 by decide)]; exact h'); exact ⟨q1, q2, q3.alloc _, q4⟩)), (fun h => h9 (getD_was (by decide) h)), (fun h => h10 (getD_was (by decide) h))⟩
                            · have q1 := h1 (ready_dep hr (by kernel_rfl))
                              subst q1
                              have hL4 := ready_un hr
                              obtain ⟨hL9, hO1, hO2, hAp⟩ := hW.h0 hL4
                              obtain ⟨gd, rfl, hgd, hcd⟩ := h3 (ready_dep hr (by kernel_rfl)) hL4
                              have hsz := hW.ht.lt
                              refine wpOp_step rfl (fun K hK => ?_)
                              refine step_pushR rfl (.tmp 135) (.tmp 137) 23 rfl (G + 1 + 1) 3 _ 1 8 Tryd.underlying23 info_intR rfl (by omega) (.slice A4 j2 c4) j2 _ rfl hO1 [.int .i64 va] rfl gd rfl hcd (one_int _ _) (by omega) (by unfold maxLen; omega) (by omega) ?_
                              intro g7 k7 w7 own7 hg7 hgg7 hb7
                              have hO2' := World.ownsRow.kept hO2 hg7 hAp.symm.or
                              have hAp' := Apart.push (n := j2 + 1) (cap := k7) hAp hgg7 (own_lt hO2)
                              rw [← intCells_snoc] at own7
                              have hnew : (L.setIfInBounds 4 true).getD 4 false = true := getD_at (mem_ready.1 hr).1 false
                              have hold : (L.setIfInBounds 4 true).getD 9 false = false := by rw [getD_set_ne false (by decide)]; exact hL9
                              refine hK _ _ ⟨_, _, _, _, _, _, _, _, _, _, _, rfl, ?_, (fun h => h0 (getD_was (by decide) h)), fun _ => rfl, (fun h => h2 (getD_was (by decide) h)), (fun _ h => by rw [getD_at (mem_ready.1 hr).1] at h; cases h), (fun _ => ⟨_, _, rfl⟩), (fun h => h5 (getD_was (by decide) h)), (fun h => h6 (getD_was (by decide) h)), (fun h => h7 (getD_was (by decide) h)), (fun h h' => (by obtain ⟨q1, q2, q3, q4⟩ := h8 (getD_was (by decide) h) (by rw [← getD_set_ne false (show 4 ≠ 9 by decide)]; exact h'); exact ⟨q1, q2, q3.other hg7 (fun e => q4 _ e.symm rfl), q4⟩)), (fun h => h9 (getD_was (by decide) h)), (fun h => h10 (getD_was (by decide) h))⟩
                              rw [hnew, hold]
                              exact ⟨hW.ht.push hO1 (by decide) hg7, hW.hb.trans hb7, (fun h => by cases h), (fun _ _ => ⟨own7, hO2', hAp'⟩), (fun h => by cases h)⟩
                            · refine wpOp_step rfl (fun K hK => ?_)
                              go_simp
                              exact hK _ _ ⟨_, _, _, _, _, _, _, _, _, _, _, rfl, W29.step (by decide) (by decide) hW, (fun h => h0 (getD_was (by decide) h)), (fun h => h1 (getD_was (by decide) h)), (fun h => h2 (getD_was (by decide) h)), (fun h h' => h3 (getD_was (by decide) h) (by rw [← getD_set_ne false (show 5 ≠ 4 by decide)]; exact h')), (fun h => h4 (getD_was (by decide) h)), fun _ => rfl, (fun h => h6 (getD_was (by decide) h)), (fun h => h7 (getD_was (by decide) h)), (fun h h' => h8 (getD_was (by decide) h) (by rw [← getD_set_ne false (show 5 ≠ 9 by decide)]; exact h')), (fun h => h9 (getD_was (by decide) h)), (fun h => h10 (getD_was (by decide) h))⟩
                            · have q5 := h5 (ready_dep hr (by kernel_rfl))
                              subst q5
                              have z := hW.ht.c 2
                              simp only [List.getElem?_toArray, List.getElem?_cons_zero, List.getElem?_cons_succ] at z
                              refine wpOp_step rfl (fun K hK => ?_)
                              go_simp
                              exact hK _ _ ⟨_, _, _, _, _, _, _, _, _, _, _, rfl, W29.step (by decide) (by decide) hW, (fun h => h0 (getD_was (by decide) h)), (fun h => h1 (getD_was (by decide) h)), (fun h => h2 (getD_was (by decide) h)), (fun h h' => h3 (getD_was (by decide) h) (by rw [← getD_set_ne false (show 6 ≠ 4 by decide)]; exact h')), (fun h => h4 (getD_was (by decide) h)), fun _ => rfl, fun _ => rfl, (fun h => h7 (getD_was (by decide) h)), (fun h h' => h8 (getD_was (by decide) h) (by rw [← getD_set_ne false (show 6 ≠ 9 by decide)]; exact h')), (fun h => h9 (getD_was (by decide) h)), (fun h => h10 (getD_was (by decide) h))⟩
                            · refine wpOp_step rfl (fun K hK => ?_)
                              go_simp
                              exact hK _ _ ⟨_, _, _, _, _, _, _, _, _, _, _, rfl, W29.step (by decide) (by decide) hW, (fun h => h0 (getD_was (by decide) h)), (fun h => h1 (getD_was (by decide) h)), (fun h => h2 (getD_was (by decide) h)), (fun h h' => h3 (getD_was (by decide) h) (by rw [← getD_set_ne false (show 7 ≠ 4 by decide)]; exact h')), (fun h => h4 (getD_was (by decide) h)), (fun h => h5 (getD_was (by decide) h)), (fun h => h6 (getD_was (by decide) h)), fun _ => rfl, (fun h h' => h8 (getD_was (by decide) h) (by rw [← getD_set_ne false (show 7 ≠ 9 by decide)]; exact h')), (fun h => h9 (getD_was (by decide) h)), (fun h => h10 (getD_was (by decide) h))⟩
                            · have hA := HOl.out w' hW.hb.size
                              have q7 := h7 (ready_dep hr (by kernel_rfl))
                              subst q7
                              refine wpOp_step rfl (fun K hK => ?_)
                              go_simp
                              exact hK _ _ ⟨_, _, _, _, _, _, _, _, _, _, _, rfl, W29.step (by decide) (by decide) (hW.alloc _), (fun h => h0 (getD_was (by decide) h)), (fun h => h1 (getD_was (by decide) h)), (fun h => h2 (getD_was (by decide) h)), (fun h h' => (by obtain ⟨q1, q2, q3, q4⟩ := h3 (getD_was (by decide) h) (by rw [← getD_set_ne false (show 8 ≠ 4 by decide)]; exact h'); exact ⟨q1, q2, by rw [World.size_alloc]; omega, fun k u hk => Keeps.alloc _ _ _ _ (q4 k u hk)⟩)), (fun h => h4 (getD_was (by decide) h)), (fun h => h5 (getD_was (by decide) h)), (fun h => h6 (getD_was (by decide) h)), fun _ => rfl, (fun _ _ => ⟨_, rfl, CB.new _ _ _, fun b hb => by have h9 := hA b hb; omega⟩), (fun h => h9 (getD_was (by decide) h)), (fun h => h10 (getD_was (by decide) h))⟩
                            · have q6 := h6 (ready_dep hr (by kernel_rfl))
                              subst q6
                              have hL9 := ready_un hr
                              have hL4 := ready_dep hr (show (depsOf _ _ 9).contains 4 = true by kernel_rfl)
                              obtain ⟨hO1, hO2, hAp⟩ := hW.h1 hL4 hL9
                              obtain ⟨gi, rfl, hci, _⟩ := h8 (ready_dep hr (by kernel_rfl)) hL9
                              have hsz := hW.ht.lt
                              refine wpOp_step rfl (fun K hK => ?_)
                              refine step_pushR rfl (.tmp 140) (.tmp 142) 23 rfl (G + 1 + 1) 3 _ 1 8 Tryd.underlying23 info_intR rfl (by omega) (.slice A5 j2 c5) j2 _ rfl hO2 [.int .i64 vz] rfl gi rfl (fun k u hk => (hci.c k).trans (by simpa using hk)) (one_int _ _) (by omega) (by unfold maxLen; omega) (by omega) ?_
                              intro g9 k9 w9 own9 hg9 hgg9 hb9
                              have hO1' := World.ownsRow.kept hO1 hg9 hAp.or
                              have hAp' := Apart.symm (Apart.push (n := j2 + 1) (cap := k9) hAp.symm hgg9 (own_lt hO1))
                              rw [← intCells_snoc] at own9
                              have hnew : (L.setIfInBounds 9 true).getD 9 false = true := getD_at (mem_ready.1 hr).1 false
                              have hold : (L.setIfInBounds 9 true).getD 4 false = true := by rw [getD_set_ne false (by decide)]; exact hL4
                              refine hK _ _ ⟨_, _, _, _, _, _, _, _, _, _, _, rfl, ?_, (fun h => h0 (getD_was (by decide) h)), (fun h => h1 (getD_was (by decide) h)), (fun h => h2 (getD_was (by decide) h)), (fun _ h' => by rw [hold] at h'; cases h'), (fun h => h4 (getD_was (by decide) h)), (fun h => h5 (getD_was (by decide) h)), fun _ => rfl, (fun h => h7 (getD_was (by decide) h)), (fun _ h => by rw [getD_at (mem_ready.1 hr).1] at h; cases h), (fun _ => ⟨_, _, rfl⟩), (fun h => h10 (getD_was (by decide) h))⟩
                              rw [hnew, hold]
                              exact ⟨hW.ht.push hO2 (by decide) hg9, hW.hb.trans hb9, (fun h => by cases h), (fun _ h => by cases h), (fun _ => ⟨hO1', own9, hAp'⟩)⟩
                            · refine wpOp_step rfl (fun K hK => ?_)
                              go_simp
                              exact hK _ _ ⟨_, _, _, _, _, _, _, _, _, _, _, rfl, W29.step (by decide) (by decide) hW, (fun h => h0 (getD_was (by decide) h)), (fun h => h1 (getD_was (by decide) h)), (fun h => h2 (getD_was (by decide) h)), (fun h h' => h3 (getD_was (by decide) h) (by rw [← getD_set_ne false (show 10 ≠ 4 by decide)]; exact h')), (fun h => h4 (getD_was (by decide) h)), (fun h => h5 (getD_was (by decide) h)), (fun h => h6 (getD_was (by decide) h)), (fun h => h7 (getD_was (by decide) h)), (fun h h' => h8 (getD_was (by decide) h) (by rw [← getD_set_ne false (show 10 ≠ 9 by decide)]; exact h')), (fun h => h9 (getD_was (by decide) h)), fun _ => rfl⟩
                          case lastR3 =>
                            intro a' w' hI
                            obtain ⟨x0, x1, x2, x3, x4, x5, x6, x7, x8, x9, x10, rfl, hW, h0, h1, h2, h3, h4, h5, h6, h7, h8, h9, h10⟩ := hI
                            obtain ⟨g7, k7, rfl⟩ := h4 rfl
                            obtain ⟨g9, k9, rfl⟩ := h9 rfl
                            have q10 := h10 rfl
                            clear h0 h1 h2 h3 h4 h5 h6 h7 h8 h9 h10
                            subst q10
                            have HT9 := Lib.hid hW.ht; have HB9 := Lib.hid hW.hb; have HO9 := Lib.hid (hW.h2 rfl)
                            clear hW
                            have e1 := HT9.out.c 1; have e2 := HT9.out.c 2; have e1f := HT9.out.f 1; have e2f := HT9.out.f 2; have esh := HT9.out.sh
                            refine wpAny_of_seqA 3 11 rfl (by kernel_rfl) ?_
                            simp only [List.drop_succ_cons, List.drop_zero]
                            have hjl : j2 ≤ 1048577 := by omega
                            go_wp2_with fail
                            go_roundw
                            case rel => exact ⟨j2 + 1, nz, _, _, _, _, by omega, by go_num, rfl, (HT9.out.put 1 _).put 2 _, by rw [HDs.out]; exact own_setT (own_setT HO9.out.1 HT9.out (by decide) _) (HT9.out.put 1 _) (by decide) _, by rw [HMs.out]; exact own_setT (own_setT HO9.out.2.1 HT9.out (by decide) _) (HT9.out.put 1 _) (by decide) _, HO9.out.2.2, HBq.out.trans (((HB9.out.mono (Nat.le_succ _)).setCell (p := ⟨G + 1, 1, none⟩) (Nat.le_refl _) _).setCell (p := ⟨G + 1, 2, none⟩) (Nat.le_refl _) _), Lib.hid (by rw [all_take HQj.out, ← HOk.out, HPk.out]; simp)⟩
                            case measure => simp [intOf]; omega
                  · obtain rfl : j2 = Q.length := by omega
                    have hall := HOk.out
                    rw [List.take_length] at hall
                    cases ok
                    · have HTk := Lib.hid (term_not HQ.out hall.symm)
                      have HE := Lib.hid (readE_bad HLe.out HF.out HR.out.hok (HLk.out.trans HTk.out))
                      clear hall
                      have HW := Lib.hid (show Below w5.heap.size w5 wr by rw [hs5]; exact HBq.out)
                      have HRq := Lib.hid (HR5.out.below HW.out)
                      have HCq := Lib.hid (HCb5.out.below HW.out)
                      have b0 : wr.cell? ⟨G + 1, 0, none⟩ = some (.string p1) := HT.out.c 0
                      have b1 : wr.cell? ⟨G + 1, 1, none⟩ = some (.slice A4 Q.length c4) := HT.out.c 1
                      have b2 : wr.cell? ⟨G + 1, 2, none⟩ = some (.slice A5 Q.length c5) := HT.out.c 2
                      have z2 : wr.cell? ⟨N + 1, 2, none⟩ = some (.slice A3 L.length c3) := HRq.out.hx.c 2
                      have hN5 : N + 1 ≤ wr.heap.size := Nat.le_of_lt HRq.out.hx.lt
                      go_wp2_with (at_builtin; go_must (refine wpList_push _ rfl (.tmp 148) (.tmp 150) 24 rfl (N + 1) 61 _ 3 64 Tryd.underlying24 info_term rfl (by omega) (.slice A3 L.length c3) L.length _ rfl (own_alloc HRq.out.ho.ot _) [.string p1, .slice A4 Q.length c4, .slice A5 Q.length c5] rfl _ rfl (cell_new _ [.string p1, .slice A4 Q.length c4, .slice A5 Q.length c5] 61 _ rfl) (by intro u hu; simp at hu; rcases hu with rfl | rfl | rfl <;> rfl) (by omega) (by unfold maxLen; omega) (by simp; omega) ?_); intro g7 c7 w7 own7 hg7 hgg7 hb7; have HX7 := Lib.hid ((HRq.out.hx.alloc (.cells #[.string p1, .slice A4 Q.length c4, .slice A5 Q.length c5] 61)).push (own_alloc HRq.out.ho.ot _) (by decide) hg7); have HR7 := Lib.hid ((HRq.out.hr.alloc (.cells #[.string p1, .slice A4 Q.length c4, .slice A5 Q.length c5] 61)).push (own_alloc HRq.out.ho.ot _) (by decide) hg7); have HC7 := Lib.hid ((HCq.out.alloc (.cells #[.string p1, .slice A4 Q.length c4, .slice A5 Q.length c5] 61)).push (own_alloc HRq.out.ho.ot _) (by decide) hg7); have HB7 := Lib.hid (((Below.refl (N + 1) wr).alloc hN5 (.cells #[.string p1, .slice A4 Q.length c4, .slice A5 Q.length c5] 61)).trans hb7); have v2 : w7.cell? ⟨N + 1, 2, none⟩ = some (.slice A3 L.length c3) := HX7.out.c 2; have v2f := HX7.out.f 2; have v2s := HX7.out.sh; have r0 := HR7.out.c 0; have r1 := HR7.out.c 1; have r2 := HR7.out.c 2; have f0 := HR7.out.f 0; have f1 := HR7.out.f 1; have f2 := HR7.out.f 2; have fs := HR7.out.sh; clear own7 hg7 hgg7 hb7)
                      have HRz := Lib.hid (HR7.out.set_other (m := N + 1) (o := 2) (by omega) (.slice (some ⟨g7, 0, none⟩) (L.length + 1) c7))
                      have HBz := Lib.hid (HRq.out.hb.trans (((HB7.out.setCell (p := ⟨N + 1, 2, none⟩) (Nat.le_refl _) (.slice (some ⟨g7, 0, none⟩) (L.length + 1) c7))).mono (Nat.le_succ N)))
                      refine idx_done rfl (((HRz.out.put 0 _).put 1 _).put 2 _) rfl rfl rfl rfl ?_
                      exact ReadPost.err HE.out (by decide) (((HBz.out.setCell (p := ⟨N, 0, none⟩) (Nat.le_refl N) _).setCell (p := ⟨N, 1, none⟩) (Nat.le_refl N) _).setCell (p := ⟨N, 2, none⟩) (Nat.le_refl N) _)
                    · have HTk := Lib.hid (show termOk l5 = true by rw [term_all HP1e.out HQ.out hq1 (fun q hq => List.all_eq_true.1 hall.symm q hq), isNE hpe'.out]; rfl)
                      clear hall
                      have hD := HD.out
                      have hM := HM.out
                      rw [List.take_length] at hD hM
                      have HD2 := Lib.hid (show wr.ownsRow (N + 1) 3 1 (.slice A4 Q.length c4) (docsQ Q).length (intCells (docsQ Q)) by rw [show (docsQ Q).length = Q.length by simp [docsQ]]; exact own_base hD (by omega))
                      have HM2 := Lib.hid (show wr.ownsRow (N + 1) 3 1 (.slice A5 Q.length c5) (manyQ Q).length (intCells (manyQ Q)) by rw [show (manyQ Q).length = Q.length by simp [manyQ]]; exact own_base hM (by omega))
                      have HI := Lib.hid (show (∀ n ∈ docsQ Q, I64 n) ∧ ∀ n ∈ manyQ Q, I64 n from ⟨fun n hn => by obtain ⟨q, _, rfl⟩ := List.mem_map.1 hn; exact num_i64 _, fun n hn => by obtain ⟨q, _, rfl⟩ := List.mem_map.1 hn; exact num_i64 _⟩)
                      clear hD hM
                      have HW := Lib.hid (show Below w5.heap.size w5 wr by rw [hs5]; exact HBq.out)
                      have HRq := Lib.hid (HR5.out.below HW.out)
                      have HCq := Lib.hid (HCb5.out.below HW.out)
                      have b0 : wr.cell? ⟨G + 1, 0, none⟩ = some (.string p1) := HT.out.c 0
                      have b1 : wr.cell? ⟨G + 1, 1, none⟩ = some (.slice A4 Q.length c4) := HT.out.c 1
                      have b2 : wr.cell? ⟨G + 1, 2, none⟩ = some (.slice A5 Q.length c5) := HT.out.c 2
                      have z2 : wr.cell? ⟨N + 1, 2, none⟩ = some (.slice A3 L.length c3) := HRq.out.hx.c 2
                      have hN5 : N + 1 ≤ wr.heap.size := Nat.le_of_lt HRq.out.hx.lt
                      go_wp2_with (at_builtin; go_must (refine wpList_push _ rfl (.tmp 148) (.tmp 150) 24 rfl (N + 1) 61 _ 3 64 Tryd.underlying24 info_term rfl (by omega) (.slice A3 L.length c3) L.length _ rfl (own_alloc HRq.out.ho.ot _) [.string p1, .slice A4 Q.length c4, .slice A5 Q.length c5] rfl _ rfl (cell_new _ [.string p1, .slice A4 Q.length c4, .slice A5 Q.length c5] 61 _ rfl) (by intro u hu; simp at hu; rcases hu with rfl | rfl | rfl <;> rfl) (by omega) (by unfold maxLen; omega) (by simp; omega) ?_); intro g7 c7 w7 own7 hg7 hgg7 hb7; have HX7 := Lib.hid ((HRq.out.hx.alloc (.cells #[.string p1, .slice A4 Q.length c4, .slice A5 Q.length c5] 61)).push (own_alloc HRq.out.ho.ot _) (by decide) hg7); have HR7 := Lib.hid ((HRq.out.hr.alloc (.cells #[.string p1, .slice A4 Q.length c4, .slice A5 Q.length c5] 61)).push (own_alloc HRq.out.ho.ot _) (by decide) hg7); have HC7 := Lib.hid ((HCq.out.alloc (.cells #[.string p1, .slice A4 Q.length c4, .slice A5 Q.length c5] 61)).push (own_alloc HRq.out.ho.ot _) (by decide) hg7); have HO7 := Lib.hid (IdxOwn.pushT (HRq.out.ho.alloc (.cells #[.string p1, .slice A4 Q.length c4, .slice A5 Q.length c5] 61)) (⟨p1, docsQ Q, manyQ Q⟩, .slice A4 Q.length c4, .slice A5 Q.length c5) (own_alloc HD2.out _) (own_alloc HM2.out _) HI.out hg7 own7); have HB7 := Lib.hid (((Below.refl (N + 1) wr).alloc hN5 (.cells #[.string p1, .slice A4 Q.length c4, .slice A5 Q.length c5] 61)).trans hb7); have v2 : w7.cell? ⟨N + 1, 2, none⟩ = some (.slice A3 L.length c3) := HX7.out.c 2; have v2f := HX7.out.f 2; have v2s := HX7.out.sh; have r0 := HR7.out.c 0; have r1 := HR7.out.c 1; have r2 := HR7.out.c 2; have f0 := HR7.out.f 0; have f1 := HR7.out.f 1; have f2 := HR7.out.f 2; have fs := HR7.out.sh; clear own7 hg7 hgg7 hb7)
                      have hgne : g ≠ N + 1 := by have := HgN.out; omega
                      have HTd := Lib.hid (termD_eq HP1e.out HQ.out)
                      have HXz := Lib.hid (HX7.out.put 2 (.slice (some ⟨g7, 0, none⟩) (L.length + 1) c7))
                      have HOz := Lib.hid (IdxOwn.box HO7.out HX7.out (by decide) (by decide) (by decide) (o := 2) (.slice (some ⟨g7, 0, none⟩) (L.length + 1) c7))
                      rw [← HTd.out, ← HSk.out] at HOz
                      have HBz := Lib.hid ((HW.out.mono (by rw [hs5]; omega)).trans (HB7.out.setCell (p := ⟨N + 1, 2, none⟩) (Nat.le_refl _) (.slice (some ⟨g7, 0, none⟩) (L.length + 1) c7)))
                      have HCz := Lib.hid (HC7.out.set_other (o := 2) hgne (.slice (some ⟨g7, 0, none⟩) (L.length + 1) c7))
                      go_roundw
                      case rel => exact ⟨j + 1, _, _, _, _, _, by omega, by go_num, Lib.hid (HR5.out.next (HLk.out.trans HTk.out) HXz.out HOz.out HBz.out), (fun _ => ⟨by trivial, HCz.out⟩)⟩
                      case measure => simp [intOf]; omega
        · have HP1 := Lib.hid (show Lib.hasPrefix a.data.toList (⟨#[100, 111, 99, 32]⟩ : ByteArray).data.toList = true from hp1)
          have h4 := prefix_len hp1
          rw [size_toList] at h4
          have h4a : 4 ≤ a.size := h4
          have HLd := Lib.hid (line_doc (T := st.T) hp1)
          have HSd := Lib.hid (lineS_doc (s := st) hp1)
          have HPc := Lib.hid (doc_pieces hp1)
          by_cases hL : L = []
          · subst hL
            have hT0 : st.T = [] := by have h8 := HR.out.ho.oL; simpa using h8.symm
            have HLd2 := Lib.hid (show lineOk st.T a.data.toList = docOk (a.data.toList.drop 4) by rw [HLd.out, hT0]; rfl)
            clear hp1 h4 HLd hT0
            obtain ⟨l4, hl4⟩ : ∃ l, a.data.toList.drop 4 = l := ⟨_, rfl⟩
            rw [hl4] at HPc HLd2 HSd
            have HL4 := Lib.hid hl4
            clear hl4
            by_cases q1 : aft 32 l4 = []
            · have HE := Lib.hid (readE_bad HLe.out HF.out HR.out.hok (HLd2.out.trans (doc_bad1 q1)))
              have HPd := Lib.hid (show Lib.splitK [32] 0 3 a.data.toList = [docB, l4] by rw [HPc.out, if_pos q1])
              clear q1 HPc
              go_wp2_with (first | (go_at_call 18; (with_reducible refine (hasPrefix_v a ⟨#[100, 111, 99, 32]⟩ true _ HP1.out).mono ?_); rintro e w6 ⟨rfl, rfl⟩) | (go_at_call 23; go_must (refine (splitN4_q a _ has h4a HMr.out).mono ?_); rintro e w5 ⟨P, cs, rfl, hP, hcp, hcc, hb5⟩; rw [HPd.out] at hP; have HR5 := Lib.hid (HR.out.below hb5); have r0 := HR5.out.hr.c 0; have r1 := HR5.out.hr.c 1; have r2 := HR5.out.hr.c 2; have f0 := HR5.out.hr.f 0; have f1 := HR5.out.hr.f 1; have f2 := HR5.out.hr.f 2; have fs := HR5.out.hr.sh; obtain ⟨p0, P, rfl, hp0, hP⟩ := List.map_eq_cons_iff.1 hP; obtain ⟨p1, P, rfl, hp1, hP⟩ := List.map_eq_cons_iff.1 hP; obtain rfl := List.map_eq_nil_iff.1 hP; clear hp0 hp1; clear hP hcp hcc hb5; simp only [List.length_cons, List.length_nil]))
              refine idx_done rfl (((HR5.out.hr.put 0 _).put 1 _).put 2 _) rfl rfl rfl rfl ?_
              exact ReadPost.err HE.out (by decide) (((HR5.out.hb.setCell (p := ⟨N, 0, none⟩) (Nat.le_refl N) _).setCell (p := ⟨N, 1, none⟩) (Nat.le_refl N) _).setCell (p := ⟨N, 2, none⟩) (Nat.le_refl N) _)
            by_cases q2 : aft 32 (docR1 l4) = []
            · have HE := Lib.hid (readE_bad HLe.out HF.out HR.out.hok (HLd2.out.trans (doc_bad2 q2)))
              have HPd := Lib.hid (show Lib.splitK [32] 0 3 a.data.toList = [docB, docA l4, docR1 l4] by rw [HPc.out, if_neg q1, if_pos q2])
              clear q1 q2 HPc
              go_wp2_with (first | (go_at_call 18; (with_reducible refine (hasPrefix_v a ⟨#[100, 111, 99, 32]⟩ true _ HP1.out).mono ?_); rintro e w6 ⟨rfl, rfl⟩) | (go_at_call 23; go_must (refine (splitN4_q a _ has h4a HMr.out).mono ?_); rintro e w5 ⟨P, cs, rfl, hP, hcp, hcc, hb5⟩; rw [HPd.out] at hP; have HR5 := Lib.hid (HR.out.below hb5); have r0 := HR5.out.hr.c 0; have r1 := HR5.out.hr.c 1; have r2 := HR5.out.hr.c 2; have f0 := HR5.out.hr.f 0; have f1 := HR5.out.hr.f 1; have f2 := HR5.out.hr.f 2; have fs := HR5.out.hr.sh; obtain ⟨p0, P, rfl, hp0, hP⟩ := List.map_eq_cons_iff.1 hP; obtain ⟨p1, P, rfl, hp1, hP⟩ := List.map_eq_cons_iff.1 hP; obtain ⟨p2, P, rfl, hp2, hP⟩ := List.map_eq_cons_iff.1 hP; obtain rfl := List.map_eq_nil_iff.1 hP; clear hp0 hp1 hp2; clear hP hcp hcc hb5; simp only [List.length_cons, List.length_nil]))
              refine idx_done rfl (((HR5.out.hr.put 0 _).put 1 _).put 2 _) rfl rfl rfl rfl ?_
              exact ReadPost.err HE.out (by decide) (((HR5.out.hb.setCell (p := ⟨N, 0, none⟩) (Nat.le_refl N) _).setCell (p := ⟨N, 1, none⟩) (Nat.le_refl N) _).setCell (p := ⟨N, 2, none⟩) (Nat.le_refl N) _)
            have HPd := Lib.hid (show Lib.splitK [32] 0 3 a.data.toList = [docB, docA l4, docM l4, docZ l4] by rw [HPc.out, if_neg q1, if_neg q2])
            obtain ⟨b1, hb1⟩ : ∃ b : ByteArray, b.data.toList = docA l4 := ⟨⟨(docA l4).toArray⟩, rfl⟩
            by_cases q3 : docA l4 = []
            · have HE := Lib.hid (readE_bad HLe.out HF.out HR.out.hok (HLd2.out.trans (doc_bad3 q3)))
              have eb := isE_true (hb1.trans q3)
              have HB1d := Lib.hid hb1
              clear q1 q2 q3 HPc hb1
              go_wp2_with (first | (go_at_call 18; (with_reducible refine (hasPrefix_v a ⟨#[100, 111, 99, 32]⟩ true _ HP1.out).mono ?_); rintro e w6 ⟨rfl, rfl⟩) | (go_at_call 23; go_must (refine (splitN4_q a _ has h4a HMr.out).mono ?_); rintro e w5 ⟨P, cs, rfl, hP, hcp, hcc, hb5⟩; rw [HPd.out] at hP; have HR5 := Lib.hid (HR.out.below hb5); have r0 := HR5.out.hr.c 0; have r1 := HR5.out.hr.c 1; have r2 := HR5.out.hr.c 2; have f0 := HR5.out.hr.f 0; have f1 := HR5.out.hr.f 1; have f2 := HR5.out.hr.f 2; have fs := HR5.out.hr.sh; obtain ⟨p0, P, rfl, hp0, hP⟩ := List.map_eq_cons_iff.1 hP; obtain ⟨p1, P, rfl, hp1, hP⟩ := List.map_eq_cons_iff.1 hP; obtain ⟨p2, P, rfl, hp2, hP⟩ := List.map_eq_cons_iff.1 hP; obtain ⟨p3, P, rfl, hp3, hP⟩ := List.map_eq_cons_iff.1 hP; obtain rfl := List.map_eq_nil_iff.1 hP; have hc1 : w5.cell? ⟨wr.heap.size, 1, none⟩ = some (.string b1) := ((hcp.c 1).trans (hcc 1 p1 rfl)).trans (by rw [bytes_eq (hp1.trans HB1d.out.symm)]); clear hp0 hp1 hp2 hp3; clear hP hcp hcc hb5; simp only [List.length_cons, List.length_nil]))
              refine idx_done rfl (((HR5.out.hr.put 0 _).put 1 _).put 2 _) rfl rfl rfl rfl ?_
              exact ReadPost.err HE.out (by decide) (((HR5.out.hb.setCell (p := ⟨N, 0, none⟩) (Nat.le_refl N) _).setCell (p := ⟨N, 1, none⟩) (Nat.le_refl N) _).setCell (p := ⟨N, 2, none⟩) (Nat.le_refl N) _)
            have HB1d := Lib.hid hb1
            have eb := isE_false (s := b1) (by rw [hb1]; exact q3)
            obtain ⟨b2, hb2⟩ : ∃ b : ByteArray, b.data.toList = docM l4 := ⟨⟨(docM l4).toArray⟩, rfl⟩
            obtain ⟨b3, hb3⟩ : ∃ b : ByteArray, b.data.toList = docZ l4 := ⟨⟨(docZ l4).toArray⟩, rfl⟩
            have hdocn := doc_num q1 q2 q3
            have h2s : b2.size ≤ 1048576 := by
              have h3 := bef_len 32 (docR1 l4)
              have h6 := bef_len 32 l4
              have h7 : (docR1 l4).length ≤ (aft 32 l4).length := by rw [docR1, List.length_tail]; omega
              have h8 : l4.length ≤ a.size := by rw [← HL4.out, List.length_drop, size_toList]; omega
              have h9 : b2.data.toList.length = (bef 32 (docR1 l4)).length := by rw [hb2]; rfl
              rw [size_toList] at h9
              omega
            have HB2d := Lib.hid hb2
            have HB3d := Lib.hid hb3
            obtain ⟨vn, hvn⟩ : ∃ v : Int, ((numV b2.data.toList : Nat) : Int) = v := ⟨_, rfl⟩
            have HVn := Lib.hid hvn
            have HI64 := Lib.hid (show I64 vn by rw [← hvn]; exact num_i64 _)
            have HSd2 := Lib.hid (show lineS st a.data.toList = ⟨st.D ++ [⟨b1, b3, ⟨#[]⟩⟩], st.S ++ [vn], st.T⟩ by
              rw [HSd.out, ← hvn, hb2, docD, show bs (docA l4) = b1 from bytes_eq (by rw [bs_list, hb1]), show bs (docZ l4) = b3 from bytes_eq (by rw [bs_list, hb3])])
            have hgw : g < wr.heap.size := HCb.out.lt
            obtain ⟨nb, hnb⟩ : ∃ b, numB b2.data.toList = b := ⟨_, rfl⟩
            have HNb := Lib.hid hnb
            have HLk0 := Lib.hid (show lineOk st.T a.data.toList = nb from HLd2.out.trans (by rw [hdocn, ← hb2]; exact hnb))
            clear q1 q2 q3 HPc hb1 hb2 hb3 hnb hdocn hvn
            go_wp2_with (first | (go_at_call 18; (with_reducible refine (hasPrefix_v a ⟨#[100, 111, 99, 32]⟩ true _ HP1.out).mono ?_); rintro e w6 ⟨rfl, rfl⟩) | (go_at_call 23; go_must (refine (splitN4_q a _ has h4a HMr.out).mono ?_); rintro e w5 ⟨P, cs, rfl, hP, hcp, hcc, hb5⟩; rw [HPd.out] at hP; have HR5 := Lib.hid (HR.out.below hb5); obtain ⟨p0, P, rfl, hp0, hP⟩ := List.map_eq_cons_iff.1 hP; obtain ⟨p1, P, rfl, hp1, hP⟩ := List.map_eq_cons_iff.1 hP; obtain ⟨p2, P, rfl, hp2, hP⟩ := List.map_eq_cons_iff.1 hP; obtain ⟨p3, P, rfl, hp3, hP⟩ := List.map_eq_cons_iff.1 hP; obtain rfl := List.map_eq_nil_iff.1 hP; have hc1 : w5.cell? ⟨wr.heap.size, 1, none⟩ = some (.string b1) := ((hcp.c 1).trans (hcc 1 p1 rfl)).trans (by rw [bytes_eq (hp1.trans HB1d.out.symm)]); have hc2 : w5.cell? ⟨wr.heap.size, 2, none⟩ = some (.string b2) := ((hcp.c 2).trans (hcc 2 p2 rfl)).trans (by rw [bytes_eq (hp2.trans HB2d.out.symm)]); have hc3 : w5.cell? ⟨wr.heap.size, 3, none⟩ = some (.string b3) := ((hcp.c 3).trans (hcc 3 p3 rfl)).trans (by rw [bytes_eq (hp3.trans HB3d.out.symm)]); have hlp5 : wr.heap.size < w5.heap.size := hcp.lt; have HCg5 := Lib.hid (HCb.out.below hb5); have HX5 := Lib.hid HR5.out.hx; have HRc5 := Lib.hid HR5.out.hr; have HOw5 := Lib.hid HR5.out.ho; have y0 : w5.cell? ⟨N + 1, 0, none⟩ = some (.slice A1 st.D.length c1) := HX5.out.c 0; have y1 : w5.cell? ⟨N + 1, 1, none⟩ = some (.slice A2 st.S.length c2) := HX5.out.c 1; have hN5 : N + 1 ≤ w5.heap.size := Nat.le_of_lt HX5.out.lt; have hN5' : N + 1 < w5.heap.size := HX5.out.lt; have hN5b : N + 1 < w5.heap.size + 1 := Nat.lt_succ_of_lt hN5'; have hlp5b : wr.heap.size < w5.heap.size + 1 := Nat.lt_succ_of_lt hlp5; have HcA := Lib.hid (cell_new w5 [.string b1, .string b3, .string ⟨#[]⟩] 58 _ rfl); have HcAZ := Lib.hid (fun (k : Nat) (u : Value) hk => Keeps.alloc _ (.cells #[.int .i64 vn] 3) _ _ (HcA.out k u hk)); have HcZA := Lib.hid (cell_new (w5.alloc (.cells #[.int .i64 vn] 3)) [.string b1, .string b3, .string ⟨#[]⟩] 58 (w5.heap.size + 1) (by rw [World.size_alloc])); have HCp5 := Lib.hid hcp; have HPc1 := Lib.hid ((hcc 1 p1 rfl).trans (show some (Value.string p1) = some (.string b1) by rw [bytes_eq (hp1.trans HB1d.out.symm)])); have HPc3 := Lib.hid ((hcc 3 p3 rfl).trans (show some (Value.string p3) = some (.string b3) by rw [bytes_eq (hp3.trans HB3d.out.symm)])); clear hp0 hp1 hp2 hp3; clear hP hcp hcc hb5; simp only [List.length_cons, List.length_nil]) | (go_at_call 24; have hsm := natural_q b2 w5 h2s; rw [HVn.out, HNb.out] at hsm; go_must (refine hsm.mono ?_); clear hsm; rintro e w6 ⟨rfl, rfl⟩))
            refine wp_region_any (by kernel_rfl) ?_
            change wpAny _ _ _ _ _ _ _ w5.drew
            refine wpAny_inv [0, 1, 2, 3, 4, 5, 6, 7, 8, 9, 10, 11, 12, 13, 14, 15, 16] (IR15 (fun v66 v67 v68 v69 v70 v71 v72 v73 v74 v75 v76 v77 v78 v79 v80 v81 v82 => (⟨#[.string s, undef, .pointer (some ⟨N, 0, none⟩), u3, .pointer (some ⟨N + 1, 0, none⟩), undef, .string a, .bool nb, .slice (some ⟨wr.heap.size, 0, none⟩) 4 4, .int .i64 vn, u10, u11, undef, u13, u14, u15, u16, u17, u18, undef, .string s, .int .i64 ↑s.size, .bool (decide (400000 < (↑s.size : Int))), undef, .string s, .bool true, .bool true, .string s, .bool true, .bool false, .bool false, undef, .agg #[.slice none 0 0, .slice none 0 0, .slice none 0 0], .string s, .slice (some ⟨g, 0, none⟩) Lb.length Lb.length, .int .i64 ↑Lb.length, .int .i64 ↑j, .bool true, .pointer (some ⟨g, j, none⟩), .string a, .string a, .bool true, .bool true, .pointer (some ⟨N + 1, 2, none⟩), .slice A3 0 c3, .int .i64 0, .bool true, .bool true, .string a, .slice (some ⟨wr.heap.size, 0, none⟩) 4 4, .slice (some ⟨wr.heap.size, 0, none⟩) 4 4, .int .i64 4, .bool true, .bool true, .slice (some ⟨wr.heap.size, 0, none⟩) 4 4, .pointer (some ⟨wr.heap.size, 1, none⟩), .string b1, .bool true, .bool true, .tuple #[.int .i64 vn, .bool nb], .slice (some ⟨wr.heap.size, 0, none⟩) 4 4, .pointer (some ⟨wr.heap.size, 2, none⟩), .string b2, .tuple #[.int .i64 vn, .bool nb], .int .i64 vn, .bool nb, v66, v67, v68, v69, v70, v71, v72, v73, v74, v75, v76, v77, v78, v79, v80, v81, v82, u83, u84, u85, u86, u87, u88, u89, u90, u91, u92, u93, u94, u95, u96, u97, u98, u99, u100, u101, u102, u103, u104, u105, u106, u107, u108, u109, u110, u111, u112, u113, u114, u115, u116, u117, u118, u119, u120, u121, u122, u123, u124, u125, u126, u127, u128, u129, u130, u131, u132, u133, u134, u135, u136, u137, u138, u139, u140, u141, u142, u143, u144, u145, u146, u147, u148, u149, u150, u151, u152, u153, u154, u155, u156, undef, undef, undef, undef, undef, undef, undef], []⟩ : Act)) N wr.heap.size g A1 A2 A3 c1 c2 c3 b1 b3 vn st (Lb.map Value.string).toArray cs w5) #[true, true, true, true, true, true, true, true, true, true, true, true, true, true, true, true, true, false, false, false] (g := 3) (by kernel_rfl) (by kernel_rfl) (by kernel_rfl) (IR15.start u66 u67 u68 u69 u70 u71 u72 u73 u74 u75 u76 u77 u78 u79 u80 u81 u82 rfl (W15.start HX5.out.drew HRc5.out.drew HCg5.out.drew HCp5.out.drew (Below.refl _ _).drew HOw5.out.drew)) ?step ?last
            case step =>
              intro i hi L a' w' hs hr hI
              obtain ⟨x0, x1, x2, x3, x4, x5, x6, x7, x8, x9, x10, x11, x12, x13, x14, x15, x16, rfl, hW, h0, h1, h2, h3, h4, h5, h6, h7, h8, h9, h10, h11, h12, h13, h14, h15, h16⟩ := hI
              simp only [List.mem_cons, List.not_mem_nil, or_false] at hi
              rcases hi with rfl | rfl | rfl | rfl | rfl | rfl | rfl | rfl | rfl | rfl | rfl | rfl | rfl | rfl | rfl | rfl | rfl
              · refine wpOp_step rfl (fun K hK => ?_)
                go_simp
                exact hK _ _ ⟨_, _, _, _, _, _, _, _, _, _, _, _, _, _, _, _, _, rfl, W15.step (by decide) (by decide) hW, fun _ => rfl, (fun h => h1 (getD_was (by decide) h)), (fun h => h2 (getD_was (by decide) h)), (fun h => h3 (getD_was (by decide) h)), (fun h => h4 (getD_was (by decide) h)), (fun h => h5 (getD_was (by decide) h)), (fun h => h6 (getD_was (by decide) h)), (fun h => h7 (getD_was (by decide) h)), (fun h => h8 (getD_was (by decide) h)), (fun h h' => h9 (getD_was (by decide) h) (by rw [← getD_set_ne false (show 0 ≠ 10 by decide)]; exact h')), (fun h => h10 (getD_was (by decide) h)), (fun h => h11 (getD_was (by decide) h)), (fun h => h12 (getD_was (by decide) h)), (fun h => h13 (getD_was (by decide) h)), (fun h h' => h14 (getD_was (by decide) h) (by rw [← getD_set_ne false (show 0 ≠ 15 by decide)]; exact h')), (fun h => h15 (getD_was (by decide) h)), (fun h => h16 (getD_was (by decide) h))⟩
              · have q0 := h0 (ready_dep hr (by kernel_rfl))
                subst q0
                have z := hW.hx.c 0
                simp only [List.getElem?_toArray, List.getElem?_cons_zero] at z
                refine wpOp_step rfl (fun K hK => ?_)
                go_simp
                exact hK _ _ ⟨_, _, _, _, _, _, _, _, _, _, _, _, _, _, _, _, _, rfl, W15.step (by decide) (by decide) hW, fun _ => rfl, fun _ => rfl, (fun h => h2 (getD_was (by decide) h)), (fun h => h3 (getD_was (by decide) h)), (fun h => h4 (getD_was (by decide) h)), (fun h => h5 (getD_was (by decide) h)), (fun h => h6 (getD_was (by decide) h)), (fun h => h7 (getD_was (by decide) h)), (fun h => h8 (getD_was (by decide) h)), (fun h h' => h9 (getD_was (by decide) h) (by rw [← getD_set_ne false (show 1 ≠ 10 by decide)]; exact h')), (fun h => h10 (getD_was (by decide) h)), (fun h => h11 (getD_was (by decide) h)), (fun h => h12 (getD_was (by decide) h)), (fun h => h13 (getD_was (by decide) h)), (fun h h' => h14 (getD_was (by decide) h) (by rw [← getD_set_ne false (show 1 ≠ 15 by decide)]; exact h')), (fun h => h15 (getD_was (by decide) h)), (fun h => h16 (getD_was (by decide) h))⟩
              · refine wpOp_step rfl (fun K hK => ?_)
                go_simp
                exact hK _ _ ⟨_, _, _, _, _, _, _, _, _, _, _, _, _, _, _, _, _, rfl, W15.step (by decide) (by decide) hW, (fun h => h0 (getD_was (by decide) h)), (fun h => h1 (getD_was (by decide) h)), fun _ => rfl, (fun h => h3 (getD_was (by decide) h)), (fun h => h4 (getD_was (by decide) h)), (fun h => h5 (getD_was (by decide) h)), (fun h => h6 (getD_was (by decide) h)), (fun h => h7 (getD_was (by decide) h)), (fun h => h8 (getD_was (by decide) h)), (fun h h' => h9 (getD_was (by decide) h) (by rw [← getD_set_ne false (show 2 ≠ 10 by decide)]; exact h')), (fun h => h10 (getD_was (by decide) h)), (fun h => h11 (getD_was (by decide) h)), (fun h => h12 (getD_was (by decide) h)), (fun h => h13 (getD_was (by decide) h)), (fun h h' => h14 (getD_was (by decide) h) (by rw [← getD_set_ne false (show 2 ≠ 15 by decide)]; exact h')), (fun h => h15 (getD_was (by decide) h)), (fun h => h16 (getD_was (by decide) h))⟩
              · have q2 := h2 (ready_dep hr (by kernel_rfl))
                subst q2
                refine wpOp_step rfl (fun K hK => ?_)
                go_simp
                exact hK _ _ ⟨_, _, _, _, _, _, _, _, _, _, _, _, _, _, _, _, _, rfl, W15.step (by decide) (by decide) hW, (fun h => h0 (getD_was (by decide) h)), (fun h => h1 (getD_was (by decide) h)), fun _ => rfl, fun _ => rfl, (fun h => h4 (getD_was (by decide) h)), (fun h => h5 (getD_was (by decide) h)), (fun h => h6 (getD_was (by decide) h)), (fun h => h7 (getD_was (by decide) h)), (fun h => h8 (getD_was (by decide) h)), (fun h h' => h9 (getD_was (by decide) h) (by rw [← getD_set_ne false (show 3 ≠ 10 by decide)]; exact h')), (fun h => h10 (getD_was (by decide) h)), (fun h => h11 (getD_was (by decide) h)), (fun h => h12 (getD_was (by decide) h)), (fun h => h13 (getD_was (by decide) h)), (fun h h' => h14 (getD_was (by decide) h) (by rw [← getD_set_ne false (show 3 ≠ 15 by decide)]; exact h')), (fun h => h15 (getD_was (by decide) h)), (fun h => h16 (getD_was (by decide) h))⟩
              · have q3 := h3 (ready_dep hr (by kernel_rfl))
                subst q3
                have z := (hW.hp.c 1).trans HPc1.out
                refine wpOp_step rfl (fun K hK => ?_)
                go_simp
                exact hK _ _ ⟨_, _, _, _, _, _, _, _, _, _, _, _, _, _, _, _, _, rfl, W15.step (by decide) (by decide) hW, (fun h => h0 (getD_was (by decide) h)), (fun h => h1 (getD_was (by decide) h)), (fun h => h2 (getD_was (by decide) h)), fun _ => rfl, fun _ => rfl, (fun h => h5 (getD_was (by decide) h)), (fun h => h6 (getD_was (by decide) h)), (fun h => h7 (getD_was (by decide) h)), (fun h => h8 (getD_was (by decide) h)), (fun h h' => h9 (getD_was (by decide) h) (by rw [← getD_set_ne false (show 4 ≠ 10 by decide)]; exact h')), (fun h => h10 (getD_was (by decide) h)), (fun h => h11 (getD_was (by decide) h)), (fun h => h12 (getD_was (by decide) h)), (fun h => h13 (getD_was (by decide) h)), (fun h h' => h14 (getD_was (by decide) h) (by rw [← getD_set_ne false (show 4 ≠ 15 by decide)]; exact h')), (fun h => h15 (getD_was (by decide) h)), (fun h => h16 (getD_was (by decide) h))⟩
              · refine wpOp_step rfl (fun K hK => ?_)
                go_simp
                exact hK _ _ ⟨_, _, _, _, _, _, _, _, _, _, _, _, _, _, _, _, _, rfl, W15.step (by decide) (by decide) hW, (fun h => h0 (getD_was (by decide) h)), (fun h => h1 (getD_was (by decide) h)), (fun h => h2 (getD_was (by decide) h)), (fun h => h3 (getD_was (by decide) h)), (fun h => h4 (getD_was (by decide) h)), fun _ => rfl, (fun h => h6 (getD_was (by decide) h)), (fun h => h7 (getD_was (by decide) h)), (fun h => h8 (getD_was (by decide) h)), (fun h h' => h9 (getD_was (by decide) h) (by rw [← getD_set_ne false (show 5 ≠ 10 by decide)]; exact h')), (fun h => h10 (getD_was (by decide) h)), (fun h => h11 (getD_was (by decide) h)), (fun h => h12 (getD_was (by decide) h)), (fun h => h13 (getD_was (by decide) h)), (fun h h' => h14 (getD_was (by decide) h) (by rw [← getD_set_ne false (show 5 ≠ 15 by decide)]; exact h')), (fun h => h15 (getD_was (by decide) h)), (fun h => h16 (getD_was (by decide) h))⟩
              · have q5 := h5 (ready_dep hr (by kernel_rfl))
                subst q5
                refine wpOp_step rfl (fun K hK => ?_)
                go_simp
                exact hK _ _ ⟨_, _, _, _, _, _, _, _, _, _, _, _, _, _, _, _, _, rfl, W15.step (by decide) (by decide) hW, (fun h => h0 (getD_was (by decide) h)), (fun h => h1 (getD_was (by decide) h)), (fun h => h2 (getD_was (by decide) h)), (fun h => h3 (getD_was (by decide) h)), (fun h => h4 (getD_was (by decide) h)), fun _ => rfl, fun _ => rfl, (fun h => h7 (getD_was (by decide) h)), (fun h => h8 (getD_was (by decide) h)), (fun h h' => h9 (getD_was (by decide) h) (by rw [← getD_set_ne false (show 6 ≠ 10 by decide)]; exact h')), (fun h => h10 (getD_was (by decide) h)), (fun h => h11 (getD_was (by decide) h)), (fun h => h12 (getD_was (by decide) h)), (fun h => h13 (getD_was (by decide) h)), (fun h h' => h14 (getD_was (by decide) h) (by rw [← getD_set_ne false (show 6 ≠ 15 by decide)]; exact h')), (fun h => h15 (getD_was (by decide) h)), (fun h => h16 (getD_was (by decide) h))⟩
              · have q6 := h6 (ready_dep hr (by kernel_rfl))
                subst q6
                have z := (hW.hp.c 3).trans HPc3.out
                refine wpOp_step rfl (fun K hK => ?_)
                go_simp
                exact hK _ _ ⟨_, _, _, _, _, _, _, _, _, _, _, _, _, _, _, _, _, rfl, W15.step (by decide) (by decide) hW, (fun h => h0 (getD_was (by decide) h)), (fun h => h1 (getD_was (by decide) h)), (fun h => h2 (getD_was (by decide) h)), (fun h => h3 (getD_was (by decide) h)), (fun h => h4 (getD_was (by decide) h)), (fun h => h5 (getD_was (by decide) h)), fun _ => rfl, fun _ => rfl, (fun h => h8 (getD_was (by decide) h)), (fun h h' => h9 (getD_was (by decide) h) (by rw [← getD_set_ne false (show 7 ≠ 10 by decide)]; exact h')), (fun h => h10 (getD_was (by decide) h)), (fun h => h11 (getD_was (by decide) h)), (fun h => h12 (getD_was (by decide) h)), (fun h => h13 (getD_was (by decide) h)), (fun h h' => h14 (getD_was (by decide) h) (by rw [← getD_set_ne false (show 7 ≠ 15 by decide)]; exact h')), (fun h => h15 (getD_was (by decide) h)), (fun h => h16 (getD_was (by decide) h))⟩
              · have q4 := h4 (ready_dep hr (by kernel_rfl))
                have q7 := h7 (ready_dep hr (by kernel_rfl))
                subst q4
                subst q7
                refine wpOp_step rfl (fun K hK => ?_)
                go_simp
                exact hK _ _ ⟨_, _, _, _, _, _, _, _, _, _, _, _, _, _, _, _, _, rfl, W15.step (by decide) (by decide) hW, (fun h => h0 (getD_was (by decide) h)), (fun h => h1 (getD_was (by decide) h)), (fun h => h2 (getD_was (by decide) h)), (fun h => h3 (getD_was (by decide) h)), fun _ => rfl, (fun h => h5 (getD_was (by decide) h)), (fun h => h6 (getD_was (by decide) h)), fun _ => rfl, fun _ => rfl, (fun h h' => h9 (getD_was (by decide) h) (by rw [← getD_set_ne false (show 8 ≠ 10 by decide)]; exact h')), (fun h => h10 (getD_was (by decide) h)), (fun h => h11 (getD_was (by decide) h)), (fun h => h12 (getD_was (by decide) h)), (fun h => h13 (getD_was (by decide) h)), (fun h h' => h14 (getD_was (by decide) h) (by rw [← getD_set_ne false (show 8 ≠ 15 by decide)]; exact h')), (fun h => h15 (getD_was (by decide) h)), (fun h => h16 (getD_was (by decide) h))⟩
              · have q8 := h8 (ready_dep hr (by kernel_rfl))
                subst q8
                refine wpOp_step rfl (fun K hK => ?_)
                go_simp
                exact hK _ _ ⟨_, _, _, _, _, _, _, _, _, _, _, _, _, _, _, _, _, rfl, W15.step (by decide) (by decide) (hW.alloc _), (fun h => h0 (getD_was (by decide) h)), (fun h => h1 (getD_was (by decide) h)), (fun h => h2 (getD_was (by decide) h)), (fun h => h3 (getD_was (by decide) h)), (fun h => h4 (getD_was (by decide) h)), (fun h => h5 (getD_was (by decide) h)), (fun h => h6 (getD_was (by decide) h)), (fun h => h7 (getD_was (by decide) h)), fun _ => rfl, (fun _ _ => ⟨_, rfl, CB.new _ _ _⟩), (fun h => h10 (getD_was (by decide) h)), (fun h => h11 (getD_was (by decide) h)), (fun h => h12 (getD_was (by decide) h)), (fun h => h13 (getD_was (by decide) h)), (fun h h' => (by obtain ⟨q1, q2, q3⟩ := h14 (getD_was (by decide) h) (by rw [← getD_set_ne false (show 9 ≠ 15 by decide)]; exact h'); exact ⟨q1, q2, q3.alloc _⟩)), (fun h => h15 (getD_was (by decide) h)), (fun h => h16 (getD_was (by decide) h))⟩
              · have q1 := h1 (ready_dep hr (by kernel_rfl))
                subst q1
                have hL10 := ready_un hr
                obtain ⟨hL15, hO⟩ := hW.h0 hL10
                obtain ⟨gd, rfl, hcd⟩ := h9 (ready_dep hr (by kernel_rfl)) hL10
                have hsz : N + 1 < w'.heap.size := hW.hx.lt
                refine wpOp_step rfl (fun K hK => ?_)
                refine step_pushR rfl (.tmp 67) (.tmp 75) 22 rfl (N + 1) 58 _ 3 48 Tryd.underlying22 info_doc rfl (by omega) (.slice A1 st.D.length c1) st.D.length _ rfl hO.od [.string b1, .string b3, .string ⟨#[]⟩] rfl gd rfl (fun k u hk => (hcd.c k).trans (by simpa using hk)) (by intro u hu; simp at hu; rcases hu with rfl | rfl | rfl <;> rfl) (by omega) (by unfold maxLen; omega) (by omega) ?_
                intro g7 k7 w7 own7 hg7 hgg7 hb7
                have hO7 := IdxOwn.pushD hO ⟨b1, b3, ⟨#[]⟩⟩ hg7 own7
                have hnew : (L.setIfInBounds 10 true).getD 10 false = true := getD_at (mem_ready.1 hr).1 false
                have hold : (L.setIfInBounds 10 true).getD 15 false = false := by rw [getD_set_ne false (by decide)]; exact hL15
                refine hK _ _ ⟨_, _, _, _, _, _, _, _, _, _, _, _, _, _, _, _, _, rfl, ?_, (fun h => h0 (getD_was (by decide) h)), fun _ => rfl, (fun h => h2 (getD_was (by decide) h)), (fun h => h3 (getD_was (by decide) h)), (fun h => h4 (getD_was (by decide) h)), (fun h => h5 (getD_was (by decide) h)), (fun h => h6 (getD_was (by decide) h)), (fun h => h7 (getD_was (by decide) h)), (fun h => h8 (getD_was (by decide) h)), (fun _ h => by rw [getD_at (mem_ready.1 hr).1] at h; cases h), (fun _ => ⟨_, _, rfl⟩), (fun h => h11 (getD_was (by decide) h)), (fun h => h12 (getD_was (by decide) h)), (fun h => h13 (getD_was (by decide) h)), (fun h h' => (by obtain ⟨q1, q2, q3⟩ := h14 (getD_was (by decide) h) (by rw [← getD_set_ne false (show 10 ≠ 15 by decide)]; exact h'); exact ⟨q1, q2, q3.push hO.od (by decide) hg7⟩)), (fun h => h15 (getD_was (by decide) h)), (fun h => h16 (getD_was (by decide) h))⟩
                rw [hnew, hold]
                exact ⟨hW.hx.push hO.od (by decide) hg7, hW.hr.push hO.od (by decide) hg7, hW.hg.push hO.od (by decide) hg7, hW.hp.push hO.od (by decide) hg7, hW.hb.trans hb7, (fun h => by cases h), (fun _ _ => hO7), (fun h => by cases h)⟩
              · refine wpOp_step rfl (fun K hK => ?_)
                go_simp
                exact hK _ _ ⟨_, _, _, _, _, _, _, _, _, _, _, _, _, _, _, _, _, rfl, W15.step (by decide) (by decide) hW, (fun h => h0 (getD_was (by decide) h)), (fun h => h1 (getD_was (by decide) h)), (fun h => h2 (getD_was (by decide) h)), (fun h => h3 (getD_was (by decide) h)), (fun h => h4 (getD_was (by decide) h)), (fun h => h5 (getD_was (by decide) h)), (fun h => h6 (getD_was (by decide) h)), (fun h => h7 (getD_was (by decide) h)), (fun h => h8 (getD_was (by decide) h)), (fun h h' => h9 (getD_was (by decide) h) (by rw [← getD_set_ne false (show 11 ≠ 10 by decide)]; exact h')), (fun h => h10 (getD_was (by decide) h)), fun _ => rfl, (fun h => h12 (getD_was (by decide) h)), (fun h => h13 (getD_was (by decide) h)), (fun h h' => h14 (getD_was (by decide) h) (by rw [← getD_set_ne false (show 11 ≠ 15 by decide)]; exact h')), (fun h => h15 (getD_was (by decide) h)), (fun h => h16 (getD_was (by decide) h))⟩
              · have q11 := h11 (ready_dep hr (by kernel_rfl))
                subst q11
                have z := hW.hx.c 1
                simp only [List.getElem?_toArray, List.getElem?_cons_zero, List.getElem?_cons_succ] at z
                refine wpOp_step rfl (fun K hK => ?_)
                go_simp
                exact hK _ _ ⟨_, _, _, _, _, _, _, _, _, _, _, _, _, _, _, _, _, rfl, W15.step (by decide) (by decide) hW, (fun h => h0 (getD_was (by decide) h)), (fun h => h1 (getD_was (by decide) h)), (fun h => h2 (getD_was (by decide) h)), (fun h => h3 (getD_was (by decide) h)), (fun h => h4 (getD_was (by decide) h)), (fun h => h5 (getD_was (by decide) h)), (fun h => h6 (getD_was (by decide) h)), (fun h => h7 (getD_was (by decide) h)), (fun h => h8 (getD_was (by decide) h)), (fun h h' => h9 (getD_was (by decide) h) (by rw [← getD_set_ne false (show 12 ≠ 10 by decide)]; exact h')), (fun h => h10 (getD_was (by decide) h)), fun _ => rfl, fun _ => rfl, (fun h => h13 (getD_was (by decide) h)), (fun h h' => h14 (getD_was (by decide) h) (by rw [← getD_set_ne false (show 12 ≠ 15 by decide)]; exact h')), (fun h => h15 (getD_was (by decide) h)), (fun h => h16 (getD_was (by decide) h))⟩
              · refine wpOp_step rfl (fun K hK => ?_)
                go_simp
                exact hK _ _ ⟨_, _, _, _, _, _, _, _, _, _, _, _, _, _, _, _, _, rfl, W15.step (by decide) (by decide) hW, (fun h => h0 (getD_was (by decide) h)), (fun h => h1 (getD_was (by decide) h)), (fun h => h2 (getD_was (by decide) h)), (fun h => h3 (getD_was (by decide) h)), (fun h => h4 (getD_was (by decide) h)), (fun h => h5 (getD_was (by decide) h)), (fun h => h6 (getD_was (by decide) h)), (fun h => h7 (getD_was (by decide) h)), (fun h => h8 (getD_was (by decide) h)), (fun h h' => h9 (getD_was (by decide) h) (by rw [← getD_set_ne false (show 13 ≠ 10 by decide)]; exact h')), (fun h => h10 (getD_was (by decide) h)), (fun h => h11 (getD_was (by decide) h)), (fun h => h12 (getD_was (by decide) h)), fun _ => rfl, (fun h h' => h14 (getD_was (by decide) h) (by rw [← getD_set_ne false (show 13 ≠ 15 by decide)]; exact h')), (fun h => h15 (getD_was (by decide) h)), (fun h => h16 (getD_was (by decide) h))⟩
              · have q13 := h13 (ready_dep hr (by kernel_rfl))
                subst q13
                refine wpOp_step rfl (fun K hK => ?_)
                go_simp
                exact hK _ _ ⟨_, _, _, _, _, _, _, _, _, _, _, _, _, _, _, _, _, rfl, W15.step (by decide) (by decide) (hW.alloc _), (fun h => h0 (getD_was (by decide) h)), (fun h => h1 (getD_was (by decide) h)), (fun h => h2 (getD_was (by decide) h)), (fun h => h3 (getD_was (by decide) h)), (fun h => h4 (getD_was (by decide) h)), (fun h => h5 (getD_was (by decide) h)), (fun h => h6 (getD_was (by decide) h)), (fun h => h7 (getD_was (by decide) h)), (fun h => h8 (getD_was (by decide) h)), (fun h h' => (by obtain ⟨q1, q2, q3⟩ := h9 (getD_was (by decide) h) (by rw [← getD_set_ne false (show 14 ≠ 10 by decide)]; exact h'); exact ⟨q1, q2, q3.alloc _⟩)), (fun h => h10 (getD_was (by decide) h)), (fun h => h11 (getD_was (by decide) h)), (fun h => h12 (getD_was (by decide) h)), fun _ => rfl, (fun _ _ => ⟨_, rfl, CB.new _ _ _⟩), (fun h => h15 (getD_was (by decide) h)), (fun h => h16 (getD_was (by decide) h))⟩
              · have q12 := h12 (ready_dep hr (by kernel_rfl))
                subst q12
                have hL15 := ready_un hr
                have hL10 := ready_dep hr (show (depsOf _ _ 15).contains 10 = true by kernel_rfl)
                have hO := hW.h1 hL10 hL15
                obtain ⟨gi, rfl, hci⟩ := h14 (ready_dep hr (by kernel_rfl)) hL15
                have hsz : N + 1 < w'.heap.size := hW.hx.lt
                refine wpOp_step rfl (fun K hK => ?_)
                refine step_pushR rfl (.tmp 78) (.tmp 80) 23 rfl (N + 1) 3 _ 1 8 Tryd.underlying23 info_intR rfl (by omega) (.slice A2 st.S.length c2) st.S.length _ rfl hO.os [.int .i64 vn] rfl gi rfl (fun k u hk => (hci.c k).trans (by simpa using hk)) (one_int _ _) (by omega) (by unfold maxLen; omega) (by omega) ?_
                intro g9 k9 w9 own9 hg9 hgg9 hb9
                have hO9 := IdxOwn.pushS hO vn HI64.out hg9 own9
                have hnew : (L.setIfInBounds 15 true).getD 15 false = true := getD_at (mem_ready.1 hr).1 false
                have hold : (L.setIfInBounds 15 true).getD 10 false = true := by rw [getD_set_ne false (by decide)]; exact hL10
                refine hK _ _ ⟨_, _, _, _, _, _, _, _, _, _, _, _, _, _, _, _, _, rfl, ?_, (fun h => h0 (getD_was (by decide) h)), (fun h => h1 (getD_was (by decide) h)), (fun h => h2 (getD_was (by decide) h)), (fun h => h3 (getD_was (by decide) h)), (fun h => h4 (getD_was (by decide) h)), (fun h => h5 (getD_was (by decide) h)), (fun h => h6 (getD_was (by decide) h)), (fun h => h7 (getD_was (by decide) h)), (fun h => h8 (getD_was (by decide) h)), (fun h h' => (by rw [hold] at h'; cases h')), (fun h => h10 (getD_was (by decide) h)), (fun h => h11 (getD_was (by decide) h)), fun _ => rfl, (fun h => h13 (getD_was (by decide) h)), (fun _ h => by rw [getD_at (mem_ready.1 hr).1] at h; cases h), (fun _ => ⟨_, _, rfl⟩), (fun h => h16 (getD_was (by decide) h))⟩
                rw [hnew, hold]
                exact ⟨hW.hx.push hO.os (by decide) hg9, hW.hr.push hO.os (by decide) hg9, hW.hg.push hO.os (by decide) hg9, hW.hp.push hO.os (by decide) hg9, hW.hb.trans hb9, (fun h => by cases h), (fun _ h => by cases h), (fun _ => hO9)⟩
              · refine wpOp_step rfl (fun K hK => ?_)
                go_simp
                exact hK _ _ ⟨_, _, _, _, _, _, _, _, _, _, _, _, _, _, _, _, _, rfl, W15.step (by decide) (by decide) hW, (fun h => h0 (getD_was (by decide) h)), (fun h => h1 (getD_was (by decide) h)), (fun h => h2 (getD_was (by decide) h)), (fun h => h3 (getD_was (by decide) h)), (fun h => h4 (getD_was (by decide) h)), (fun h => h5 (getD_was (by decide) h)), (fun h => h6 (getD_was (by decide) h)), (fun h => h7 (getD_was (by decide) h)), (fun h => h8 (getD_was (by decide) h)), (fun h h' => h9 (getD_was (by decide) h) (by rw [← getD_set_ne false (show 16 ≠ 10 by decide)]; exact h')), (fun h => h10 (getD_was (by decide) h)), (fun h => h11 (getD_was (by decide) h)), (fun h => h12 (getD_was (by decide) h)), (fun h => h13 (getD_was (by decide) h)), (fun h h' => h14 (getD_was (by decide) h) (by rw [← getD_set_ne false (show 16 ≠ 15 by decide)]; exact h')), (fun h => h15 (getD_was (by decide) h)), fun _ => rfl⟩
            case last =>
              intro a' w' hI
              obtain ⟨x0, x1, x2, x3, x4, x5, x6, x7, x8, x9, x10, x11, x12, x13, x14, x15, x16, rfl, hW, h0, h1, h2, h3, h4, h5, h6, h7, h8, h9, h10, h11, h12, h13, h14, h15, h16⟩ := hI
              obtain ⟨g7, k7, rfl⟩ := h10 rfl
              obtain ⟨g9, k9, rfl⟩ := h15 rfl
              have q16 := h16 rfl
              clear h0 h1 h2 h3 h4 h5 h6 h7 h8 h9 h10 h11 h12 h13 h14 h15 h16
              subst q16
              have HX9 := Lib.hid hW.hx; have HR9 := Lib.hid hW.hr; have HC9 := Lib.hid hW.hg; have HB9 := Lib.hid hW.hb; have HO9 := Lib.hid (hW.h2 rfl)
              clear hW
              have e0 : w'.cell? ⟨N + 1, 0, none⟩ = some (.slice A1 st.D.length c1) := HX9.out.c 0
              have e1 : w'.cell? ⟨N + 1, 1, none⟩ = some (.slice A2 st.S.length c2) := HX9.out.c 1
              have e0f := HX9.out.f 0
              have e1f := HX9.out.f 1
              have esh := HX9.out.sh
              refine wpAny_of_seqA 3 17 rfl (by kernel_rfl) ?_
              simp only [List.drop_succ_cons, List.drop_zero]
              have r0 := HR9.out.c 0; have r1 := HR9.out.c 1; have r2 := HR9.out.c 2; have f0 := HR9.out.f 0; have f1 := HR9.out.f 1; have f2 := HR9.out.f 2; have fs := HR9.out.sh
              have hgne : g ≠ N + 1 := by have := HgN.out; omega
              have HXz := Lib.hid ((HX9.out.put 0 (.slice (some ⟨g7, 0, none⟩) (st.D.length + 1) k7)).put 1 (.slice (some ⟨g9, 0, none⟩) (st.S.length + 1) k9))
              have HOz := Lib.hid (IdxOwn.box (IdxOwn.box HO9.out HX9.out (by decide) (by decide) (by decide) (o := 0) (.slice (some ⟨g7, 0, none⟩) (st.D.length + 1) k7)) (HX9.out.put 0 (.slice (some ⟨g7, 0, none⟩) (st.D.length + 1) k7)) (by decide) (by decide) (by decide) (o := 1) (.slice (some ⟨g9, 0, none⟩) (st.S.length + 1) k9))
              rw [← HSd2.out] at HOz
              have HBz := Lib.hid ((HB9.out.setCell (p := ⟨N + 1, 0, none⟩) (Nat.le_refl _) (.slice (some ⟨g7, 0, none⟩) (st.D.length + 1) k7)).setCell (p := ⟨N + 1, 1, none⟩) (Nat.le_refl _) (.slice (some ⟨g9, 0, none⟩) (st.S.length + 1) k9))
              have HRz := Lib.hid ((HR9.out.set_other (m := N + 1) (o := 0) (by omega) (.slice (some ⟨g7, 0, none⟩) (st.D.length + 1) k7)).set_other (m := N + 1) (o := 1) (by omega) (.slice (some ⟨g9, 0, none⟩) (st.S.length + 1) k9))
              have HCz := Lib.hid ((HC9.out.set_other (o := 0) hgne (.slice (some ⟨g7, 0, none⟩) (st.D.length + 1) k7)).set_other (o := 1) hgne (.slice (some ⟨g9, 0, none⟩) (st.S.length + 1) k9))
              have HBn := Lib.hid (HR5.out.hb.trans (HBz.out.mono (Nat.le_succ N)))
              cases nb
              · have HE := Lib.hid (readE_bad HLe.out HF.out HR.out.hok HLk0.out)
                go_wp2_with fail
                refine idx_done rfl (((HRz.out.put 0 _).put 1 _).put 2 _) rfl rfl rfl rfl ?_
                exact ReadPost.err HE.out (by decide) (((HBn.out.setCell (p := ⟨N, 0, none⟩) (Nat.le_refl N) _).setCell (p := ⟨N, 1, none⟩) (Nat.le_refl N) _).setCell (p := ⟨N, 2, none⟩) (Nat.le_refl N) _)
              · have HLk := Lib.hid HLk0.out
                go_wp2_with fail
                go_roundw
                case rel => exact ⟨j + 1, _, _, _, _, _, by omega, by go_num, Lib.hid (HR5.out.next HLk.out HXz.out HOz.out HBz.out), (fun _ => ⟨by trivial, HCz.out⟩)⟩
                case measure => simp [intOf]; omega
          · have hTne : st.T.isEmpty = false := by
              have h8 := HR.out.ho.oL
              cases L with
              | nil => exact absurd rfl hL
              | cons _ _ => rw [← h8]; rfl
            have hL0 : 0 < L.length := by cases L with | nil => exact absurd rfl hL | cons _ _ => simp
            have HE := Lib.hid (readE_bad HLe.out HF.out HR.out.hok (by rw [HLd.out, hTne]; rfl))
            have hp2 : Lib.hasPrefix a.data.toList termW0 = false := by
              have h8 := doc_form hp1
              rw [h8]; rfl
            have HP2 := Lib.hid (show Lib.hasPrefix a.data.toList (⟨#[116, 101, 114, 109, 32]⟩ : ByteArray).data.toList = false from hp2)
            clear hp1 hp2 h4 HLd hTne hL
            have r0 := HR.out.hr.c 0; have r1 := HR.out.hr.c 1; have r2 := HR.out.hr.c 2; have f0 := HR.out.hr.f 0; have f1 := HR.out.hr.f 1; have f2 := HR.out.hr.f 2; have fs := HR.out.hr.sh
            go_wp2_with (first | (go_at_call 18; (with_reducible refine (hasPrefix_v a ⟨#[100, 111, 99, 32]⟩ true _ HP1.out).mono ?_); rintro e w6 ⟨rfl, rfl⟩) | (go_at_call 18; (with_reducible refine (hasPrefix_v a ⟨#[116, 101, 114, 109, 32]⟩ false _ HP2.out).mono ?_); rintro e w7 ⟨rfl, rfl⟩))
            refine idx_done rfl (((HR.out.hr.put 0 _).put 1 _).put 2 _) rfl rfl rfl rfl ?_
            exact ReadPost.err HE.out (by decide) (((HR.out.hb.setCell (p := ⟨N, 0, none⟩) (Nat.le_refl N) _).setCell (p := ⟨N, 1, none⟩) (Nat.le_refl N) _).setCell (p := ⟨N, 2, none⟩) (Nat.le_refl N) _)
      · obtain rfl : j = Lb.length := by omega
        rw [List.drop_length] at HR
        have HE := Lib.hid (readE_end HLe.out HF.out HR.out.hok HR.out.hen)
        have HTr := Lib.hid (HTb.out.keep (by rw [HN.out]; exact HR.out.hb))
        obtain ⟨v, hv⟩ : ∃ v, idxE st.D st.S st.T = v := ⟨_, rfl⟩
        have HV := Lib.hid hv; clear hv
        by_cases hv0 : v = 0
        · subst hv0
          go_wp2_with (go_at_call 27; go_must (refine (indexError_q st.D st.S st.T _ _ _ _ HR.out.ho.at HSz.out.1 HSz.out.2.1 HSz.out.2.2.1 HTr.out HMr.out).mono ?_); rw [HV.out]; rintro e w5 ⟨rfl, hb⟩; have HR5 := Lib.hid (HR.out.below hb); clear hb; have y0 := HR5.out.hx.c 0; have y1 := HR5.out.hx.c 1; have y2 := HR5.out.hx.c 2; have r0 := HR5.out.hr.c 0; have r1 := HR5.out.hr.c 1; have r2 := HR5.out.hr.c 2; have f0 := HR5.out.hr.f 0; have f1 := HR5.out.hr.f 1; have f2 := HR5.out.hr.f 2; have fs := HR5.out.hr.sh)
          refine idx_done rfl (((HR5.out.hr.put 0 _).put 1 _).put 2 _) rfl rfl rfl rfl ?_
          exact ReadPost.ok (HE.out.trans HV.out) (by rw [HR5.out.hen]; rfl) (((HR5.out.ho.base (Nat.le_succ N)).set3 HR5.out.hr)) (((HR5.out.hb.setCell (p := ⟨N, 0, none⟩) (Nat.le_refl N) _).setCell (p := ⟨N, 1, none⟩) (Nat.le_refl N) _).setCell (p := ⟨N, 2, none⟩) (Nat.le_refl N) _)
        · go_wp2_with (go_at_call 27; go_must (refine (indexError_q st.D st.S st.T _ _ _ _ HR.out.ho.at HSz.out.1 HSz.out.2.1 HSz.out.2.2.1 HTr.out HMr.out).mono ?_); rw [HV.out]; rintro e w5 ⟨rfl, hb⟩; have HR5 := Lib.hid (HR.out.below hb); clear hb; have y0 := HR5.out.hx.c 0; have y1 := HR5.out.hx.c 1; have y2 := HR5.out.hx.c 2; have r0 := HR5.out.hr.c 0; have r1 := HR5.out.hr.c 1; have r2 := HR5.out.hr.c 2; have f0 := HR5.out.hr.f 0; have f1 := HR5.out.hr.f 1; have f2 := HR5.out.hr.f 2; have fs := HR5.out.hr.sh)
          refine idx_done rfl (((HR5.out.hr.put 0 _).put 1 _).put 2 _) rfl rfl rfl rfl ?_
          exact ReadPost.err (HE.out.trans HV.out) hv0 (((HR5.out.hb.setCell (p := ⟨N, 0, none⟩) (Nat.le_refl N) _).setCell (p := ⟨N, 1, none⟩) (Nat.le_refl N) _).setCell (p := ⟨N, 2, none⟩) (Nat.le_refl N) _)

end Go.Proofs.YtfeecoeeiangnaaDoor
