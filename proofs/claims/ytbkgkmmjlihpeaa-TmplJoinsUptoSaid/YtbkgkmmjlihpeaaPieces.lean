/-
  Pieces: tmpl.String, tmpl.Skeleton, mastref1.Joined, mastref1.SkeletonOf.
-/
import Derived.Test.YtbkgkmmjlihpeaaBuilder
import Derived.Test.YtbkgkmmjlihpeaaShelf
import Derived.Deep.DeepMust
namespace Go.Proofs.Ytbkgkmmjlihpeaa
open Go.RowKit Go.ChangeShapes Go.WideShapes Go.Deep

structure Piece where
  ctx : Int
  text : ByteArray

structure PieceCells (w : World) (b o : Nat) (n : Piece) : Prop where
  c0 : w.cell? ⟨b, o, none⟩ = some (.int .i64 n.ctx)
  c1 : w.cell? ⟨b, o + 1, none⟩ = some (.string n.text)

theorem PieceCells.keep {w w' : World} {b o : Nat} {n : Piece} (h : PieceCells w b o n) (k : Keeps w w') : PieceCells w' b o n := ⟨k _ _ h.c0, k _ _ h.c1⟩

def PiecesAt (w : World) (v : Value) (l : List Piece) : Prop :=
  ∃ (A : Option Addr) (c b o : Nat), v = .slice A l.length c ∧ l.length ≤ c ∧ c ≤ maxLen ∧ (l ≠ [] → A = some ⟨b, o, none⟩) ∧ ∀ i n, l[i]? = some n → PieceCells w b (o + i * 2) n

theorem PiecesAt.keep {w w' : World} {v : Value} {l : List Piece} (h : PiecesAt w v l) (k : Keeps w w') : PiecesAt w' v l := by
  obtain ⟨A, c, b, o, h1, h2, h3, h4, h5⟩ := h
  exact ⟨A, c, b, o, h1, h2, h3, h4, fun i n hn => (h5 i n hn).keep k⟩

/-- how much the pieces hold -/
def piecesSize (l : List Piece) : Nat := sumBy (fun n => n.text.size + 1) l

section
variable {H : Type} {enc : TypeId × Value → H} {w : World} {base : Nat} {spare : Nat → Bool} {held : Bool}
theorem open_pieces (fuel : Nat) (cs : List Value) (x : DataW H × List MemPlace) (h : DataW.trod enc Try.prog w base spare held fuel 34 cs = some x) :
    ∃ (v : Value) (l : List Piece), cs = [v] ∧ PiecesAt w v l ∧ piecesSize l + 1 ≤ Rows.uptoBulk x.1 := by
  obtain ⟨A, len, cap, m, b, o, hm, rfl, hlc, hc, hA, hD, hel⟩ := open_cells Try.underlying34 (K := 2) (by kernel_rfl) (by omega) h
  have key : ∀ i, i < len → ∃ n : Piece, PieceCells w b (o + i * 2) n ∧ ∃ d, (elemsOf x.1)[i]? = some d ∧ n.text.size + 1 ≤ Rows.uptoBulk d := by
    intro i hi
    obtain ⟨cs', y, hl', hat, hdi, hy⟩ := hel i hi
    obtain ⟨m', ys, hm', hyl, hyd, _, hf⟩ := open_fields Try.underlying57 (by kernel_rfl) (by kernel_rfl) hy
    obtain ⟨v0, y0, hv0, hy0, t0⟩ := hf 0 _ rfl
    obtain ⟨v1, y1, hv1, hy1, t1⟩ := hf 1 _ rfl
    obtain ⟨k, e0, z0, w0⟩ := DataW.trod_int Try.underlying3 t0
    obtain ⟨tx, e1, z1, w1⟩ := DataW.trod_string Try.underlying9 t1
    simp only [List.cons.injEq, and_true] at e0 e1
    subst e0 e1
    refine ⟨⟨k, tx⟩, ⟨(hat 0 (by omega)).trans hv0, (hat 1 (by omega)).trans hv1⟩, _, hdi, ?_⟩
    match ys, hyl with
    | [a0, a1], _ =>
      simp only [List.getElem?_cons_zero, List.getElem?_cons_succ, Option.some.injEq] at hy0 hy1
      subst hy0 hy1
      rw [hyd]
      simp only [List.map_cons, List.map_nil, Rows.uptoBulk, Rows.uptoBulkAll, z0, z1, size_toList]
      omega
  obtain ⟨l, hll, hp⟩ := exists_list key
  have hw : piecesSize l ≤ Rows.uptoBulkAll (elemsOf x.1) := by
    refine sumBy_le_bulk (by rw [hll, hD]) (fun i a d ha hd => ?_)
    obtain ⟨_, d', h2, h3⟩ := hp i a ha
    rw [h2] at hd
    injection hd with hd
    subst hd
    exact h3
  have hb := bulk_elems x.1
  refine ⟨_, l, rfl, ⟨A, cap, b, o, by rw [hll], by omega, hc, fun hne => hA ?_, fun i n hn => (hp i n hn).1⟩, by omega⟩
  rcases Nat.eq_zero_or_pos len with h0 | h0
  · exact absurd (List.eq_nil_of_length_eq_zero (by omega)) hne
  · exact h0
end

/-- what stands for a piece in the skeleton -/
def skel (n : Piece) : List UInt8 := if n.ctx = 1 ∨ n.ctx = 2 ∨ n.ctx = 3 then [120] else if n.ctx = 4 then [47] else if n.ctx = 5 then [48] else n.text.data.toList
def pieceText (n : Piece) : List UInt8 := n.text.data.toList

theorem sum_take {l : List Piece} {k : Nat} {n : Piece} (h : l[k]? = some n) : sumBy (fun n => n.text.size + 1) (l.take (k + 1)) = sumBy (fun n => n.text.size + 1) (l.take k) + (n.text.size + 1) := by
  obtain ⟨hk, rfl⟩ := List.getElem?_eq_some_iff.1 h
  rw [List.take_succ_eq_append_getElem hk, sumBy_append]
  simp [sumBy]
theorem sum_le (l : List Piece) (k : Nat) : sumBy (fun n => n.text.size + 1) (l.take k) ≤ piecesSize l := by
  have : piecesSize l = sumBy (fun n => n.text.size + 1) (l.take k ++ l.drop k) := by rw [List.take_append_drop]; rfl
  rw [this, sumBy_append]
  omega
theorem flat_take {f : Piece → List UInt8} {l : List Piece} {k : Nat} {n : Piece} (h : l[k]? = some n) : (l.take (k + 1)).flatMap f = (l.take k).flatMap f ++ f n := by
  obtain ⟨hk, rfl⟩ := List.getElem?_eq_some_iff.1 h
  rw [List.take_succ_eq_append_getElem hk, List.flatMap_append]
  simp
theorem map_take {β : Type} {f : Piece → β} {l : List Piece} {k : Nat} {n : Piece} (h : l[k]? = some n) : (l.take (k + 1)).map f = (l.take k).map f ++ [f n] := by
  obtain ⟨hk, rfl⟩ := List.getElem?_eq_some_iff.1 h
  rw [List.take_succ_eq_append_getElem hk, List.map_append]
  rfl
theorem flat_len {f : Piece → List UInt8} (hf : ∀ n, (f n).length ≤ n.text.size + 1) (l : List Piece) : (l.flatMap f).length ≤ sumBy (fun n => n.text.size + 1) l := by
  induction l with
  | nil => simp [sumBy]
  | cons a r ih => simp only [List.flatMap_cons, List.length_append, sumBy]; have := hf a; omega
theorem len_sum (l : List Piece) : l.length ≤ sumBy (fun n => n.text.size + 1) l := by
  induction l with
  | nil => simp [sumBy]
  | cons a r ih => simp only [List.length_cons, sumBy]; omega
theorem skel_len (n : Piece) : (skel n).length ≤ n.text.size + 1 := by
  unfold skel
  split
  · simp
  · split
    · simp
    · split
      · simp
      · rw [size_toList]; omega
theorem text_len (n : Piece) : (pieceText n).length ≤ n.text.size + 1 := by unfold pieceText; rw [size_toList]; omega

theorem join_flat : ∀ (l : List (List UInt8)), Lib.join l [] = l.flatten := by
  intro l
  cases l with
  | nil => rfl
  | cons a r => rw [Lib.join_cons]; simp [Lib.joinTail]

theorem info_string : (Try.prog.info? 9).map (fun i => (i.zero, i.size, i.bytes)) = some (some (.string ⟨#[]⟩), 1, 16) := by kernel_rfl

theorem ctx_cases (c : Int) : c = 1 ∨ c = 2 ∨ c = 3 ∨ c = 4 ∨ c = 5 ∨ (¬ c = 1 ∧ ¬ c = 2 ∧ ¬ c = 3 ∧ ¬ c = 4 ∧ ¬ c = 5) := by omega

set_option maxRecDepth 100000 in
set_option maxHeartbeats 2000000 in
theorem tmplString_any (l : List Piece) (v : Value) (w : World) (h : PiecesAt w v l) (hs : piecesSize l ≤ 1048576) :
    Calls Try.prog 14 #[v] w fun e w' => e = .returned (.string ⟨(l.flatMap pieceText).toArray⟩) ∧ Below w.heap.size w w' := by
  obtain ⟨A, c, b, o, rfl, hlc, hc, hA, hcell⟩ := h
  unfold maxLen at hc
  have HCell := Lib.hid hcell; clear hcell
  go_enter Try.func14, Try.ntmps14
  go_wp2_with fail
  go_loopw [8] (fun t wr => ∃ k : Nat, k ≤ l.length ∧ t = .int .i64 k ∧ Bld w.heap.size w.heap.size ((l.take k).flatMap pieceText) wr ∧ Below w.heap.size w wr) (fun t _ => l.length - (intOf t).toNat)
  case atStart => exact ⟨0, Nat.zero_le _, rfl, Lib.fresh_isBuilder _ _ _, (Below.refl _ _).alloc (Nat.le_refl _) _⟩
  case round =>
    obtain ⟨k, hk, rfl, hbl, hB⟩ := hrel
    by_cases hlt : k < l.length
    · have hA' := hA (by rintro rfl; simp at hlt)
      subst hA'
      obtain ⟨⟨ctx, text⟩, hn⟩ : ∃ n, l[k]? = some n := ⟨_, List.getElem?_eq_getElem hlt⟩
      obtain ⟨p0, p1⟩ := (HCell.out k _ hn).keep (Keeps.of_below hB)
      simp only at p0 p1
      have bb := World.block_lt_of_cell? _ _ p0
      simp only at bb
      have hl1 := flat_len (f := pieceText) text_len (l.take k)
      have hl2 := sum_le l (k + 1)
      rw [sum_take hn] at hl2
      simp only at hl2
      have HBl := Lib.hid (bld_below hbl ((Below.refl _ _).alloc (Nat.le_refl _) (.cells #[.int .i64 ctx, .string text] 57))); clear hbl
      have HSz := Lib.hid (show w.heap.size ≤ (wr.alloc (.cells #[.int .i64 ctx, .string text] 57)).heap.size from by rw [World.size_alloc]; have := hB.size; omega)
      have HB := Lib.hid hB; clear hB
      have HN := Lib.hid hn; clear hn
      clear hA
      have HF := Lib.hid (show pieceText ⟨ctx, text⟩ = text.data.toList from rfl)
      go_wp2_with (go_at_call 33; go_must (refine (writeString_any w.heap.size w.heap.size _ text _ HBl.out (by omega) HSz.out).mono ?_); rintro e w5 ⟨rfl, hbl5, hb5⟩; have HBl5 := Lib.hid hbl5; have HB5 := Lib.hid hb5; clear hbl5 hb5)
      go_roundw
      case rel =>
        refine ⟨k + 1, by omega, by go_num, ?_, HB.out.trans (((Below.refl _ _).alloc HB.out.size _).trans HB5.out)⟩
        have hbl := HBl5.out
        rw [flat_take HN.out, HF.out]
        exact hbl
      case measure => simp [intOf]; omega
    · have hke : k = l.length := by omega
      have hall : (l.take k).flatMap pieceText = l.flatMap pieceText := by rw [hke, List.take_length]
      rw [hall] at hbl
      have HBl := Lib.hid hbl; clear hbl hall hke
      have HB := Lib.hid hB; clear hB
      go_wp2_with (go_at_call 34; go_must (refine (Try.Builder_String_any w.heap.size w.heap.size _ _ HBl.out HB.out.size).mono ?_); rintro e w5 ⟨rfl, hb5⟩; have HB5 := Lib.hid hb5; clear hb5)
      go_ret
      exact ⟨rfl, HB.out.trans HB5.out⟩

set_option maxRecDepth 100000 in
set_option maxHeartbeats 2000000 in
theorem tmplSkeleton_any (l : List Piece) (v : Value) (w : World) (h : PiecesAt w v l) (hs : piecesSize l ≤ 1048576) :
    Calls Try.prog 16 #[v] w fun e w' => e = .returned (.string ⟨(l.flatMap skel).toArray⟩) ∧ Below w.heap.size w w' := by
  obtain ⟨A, c, b, o, rfl, hlc, hc, hA, hcell⟩ := h
  unfold maxLen at hc
  have HCell := Lib.hid hcell; clear hcell
  go_enter Try.func16, Try.ntmps16
  go_wp2_with fail
  go_loopw [8] (fun t wr => ∃ k : Nat, k ≤ l.length ∧ t = .int .i64 k ∧ Bld w.heap.size w.heap.size ((l.take k).flatMap skel) wr ∧ Below w.heap.size w wr) (fun t _ => l.length - (intOf t).toNat)
  case atStart => exact ⟨0, Nat.zero_le _, rfl, Lib.fresh_isBuilder _ _ _, (Below.refl _ _).alloc (Nat.le_refl _) _⟩
  case round =>
    obtain ⟨k, hk, rfl, hbl, hB⟩ := hrel
    by_cases hlt : k < l.length
    · have hA' := hA (by rintro rfl; simp at hlt)
      subst hA'
      obtain ⟨⟨ctx, text⟩, hn⟩ : ∃ n, l[k]? = some n := ⟨_, List.getElem?_eq_getElem hlt⟩
      obtain ⟨p0, p1⟩ := (HCell.out k _ hn).keep (Keeps.of_below hB)
      simp only at p0 p1
      have bb := World.block_lt_of_cell? _ _ p0
      simp only at bb
      have hl1 := flat_len (f := skel) skel_len (l.take k)
      have hl2 := sum_le l (k + 1)
      rw [sum_take hn] at hl2
      simp only at hl2
      have HBl := Lib.hid (bld_below hbl ((Below.refl _ _).alloc (Nat.le_refl _) (.cells #[.int .i64 ctx, .string text] 57))); clear hbl
      have HSz := Lib.hid (show w.heap.size ≤ (wr.alloc (.cells #[.int .i64 ctx, .string text] 57)).heap.size from by rw [World.size_alloc]; have := hB.size; omega)
      have HB := Lib.hid hB; clear hB
      have HN := Lib.hid hn; clear hn
      clear hA
      rcases (ctx_cases ctx) with h1 | h1 | h1 | h1 | h1 | h1
      · subst h1
        have hx : skel ⟨1, text⟩ = [120] := by unfold skel; simp
        have HX := Lib.hid hx; clear hx
        have HF := Lib.hid (show skel ⟨1, text⟩ = [120] from HX.out)
        go_wp2_with (go_at_call 36; go_must (refine (writeByte_val w.heap.size w.heap.size _ 120 120 _ rfl HBl.out (by omega) HSz.out).mono ?_); rintro e w5 ⟨rfl, hbl5, hb5⟩; have HBl5 := Lib.hid hbl5; have HB5 := Lib.hid hb5; clear hbl5 hb5)
        go_roundw
        case rel =>
          refine ⟨k + 1, by omega, by go_num, ?_, HB.out.trans (((Below.refl _ _).alloc HB.out.size _).trans HB5.out)⟩
          have hbl := HBl5.out
          rw [flat_take HN.out, HF.out]
          exact hbl
        case measure => simp [intOf]; omega
      · subst h1
        have hx : skel ⟨2, text⟩ = [120] := by unfold skel; simp
        have HX := Lib.hid hx; clear hx
        have HF := Lib.hid (show skel ⟨2, text⟩ = [120] from HX.out)
        go_wp2_with (go_at_call 36; go_must (refine (writeByte_val w.heap.size w.heap.size _ 120 120 _ rfl HBl.out (by omega) HSz.out).mono ?_); rintro e w5 ⟨rfl, hbl5, hb5⟩; have HBl5 := Lib.hid hbl5; have HB5 := Lib.hid hb5; clear hbl5 hb5)
        go_roundw
        case rel =>
          refine ⟨k + 1, by omega, by go_num, ?_, HB.out.trans (((Below.refl _ _).alloc HB.out.size _).trans HB5.out)⟩
          have hbl := HBl5.out
          rw [flat_take HN.out, HF.out]
          exact hbl
        case measure => simp [intOf]; omega
      · subst h1
        have hx : skel ⟨3, text⟩ = [120] := by unfold skel; simp
        have HX := Lib.hid hx; clear hx
        have HF := Lib.hid (show skel ⟨3, text⟩ = [120] from HX.out)
        go_wp2_with (go_at_call 36; go_must (refine (writeByte_val w.heap.size w.heap.size _ 120 120 _ rfl HBl.out (by omega) HSz.out).mono ?_); rintro e w5 ⟨rfl, hbl5, hb5⟩; have HBl5 := Lib.hid hbl5; have HB5 := Lib.hid hb5; clear hbl5 hb5)
        go_roundw
        case rel =>
          refine ⟨k + 1, by omega, by go_num, ?_, HB.out.trans (((Below.refl _ _).alloc HB.out.size _).trans HB5.out)⟩
          have hbl := HBl5.out
          rw [flat_take HN.out, HF.out]
          exact hbl
        case measure => simp [intOf]; omega
      · subst h1
        have hx : skel ⟨4, text⟩ = [47] := by unfold skel; simp
        have HX := Lib.hid hx; clear hx
        have HF := Lib.hid (show skel ⟨4, text⟩ = [47] from HX.out)
        go_wp2_with (go_at_call 36; go_must (refine (writeByte_val w.heap.size w.heap.size _ 47 47 _ rfl HBl.out (by omega) HSz.out).mono ?_); rintro e w5 ⟨rfl, hbl5, hb5⟩; have HBl5 := Lib.hid hbl5; have HB5 := Lib.hid hb5; clear hbl5 hb5)
        go_roundw
        case rel =>
          refine ⟨k + 1, by omega, by go_num, ?_, HB.out.trans (((Below.refl _ _).alloc HB.out.size _).trans HB5.out)⟩
          have hbl := HBl5.out
          rw [flat_take HN.out, HF.out]
          exact hbl
        case measure => simp [intOf]; omega
      · subst h1
        have hx : skel ⟨5, text⟩ = [48] := by unfold skel; simp
        have HX := Lib.hid hx; clear hx
        have HF := Lib.hid (show skel ⟨5, text⟩ = [48] from HX.out)
        go_wp2_with (go_at_call 36; go_must (refine (writeByte_val w.heap.size w.heap.size _ 48 48 _ rfl HBl.out (by omega) HSz.out).mono ?_); rintro e w5 ⟨rfl, hbl5, hb5⟩; have HBl5 := Lib.hid hbl5; have HB5 := Lib.hid hb5; clear hbl5 hb5)
        go_roundw
        case rel =>
          refine ⟨k + 1, by omega, by go_num, ?_, HB.out.trans (((Below.refl _ _).alloc HB.out.size _).trans HB5.out)⟩
          have hbl := HBl5.out
          rw [flat_take HN.out, HF.out]
          exact hbl
        case measure => simp [intOf]; omega
      · obtain ⟨d1, d2, d3, d4, d5⟩ := h1
        have hx : skel ⟨ctx, text⟩ = text.data.toList := by unfold skel; simp [d1, d2, d3, d4, d5]
        have HX := Lib.hid hx; clear hx
        have HF := Lib.hid (show skel ⟨ctx, text⟩ = text.data.toList from HX.out)
        go_wp2_with (go_at_call 33; go_must (refine (writeString_any w.heap.size w.heap.size _ text _ HBl.out (by omega) HSz.out).mono ?_); rintro e w5 ⟨rfl, hbl5, hb5⟩; have HBl5 := Lib.hid hbl5; have HB5 := Lib.hid hb5; clear hbl5 hb5)
        go_roundw
        case rel =>
          refine ⟨k + 1, by omega, by go_num, ?_, HB.out.trans (((Below.refl _ _).alloc HB.out.size _).trans HB5.out)⟩
          have hbl := HBl5.out
          rw [flat_take HN.out, HF.out]
          exact hbl
        case measure => simp [intOf]; omega
    · have hke : k = l.length := by omega
      have hall : (l.take k).flatMap skel = l.flatMap skel := by rw [hke, List.take_length]
      rw [hall] at hbl
      have HBl := Lib.hid hbl; clear hbl hall hke
      have HB := Lib.hid hB; clear hB
      go_wp2_with (go_at_call 34; go_must (refine (Try.Builder_String_any w.heap.size w.heap.size _ _ HBl.out HB.out.size).mono ?_); rintro e w5 ⟨rfl, hb5⟩; have HB5 := Lib.hid hb5; clear hb5)
      go_ret
      exact ⟨rfl, HB.out.trans HB5.out⟩

set_option maxRecDepth 100000 in
set_option maxHeartbeats 2000000 in
theorem refJoined_any (l : List Piece) (v : Value) (w : World) (h : PiecesAt w v l) (hs : piecesSize l ≤ 1048576) :
    Calls Try.prog 15 #[v] w fun e w' => e = .returned (.string ⟨(l.flatMap pieceText).toArray⟩) ∧ Below w.heap.size w w' := by
  obtain ⟨A, c, b, o, rfl, hlc, hc, hA, hcell⟩ := h
  unfold maxLen at hc
  have HCell := Lib.hid hcell; clear hcell
  have hll : l.length ≤ 1048576 := Nat.le_trans (len_sum l) hs
  go_enter Try.func15, Try.ntmps15
  go_wp2_with fail
  go_loopw [3, 8] (fun t3 t wr => ∃ (k : Nat) (Ao : Option Addr) (co : Nat), k ≤ l.length ∧ t = .int .i64 k ∧ t3 = .slice Ao k co ∧
      wr.ownsRow w.heap.size 9 1 (.slice Ao k co) k (((l.take k).map pieceText).map fun s => .string ⟨s.toArray⟩) ∧ Below w.heap.size w wr) (fun _ t _ => l.length - (intOf t).toNat)
  case atStart => exact ⟨0, none, 0, Nat.zero_le _, rfl, rfl, World.ownsRow_nil _ _ _ _, Below.refl _ _⟩
  case round =>
    obtain ⟨k, Ao, co, hk, rfl, rfl, hown, hB⟩ := hrel
    by_cases hlt : k < l.length
    · have hA' := hA (by rintro rfl; simp at hlt)
      subst hA'
      obtain ⟨⟨ctx, text⟩, hn⟩ : ∃ n, l[k]? = some n := ⟨_, List.getElem?_eq_getElem hlt⟩
      obtain ⟨p0, p1⟩ := (HCell.out k _ hn).keep (Keeps.of_below hB)
      simp only at p0 p1
      have bb := World.block_lt_of_cell? _ _ p0
      simp only at bb
      have HOwn := Lib.hid hown; clear hown
      have HSz := Lib.hid (show w.heap.size ≤ (wr.alloc (.cells #[.int .i64 ctx, .string text] 57)).heap.size from by rw [World.size_alloc]; have := hB.size; omega)
      have HB := Lib.hid hB; clear hB
      have HN := Lib.hid hn; clear hn
      clear hA
      have HF := Lib.hid (show pieceText ⟨ctx, text⟩ = text.data.toList from rfl)
      go_wp2_with (at_builtin; have hh := (HOwn.out.alloc (.cells #[.int .i64 ctx, .string text] 57)).alloc (.cells #[.string text] 9); have k1 : (k + 1) * 16 ≤ 140737488355328 := (by omega); have k2 : k + 1 ≤ maxLen := (by unfold maxLen; omega); have k3 : w.heap.size ≤ ((wr.alloc (.cells #[.int .i64 ctx, .string text] 57)).alloc (.cells #[.string text] 9)).heap.size := (by rw [World.size_alloc]; have := HSz.out; omega); have k4 := cell_new (wr.alloc (.cells #[.int .i64 ctx, .string text] 57)) [.string text] 9 (wr.heap.size + 1) (by simp); go_must (refine wpList_push _ rfl (.tmp 12) (.tmp 15) 23 rfl w.heap.size 9 (.string ⟨#[]⟩) 1 16 Try.underlying23 info_string rfl (by omega) (.slice Ao k co) k _ rfl hh [.string text] rfl _ rfl k4 (one_str _) k1 k2 k3 ?_); clear hh k1 k2 k3 k4; intro g1 c1 w2 h1 hw1 hg1 hb1)
      go_roundw
      case rel =>
        refine ⟨k + 1, _, c1, by omega, by go_num, rfl, ?_, HB.out.trans ((((Below.refl _ _).alloc HB.out.size _).alloc (by rw [World.size_alloc]; have := HB.out.size; omega) _).trans hb1)⟩
        rw [map_take HN.out, List.map_append]
        simpa [HF.out, mk_toList] using h1
      case measure => simp [intOf]; omega
    · have hke : k = l.length := by omega
      subst hke
      rw [List.take_length] at hown
      have HB := Lib.hid hB; clear hB
      by_cases h0 : l.length = 0
      · have hnil : l = [] := List.eq_nil_of_length_eq_zero h0
        have HNil := Lib.hid hnil; clear hnil hown
        rw [h0]
        go_wp2_with (go_at_call 35; go_must (refine (Try.strings_Join_none _ _ _ _).mono ?_); rintro e w5 ⟨rfl, rfl⟩)
        go_ret
        exact ⟨by rw [HNil.out]; rfl, HB.out⟩
      · have hjn := Lib.hid (Try.strings_Join)
        obtain ⟨Ao', co', e1, hco, hlco, hAo⟩ := own_form hown
        cases e1
        obtain ⟨g, rfl, hBg, hgl⟩ := hAo (by omega)
        have hcells : ∀ (j : Nat) (x : ByteArray), (l.map fun n => (⟨(pieceText n).toArray⟩ : ByteArray))[j]? = some x → wr.cell? ⟨g, 0 + j, none⟩ = some (.string x) := by
          intro j x hx
          rw [Nat.zero_add]
          refine own_cell hown ?_
          rw [List.getElem?_map, Option.map_eq_some_iff] at hx
          obtain ⟨n, hn, rfl⟩ := hx
          simp [hn]
        have hjoin := Try.strings_Join g 0 co (l.map fun n => (⟨(pieceText n).toArray⟩ : ByteArray)) ⟨#[]⟩ wr hcells hgl (by rw [List.length_map]; omega) (by rw [List.length_map]; exact hlco)
          (by
            have e : (Lib.join ((l.map fun n => (⟨(pieceText n).toArray⟩ : ByteArray)).map (·.data.toList)) (⟨#[]⟩ : ByteArray).data.toList) = l.flatMap pieceText := by
              rw [show (⟨#[]⟩ : ByteArray).data.toList = [] from rfl, join_flat, List.map_map, List.flatMap_def]
              rfl
            rw [e]
            have := flat_len (f := pieceText) text_len l
            have h2 : sumBy (fun n => n.text.size + 1) l ≤ 1048576 := hs
            omega)
        have e : (Lib.join ((l.map fun n => (⟨(pieceText n).toArray⟩ : ByteArray)).map (·.data.toList)) (⟨#[]⟩ : ByteArray).data.toList) = l.flatMap pieceText := by
          rw [show (⟨#[]⟩ : ByteArray).data.toList = [] from rfl, join_flat, List.map_map, List.flatMap_def]
          rfl
        rw [e, List.length_map] at hjoin
        have HJ := Lib.hid hjoin; clear hjoin e hcells hown hAo hjn
        go_wp2_with (go_at_call 35; go_must (refine HJ.out.mono ?_); rintro e w5 ⟨rfl, hb5⟩; have HB5 := Lib.hid hb5; clear hb5)
        go_ret
        exact ⟨rfl, HB.out.trans (HB5.out.mono HB.out.size)⟩

set_option maxRecDepth 100000 in
set_option maxHeartbeats 2000000 in
theorem refSkeleton_any (l : List Piece) (v : Value) (w : World) (h : PiecesAt w v l) (hs : piecesSize l ≤ 1048576) :
    Calls Try.prog 17 #[v] w fun e w' => e = .returned (.string ⟨(l.flatMap skel).toArray⟩) ∧ Below w.heap.size w w' := by
  obtain ⟨A, c, b, o, rfl, hlc, hc, hA, hcell⟩ := h
  unfold maxLen at hc
  have HCell := Lib.hid hcell; clear hcell
  have hll : l.length ≤ 1048576 := Nat.le_trans (len_sum l) hs
  go_enter Try.func17, Try.ntmps17
  go_wp2_with fail
  go_loopw [3, 8] (fun t3 t wr => ∃ (k : Nat) (Ao : Option Addr) (co : Nat), k ≤ l.length ∧ t = .int .i64 k ∧ t3 = .slice Ao k co ∧
      wr.ownsRow w.heap.size 9 1 (.slice Ao k co) k (((l.take k).map skel).map fun s => .string ⟨s.toArray⟩) ∧ Below w.heap.size w wr) (fun _ t _ => l.length - (intOf t).toNat)
  case atStart => exact ⟨0, none, 0, Nat.zero_le _, rfl, rfl, World.ownsRow_nil _ _ _ _, Below.refl _ _⟩
  case round =>
    obtain ⟨k, Ao, co, hk, rfl, rfl, hown, hB⟩ := hrel
    by_cases hlt : k < l.length
    · have hA' := hA (by rintro rfl; simp at hlt)
      subst hA'
      obtain ⟨⟨ctx, text⟩, hn⟩ : ∃ n, l[k]? = some n := ⟨_, List.getElem?_eq_getElem hlt⟩
      obtain ⟨p0, p1⟩ := (HCell.out k _ hn).keep (Keeps.of_below hB)
      simp only at p0 p1
      have bb := World.block_lt_of_cell? _ _ p0
      simp only at bb
      have HOwn := Lib.hid hown; clear hown
      have HSz := Lib.hid (show w.heap.size ≤ (wr.alloc (.cells #[.int .i64 ctx, .string text] 57)).heap.size from by rw [World.size_alloc]; have := hB.size; omega)
      have HB := Lib.hid hB; clear hB
      have HN := Lib.hid hn; clear hn
      clear hA
      rcases (ctx_cases ctx) with h1 | h1 | h1 | h1 | h1 | h1
      · subst h1
        have hx : skel ⟨1, text⟩ = [120] := by unfold skel; simp
        have HX := Lib.hid hx; clear hx
        have HF := Lib.hid (show skel ⟨1, text⟩ = [120] from HX.out)
        go_wp2_with (at_builtin; have hh := (HOwn.out.alloc (.cells #[.int .i64 1, .string text] 57)).alloc (.cells #[.string ⟨#[120]⟩] 9); have k1 : (k + 1) * 16 ≤ 140737488355328 := (by omega); have k2 : k + 1 ≤ maxLen := (by unfold maxLen; omega); have k3 : w.heap.size ≤ ((wr.alloc (.cells #[.int .i64 1, .string text] 57)).alloc (.cells #[.string ⟨#[120]⟩] 9)).heap.size := (by rw [World.size_alloc]; have := HSz.out; omega); have k4 := cell_new (wr.alloc (.cells #[.int .i64 1, .string text] 57)) [.string ⟨#[120]⟩] 9 (wr.heap.size + 1) (by simp); go_must (refine wpList_push _ rfl (.tmp 23) (.tmp 24) 23 rfl w.heap.size 9 (.string ⟨#[]⟩) 1 16 Try.underlying23 info_string rfl (by omega) (.slice Ao k co) k _ rfl hh [.string ⟨#[120]⟩] rfl _ rfl k4 (one_str _) k1 k2 k3 ?_); clear hh k1 k2 k3 k4; intro g1 c1 w2 h1 hw1 hg1 hb1)
        go_roundw
        case rel =>
          refine ⟨k + 1, _, c1, by omega, by go_num, rfl, ?_, HB.out.trans ((((Below.refl _ _).alloc HB.out.size _).alloc (by rw [World.size_alloc]; have := HB.out.size; omega) _).trans hb1)⟩
          rw [map_take HN.out, List.map_append]
          simpa [HF.out, mk_toList] using h1
        case measure => simp [intOf]; omega
      · subst h1
        have hx : skel ⟨2, text⟩ = [120] := by unfold skel; simp
        have HX := Lib.hid hx; clear hx
        have HF := Lib.hid (show skel ⟨2, text⟩ = [120] from HX.out)
        go_wp2_with (at_builtin; have hh := (HOwn.out.alloc (.cells #[.int .i64 2, .string text] 57)).alloc (.cells #[.string ⟨#[120]⟩] 9); have k1 : (k + 1) * 16 ≤ 140737488355328 := (by omega); have k2 : k + 1 ≤ maxLen := (by unfold maxLen; omega); have k3 : w.heap.size ≤ ((wr.alloc (.cells #[.int .i64 2, .string text] 57)).alloc (.cells #[.string ⟨#[120]⟩] 9)).heap.size := (by rw [World.size_alloc]; have := HSz.out; omega); have k4 := cell_new (wr.alloc (.cells #[.int .i64 2, .string text] 57)) [.string ⟨#[120]⟩] 9 (wr.heap.size + 1) (by simp); go_must (refine wpList_push _ rfl (.tmp 23) (.tmp 24) 23 rfl w.heap.size 9 (.string ⟨#[]⟩) 1 16 Try.underlying23 info_string rfl (by omega) (.slice Ao k co) k _ rfl hh [.string ⟨#[120]⟩] rfl _ rfl k4 (one_str _) k1 k2 k3 ?_); clear hh k1 k2 k3 k4; intro g1 c1 w2 h1 hw1 hg1 hb1)
        go_roundw
        case rel =>
          refine ⟨k + 1, _, c1, by omega, by go_num, rfl, ?_, HB.out.trans ((((Below.refl _ _).alloc HB.out.size _).alloc (by rw [World.size_alloc]; have := HB.out.size; omega) _).trans hb1)⟩
          rw [map_take HN.out, List.map_append]
          simpa [HF.out, mk_toList] using h1
        case measure => simp [intOf]; omega
      · subst h1
        have hx : skel ⟨3, text⟩ = [120] := by unfold skel; simp
        have HX := Lib.hid hx; clear hx
        have HF := Lib.hid (show skel ⟨3, text⟩ = [120] from HX.out)
        go_wp2_with (at_builtin; have hh := (HOwn.out.alloc (.cells #[.int .i64 3, .string text] 57)).alloc (.cells #[.string ⟨#[120]⟩] 9); have k1 : (k + 1) * 16 ≤ 140737488355328 := (by omega); have k2 : k + 1 ≤ maxLen := (by unfold maxLen; omega); have k3 : w.heap.size ≤ ((wr.alloc (.cells #[.int .i64 3, .string text] 57)).alloc (.cells #[.string ⟨#[120]⟩] 9)).heap.size := (by rw [World.size_alloc]; have := HSz.out; omega); have k4 := cell_new (wr.alloc (.cells #[.int .i64 3, .string text] 57)) [.string ⟨#[120]⟩] 9 (wr.heap.size + 1) (by simp); go_must (refine wpList_push _ rfl (.tmp 23) (.tmp 24) 23 rfl w.heap.size 9 (.string ⟨#[]⟩) 1 16 Try.underlying23 info_string rfl (by omega) (.slice Ao k co) k _ rfl hh [.string ⟨#[120]⟩] rfl _ rfl k4 (one_str _) k1 k2 k3 ?_); clear hh k1 k2 k3 k4; intro g1 c1 w2 h1 hw1 hg1 hb1)
        go_roundw
        case rel =>
          refine ⟨k + 1, _, c1, by omega, by go_num, rfl, ?_, HB.out.trans ((((Below.refl _ _).alloc HB.out.size _).alloc (by rw [World.size_alloc]; have := HB.out.size; omega) _).trans hb1)⟩
          rw [map_take HN.out, List.map_append]
          simpa [HF.out, mk_toList] using h1
        case measure => simp [intOf]; omega
      · subst h1
        have hx : skel ⟨4, text⟩ = [47] := by unfold skel; simp
        have HX := Lib.hid hx; clear hx
        have HF := Lib.hid (show skel ⟨4, text⟩ = [47] from HX.out)
        go_wp2_with (at_builtin; have hh := (HOwn.out.alloc (.cells #[.int .i64 4, .string text] 57)).alloc (.cells #[.string ⟨#[47]⟩] 9); have k1 : (k + 1) * 16 ≤ 140737488355328 := (by omega); have k2 : k + 1 ≤ maxLen := (by unfold maxLen; omega); have k3 : w.heap.size ≤ ((wr.alloc (.cells #[.int .i64 4, .string text] 57)).alloc (.cells #[.string ⟨#[47]⟩] 9)).heap.size := (by rw [World.size_alloc]; have := HSz.out; omega); have k4 := cell_new (wr.alloc (.cells #[.int .i64 4, .string text] 57)) [.string ⟨#[47]⟩] 9 (wr.heap.size + 1) (by simp); go_must (refine wpList_push _ rfl (.tmp 28) (.tmp 29) 23 rfl w.heap.size 9 (.string ⟨#[]⟩) 1 16 Try.underlying23 info_string rfl (by omega) (.slice Ao k co) k _ rfl hh [.string ⟨#[47]⟩] rfl _ rfl k4 (one_str _) k1 k2 k3 ?_); clear hh k1 k2 k3 k4; intro g1 c1 w2 h1 hw1 hg1 hb1)
        go_roundw
        case rel =>
          refine ⟨k + 1, _, c1, by omega, by go_num, rfl, ?_, HB.out.trans ((((Below.refl _ _).alloc HB.out.size _).alloc (by rw [World.size_alloc]; have := HB.out.size; omega) _).trans hb1)⟩
          rw [map_take HN.out, List.map_append]
          simpa [HF.out, mk_toList] using h1
        case measure => simp [intOf]; omega
      · subst h1
        have hx : skel ⟨5, text⟩ = [48] := by unfold skel; simp
        have HX := Lib.hid hx; clear hx
        have HF := Lib.hid (show skel ⟨5, text⟩ = [48] from HX.out)
        go_wp2_with (at_builtin; have hh := (HOwn.out.alloc (.cells #[.int .i64 5, .string text] 57)).alloc (.cells #[.string ⟨#[48]⟩] 9); have k1 : (k + 1) * 16 ≤ 140737488355328 := (by omega); have k2 : k + 1 ≤ maxLen := (by unfold maxLen; omega); have k3 : w.heap.size ≤ ((wr.alloc (.cells #[.int .i64 5, .string text] 57)).alloc (.cells #[.string ⟨#[48]⟩] 9)).heap.size := (by rw [World.size_alloc]; have := HSz.out; omega); have k4 := cell_new (wr.alloc (.cells #[.int .i64 5, .string text] 57)) [.string ⟨#[48]⟩] 9 (wr.heap.size + 1) (by simp); go_must (refine wpList_push _ rfl (.tmp 33) (.tmp 34) 23 rfl w.heap.size 9 (.string ⟨#[]⟩) 1 16 Try.underlying23 info_string rfl (by omega) (.slice Ao k co) k _ rfl hh [.string ⟨#[48]⟩] rfl _ rfl k4 (one_str _) k1 k2 k3 ?_); clear hh k1 k2 k3 k4; intro g1 c1 w2 h1 hw1 hg1 hb1)
        go_roundw
        case rel =>
          refine ⟨k + 1, _, c1, by omega, by go_num, rfl, ?_, HB.out.trans ((((Below.refl _ _).alloc HB.out.size _).alloc (by rw [World.size_alloc]; have := HB.out.size; omega) _).trans hb1)⟩
          rw [map_take HN.out, List.map_append]
          simpa [HF.out, mk_toList] using h1
        case measure => simp [intOf]; omega
      · obtain ⟨d1, d2, d3, d4, d5⟩ := h1
        have hx : skel ⟨ctx, text⟩ = text.data.toList := by unfold skel; simp [d1, d2, d3, d4, d5]
        have HX := Lib.hid hx; clear hx
        have HF := Lib.hid (show skel ⟨ctx, text⟩ = text.data.toList from HX.out)
        go_wp2_with (at_builtin; have hh := (HOwn.out.alloc (.cells #[.int .i64 ctx, .string text] 57)).alloc (.cells #[.string text] 9); have k1 : (k + 1) * 16 ≤ 140737488355328 := (by omega); have k2 : k + 1 ≤ maxLen := (by unfold maxLen; omega); have k3 : w.heap.size ≤ ((wr.alloc (.cells #[.int .i64 ctx, .string text] 57)).alloc (.cells #[.string text] 9)).heap.size := (by rw [World.size_alloc]; have := HSz.out; omega); have k4 := cell_new (wr.alloc (.cells #[.int .i64 ctx, .string text] 57)) [.string text] 9 (wr.heap.size + 1) (by simp); go_must (refine wpList_push _ rfl (.tmp 14) (.tmp 17) 23 rfl w.heap.size 9 (.string ⟨#[]⟩) 1 16 Try.underlying23 info_string rfl (by omega) (.slice Ao k co) k _ rfl hh [.string text] rfl _ rfl k4 (one_str _) k1 k2 k3 ?_); clear hh k1 k2 k3 k4; intro g1 c1 w2 h1 hw1 hg1 hb1)
        go_roundw
        case rel =>
          refine ⟨k + 1, _, c1, by omega, by go_num, rfl, ?_, HB.out.trans ((((Below.refl _ _).alloc HB.out.size _).alloc (by rw [World.size_alloc]; have := HB.out.size; omega) _).trans hb1)⟩
          rw [map_take HN.out, List.map_append]
          simpa [HF.out, mk_toList] using h1
        case measure => simp [intOf]; omega
    · have hke : k = l.length := by omega
      subst hke
      rw [List.take_length] at hown
      have HB := Lib.hid hB; clear hB
      by_cases h0 : l.length = 0
      · have hnil : l = [] := List.eq_nil_of_length_eq_zero h0
        have HNil := Lib.hid hnil; clear hnil hown
        rw [h0]
        go_wp2_with (go_at_call 35; go_must (refine (Try.strings_Join_none _ _ _ _).mono ?_); rintro e w5 ⟨rfl, rfl⟩)
        go_ret
        exact ⟨by rw [HNil.out]; rfl, HB.out⟩
      · have hjn := Lib.hid (Try.strings_Join)
        obtain ⟨Ao', co', e1, hco, hlco, hAo⟩ := own_form hown
        cases e1
        obtain ⟨g, rfl, hBg, hgl⟩ := hAo (by omega)
        have hcells : ∀ (j : Nat) (x : ByteArray), (l.map fun n => (⟨(skel n).toArray⟩ : ByteArray))[j]? = some x → wr.cell? ⟨g, 0 + j, none⟩ = some (.string x) := by
          intro j x hx
          rw [Nat.zero_add]
          refine own_cell hown ?_
          rw [List.getElem?_map, Option.map_eq_some_iff] at hx
          obtain ⟨n, hn, rfl⟩ := hx
          simp [hn]
        have hjoin := Try.strings_Join g 0 co (l.map fun n => (⟨(skel n).toArray⟩ : ByteArray)) ⟨#[]⟩ wr hcells hgl (by rw [List.length_map]; omega) (by rw [List.length_map]; exact hlco)
          (by
            have e : (Lib.join ((l.map fun n => (⟨(skel n).toArray⟩ : ByteArray)).map (·.data.toList)) (⟨#[]⟩ : ByteArray).data.toList) = l.flatMap skel := by
              rw [show (⟨#[]⟩ : ByteArray).data.toList = [] from rfl, join_flat, List.map_map, List.flatMap_def]
              rfl
            rw [e]
            have := flat_len (f := skel) skel_len l
            have h2 : sumBy (fun n => n.text.size + 1) l ≤ 1048576 := hs
            omega)
        have e : (Lib.join ((l.map fun n => (⟨(skel n).toArray⟩ : ByteArray)).map (·.data.toList)) (⟨#[]⟩ : ByteArray).data.toList) = l.flatMap skel := by
          rw [show (⟨#[]⟩ : ByteArray).data.toList = [] from rfl, join_flat, List.map_map, List.flatMap_def]
          rfl
        rw [e, List.length_map] at hjoin
        have HJ := Lib.hid hjoin; clear hjoin e hcells hown hAo hjn
        go_wp2_with (go_at_call 35; go_must (refine HJ.out.mono ?_); rintro e w5 ⟨rfl, hb5⟩; have HB5 := Lib.hid hb5; clear hb5)
        go_ret
        exact ⟨rfl, HB.out.trans (HB5.out.mono HB.out.size)⟩

end Go.Proofs.Ytbkgkmmjlihpeaa
