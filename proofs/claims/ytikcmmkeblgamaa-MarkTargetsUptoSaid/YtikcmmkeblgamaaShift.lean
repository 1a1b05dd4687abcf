/-
  mark.shift (in place), mastref1.Shifted (a copy): the levels of headings moved.
-/
import Derived.Test.YtikcmmkeblgamaaClone
namespace Go.Proofs.Ytikcmmkeblgamaa
open Go.RowKit Go.Deep

/-- a heading's level, moved -/
def levelBy (d k lv : Int) : Int := if k = 1 then min (max (lv + d) 1) 6 else lv

def shifted (d : Int) : List Node → List Node
  | [] => []
  | .mk k lv t ds ti ks :: r => .mk k (levelBy d k lv) t ds ti (shifted d ks) :: shifted d r

def shiftN (d : Int) (n : Node) : Node := .mk n.kind (levelBy d n.kind n.level) n.text n.dest n.title (shifted d n.kids)

theorem shifted_map (d : Int) : ∀ (l : List Node), shifted d l = l.map (shiftN d)
  | [] => by rw [shifted]; rfl
  | .mk k lv t ds ti ks :: r => by rw [shifted, shifted_map d r, List.map_cons]; rfl

theorem shiftN_ok {d : Int} {n : Node} (h : NodeOk n) : NodeOk (shiftN d n) := by
  obtain ⟨a, b, c, e, f⟩ := h
  refine ⟨a, ?_, c, e, f⟩
  show I64 (levelBy d n.kind n.level)
  unfold levelBy I64
  split
  · omega
  · exact b


set_option maxRecDepth 100000 in
set_option maxHeartbeats 2000000 in
theorem shifted_any (d : Int) (hd1 : -5 ≤ d) (hd2 : d ≤ 5) (N : Nat) : ∀ (l : List Node) (v : Value) (w : World), SizeOf.sizeOf l ≤ N → NodesAt w v l → total l ≤ 1073741824 → Leveled l → Calls Try.prog 14 #[v, .int .i64 d] w (Made w (shifted d l)) := by
  induction N with
  | zero =>
    intro l v w hN
    cases l <;> simp at hN
  | succ N ih =>
    intro l v w hN h ht hlv
    obtain ⟨A, c, bl, o, kv, rfl, hlc, hc, hA, hcell, hkid⟩ := h.inv
    unfold maxLen at hc
    have HCell := Lib.hid hcell; clear hcell
    have HKid := Lib.hid hkid; clear hkid
    have HN := Lib.hid hN; clear hN
    have HI := Lib.hid ih; clear ih
    have HLv := Lib.hid hlv; clear hlv
    have hll := total_len l
    clear h
    go_enter Try.func14, Try.ntmps14
    go_wp2_with fail
    go_loopw [5, 10] (fun t3 t wr => ∃ (k : Nat) (Ao : Option Addr) (co : Nat) (ps : List Part), k ≤ l.length ∧ t = .int .i64 k ∧ t3 = .slice Ao k co ∧ Hid (ps.map (·.n) = shifted d (l.take k)) ∧ Hid (Parts wr w.heap.size (span w.heap.size wr.heap.size) (.slice Ao k co) ps) ∧ Below w.heap.size w wr) (fun _ t _ => l.length - (intOf t).toNat)
    case atStart => exact ⟨0, none, 0, [], Nat.zero_le _, rfl, rfl, (show List.map _ _ = _ by rw [List.take_zero, shifted]; rfl), Parts.nil _ _ _, Below.refl _ _⟩
    case round =>
      obtain ⟨k, Ao, co, ps, hk, rfl, rfl, hps, hparts, hww⟩ := hrel
      by_cases hlt : k < l.length
      · have hA' := hA (by rintro rfl; simp at hlt)
        subst hA'
        obtain ⟨n, hn⟩ : ∃ n, l[k]? = some n := ⟨_, List.getElem?_eq_getElem hlt⟩
        obtain ⟨p0, p1, p2, p3, p4, p5, q0, q1, q2, q3, q4⟩ := (HCell.out k n hn).keep (Keeps.of_below hww)
        have HOk := Lib.hid (shiftN_ok (d := d) (n := n) ⟨q0, q1, q2, q3, q4⟩)
        clear q0 q1 q2 q3 q4
        have bb := World.block_lt_of_cell? _ _ p5
        simp only at bb
        have hkid := HKid.out k n hn
        obtain ⟨A3, c3, b3, o3, k3, e3, _, _, _, _, _⟩ := hkid.inv
        rw [e3] at hkid p5
        obtain ⟨⟨lv1, lv2⟩, lv3, lv4⟩ := HLv.out.at_ hn
        have HL4 := Lib.hid lv4; clear lv4
        have HSz := Lib.hid (size_at HN.out hn)
        have htk := total_take hn
        have htl := total_le l (k + 1)
        have hkt : total n.kids ≤ 1073741824 := by omega
        have hpl : ps.length = k := by have := congrArg List.length hps.out; rw [shifted_map] at this; simp at this; omega
        subst hpl
        have HTk := Lib.hid (show shifted d (l.take (ps.length + 1)) = shifted d (l.take ps.length) ++ [shiftN d n] by
          obtain ⟨h1, rfl⟩ := List.getElem?_eq_some_iff.1 hn
          rw [List.take_succ_eq_append_getElem h1, shifted_map, List.map_append, ← shifted_map]; rfl)
        clear hn hA e3 htk htl
        have hsz := hww.size
        have HW := Lib.hid hww; clear hww
        by_cases h1 : n.kind = 1

        · have hl1 := lv3 h1
          have hB : (n.kind == 1) = true := by simp [h1]
          have hLB : levelBy d n.kind n.level = min (max (n.level + d) 1) 6 := by unfold levelBy; rw [if_pos h1]
          clear h1 lv3
          have HT0 := Lib.hid (HTk.out.trans (show _ = shifted d (l.take ps.length) ++ [(Node.mk n.kind (min (max (n.level + d) 1) 6) n.text n.dest n.title (shifted d n.kids))] by rw [show shiftN d n = (Node.mk n.kind (min (max (n.level + d) 1) 6) n.text n.dest n.title (shifted d n.kids)) by unfold shiftN; rw [hLB]]))
          have HOk2 := Lib.hid (show NodeOk (Node.mk n.kind (min (max (n.level + d) 1) 6) n.text n.dest n.title (shifted d n.kids)) by have := HOk.out; rw [show shiftN d n = (Node.mk n.kind (min (max (n.level + d) 1) 6) n.text n.dest n.title (shifted d n.kids)) by unfold shiftN; rw [hLB]] at this; exact this)
          clear hLB
          have HK := Lib.hid ((hkid.keep (Keeps.of_below HW.out)).keep (Keeps.alloc _ (nodeBox (Node.mk n.kind (min (max (n.level + d) 1) 6) n.text n.dest n.title (shifted d n.kids)) (.slice A3 n.kids.length c3)))); clear hkid
          have HB := Lib.hid (HW.out.alloc hsz (nodeBox (Node.mk n.kind (min (max (n.level + d) 1) 6) n.text n.dest n.title (shifted d n.kids)) (.slice A3 n.kids.length c3)))
          go_wp2_with fail
          go_must (refine (HI.out n.kids _ _ HSz.out HK.out hkt HL4.out).mono ?_)
          rintro e w1 ⟨u, rfl, hT, hb1⟩
          obtain ⟨A5, c5, hu⟩ := hT.slice
          rw [shifted_map, List.length_map] at hu
          subst hu
          have R0 := (hb1.cell (p := ⟨wr.heap.size, 0, none⟩) (by simp)).trans (cell_new wr (nodeVals (Node.mk n.kind (min (max (n.level + d) 1) 6) n.text n.dest n.title (shifted d n.kids)) (.slice A3 n.kids.length c3)) _ _ rfl 0 _ rfl)
          have R1 := (hb1.cell (p := ⟨wr.heap.size, 1, none⟩) (by simp)).trans (cell_new wr (nodeVals (Node.mk n.kind (min (max (n.level + d) 1) 6) n.text n.dest n.title (shifted d n.kids)) (.slice A3 n.kids.length c3)) _ _ rfl 1 _ rfl)
          have R2 := (hb1.cell (p := ⟨wr.heap.size, 2, none⟩) (by simp)).trans (cell_new wr (nodeVals (Node.mk n.kind (min (max (n.level + d) 1) 6) n.text n.dest n.title (shifted d n.kids)) (.slice A3 n.kids.length c3)) _ _ rfl 2 _ rfl)
          have R3 := (hb1.cell (p := ⟨wr.heap.size, 3, none⟩) (by simp)).trans (cell_new wr (nodeVals (Node.mk n.kind (min (max (n.level + d) 1) 6) n.text n.dest n.title (shifted d n.kids)) (.slice A3 n.kids.length c3)) _ _ rfl 3 _ rfl)
          have R4 := (hb1.cell (p := ⟨wr.heap.size, 4, none⟩) (by simp)).trans (cell_new wr (nodeVals (Node.mk n.kind (min (max (n.level + d) 1) 6) n.text n.dest n.title (shifted d n.kids)) (.slice A3 n.kids.length c3)) _ _ rfl 4 _ rfl)
          have R5 := (hb1.cell (p := ⟨wr.heap.size, 5, none⟩) (by simp)).trans (cell_new wr (nodeVals (Node.mk n.kind (min (max (n.level + d) 1) 6) n.text n.dest n.title (shifted d n.kids)) (.slice A3 n.kids.length c3)) _ _ rfl 5 _ rfl)
          have F5 := (hb1.frozen (p := ⟨wr.heap.size, 5, none⟩) (by simp)).trans (show (wr.alloc (nodeBox (Node.mk n.kind (min (max (n.level + d) 1) 6) n.text n.dest n.title (shifted d n.kids)) (.slice A3 n.kids.length c3))).frozen? ⟨wr.heap.size, 5, none⟩ = false by go_simp)
          simp only [Node.kind, Node.level, Node.text, Node.dest, Node.title] at R0 R1 R2 R3 R4 R5
          have hz1 := hb1.size
          simp only [World.size_alloc] at hz1
          have hh0 : ∀ (o : Obj) (b : Nat), b < wr.heap.size → ((w1.setCell ⟨wr.heap.size, 5, none⟩ (.slice A5 n.kids.length c5)).alloc o).heap[b]? = wr.heap[b]? := fun o b hb => by
            rw [Below.heap_alloc _ _ _ (by simp [World.setCell]; omega), Below.heap_setCell _ _ _ _ (by simp; omega), hb1.block b (by simp; omega), Below.heap_alloc _ _ _ hb]
          have hh1 : ∀ (o : Obj) (b : Nat), wr.heap.size + 1 ≤ b → b < w1.heap.size → ((w1.setCell ⟨wr.heap.size, 5, none⟩ (.slice A5 n.kids.length c5)).alloc o).heap[b]? = w1.heap[b]? := fun o b hb hb2 => by
            rw [Below.heap_alloc _ _ _ (by simp [World.setCell]; omega), Below.heap_setCell _ _ _ _ (by simp; omega)]
          have HO := Lib.hid (hparts.out.later (hh0 (nodeBox (Node.mk n.kind (min (max (n.level + d) 1) 6) n.text n.dest n.title (shifted d n.kids)) (.slice A5 n.kids.length c5)))).own
          have HH0 := Lib.hid (hh0 (nodeBox (Node.mk n.kind (min (max (n.level + d) 1) 6) n.text n.dest n.title (shifted d n.kids)) (.slice A5 n.kids.length c5))); clear hh0
          have HH1 := Lib.hid (hh1 (nodeBox (Node.mk n.kind (min (max (n.level + d) 1) 6) n.text n.dest n.title (shifted d n.kids)) (.slice A5 n.kids.length c5))); clear hh1
          have HT := Lib.hid hT; clear hT
          have HB1 := Lib.hid (((HB.out.trans (hb1.mono HB.out.size)).setCell (p := ⟨wr.heap.size, 5, none⟩) hsz (.slice A5 n.kids.length c5)).alloc (Nat.le_trans hsz (by simp [World.setCell]; omega)) (nodeBox (Node.mk n.kind (min (max (n.level + d) 1) 6) n.text n.dest n.title (shifted d n.kids)) (.slice A5 n.kids.length c5))); clear hb1
          go_wp2_with (at_builtin; have hh := HO.out; have k1 : (ps.length + 1) * 88 ≤ 140737488355328 := (by omega); have k2 : ps.length + 1 ≤ maxLen := (by unfold maxLen; omega); have k3 := HB1.out.size; have k4 := cell_new (w1.setCell ⟨wr.heap.size, 5, none⟩ (.slice A5 n.kids.length c5)) (nodeVals (Node.mk n.kind (min (max (n.level + d) 1) 6) n.text n.dest n.title (shifted d n.kids)) (.slice A5 n.kids.length c5)) 75 w1.heap.size (by simp [World.setCell]); go_must (refine wpList_push _ rfl (.tmp 29) (.tmp 31) 31 rfl w.heap.size 75 _ 6 88 Try.underlying31 info_node rfl (by omega) (.slice Ao ps.length co) ps.length _ rfl hh (nodeVals (Node.mk n.kind (min (max (n.level + d) 1) 6) n.text n.dest n.title (shifted d n.kids)) (.slice A5 n.kids.length c5)) rfl _ rfl k4 (six_cells _ _ rfl) k1 k2 k3 ?_); clear hh k1 k2 k3 k4; intro g1 c1 w2 h1 hw1 hg1 hb1)
          go_roundw
          case rel =>
            exact ⟨ps.length + 1, some ⟨g1, 0, none⟩, c1, ps ++ [⟨(Node.mk n.kind (min (max (n.level + d) 1) 6) n.text n.dest n.title (shifted d n.kids)), .slice A5 n.kids.length c5, span (wr.heap.size + 1) w1.heap.size⟩], by omega, by go_num, rfl, by show List.map _ _ = _; rw [List.map_append, hps.out, HT0.out]; rfl,
              Lib.hid (hparts.out.grow hsz HOk2.out (by have := HT.out; simp only [World.size_alloc] at this; exact this) HH0.out HH1.out (by simp [World.setCell]) (by omega) h1 hw1 hg1), HB1.out.trans hb1⟩
          case measure => simp [intOf]; omega

        · have hB : (n.kind == 1) = false := by simp [h1]
          have hLB : levelBy d n.kind n.level = n.level := by unfold levelBy; rw [if_neg h1]
          clear h1 lv3
          have HT0 := Lib.hid (HTk.out.trans (show _ = shifted d (l.take ps.length) ++ [(Node.mk n.kind n.level n.text n.dest n.title (shifted d n.kids))] by rw [show shiftN d n = (Node.mk n.kind n.level n.text n.dest n.title (shifted d n.kids)) by unfold shiftN; rw [hLB]]))
          have HOk2 := Lib.hid (show NodeOk (Node.mk n.kind n.level n.text n.dest n.title (shifted d n.kids)) by have := HOk.out; rw [show shiftN d n = (Node.mk n.kind n.level n.text n.dest n.title (shifted d n.kids)) by unfold shiftN; rw [hLB]] at this; exact this)
          clear hLB
          have HK := Lib.hid ((hkid.keep (Keeps.of_below HW.out)).keep (Keeps.alloc _ (nodeBox (Node.mk n.kind n.level n.text n.dest n.title (shifted d n.kids)) (.slice A3 n.kids.length c3)))); clear hkid
          have HB := Lib.hid (HW.out.alloc hsz (nodeBox (Node.mk n.kind n.level n.text n.dest n.title (shifted d n.kids)) (.slice A3 n.kids.length c3)))
          go_wp2_with fail
          go_must (refine (HI.out n.kids _ _ HSz.out HK.out hkt HL4.out).mono ?_)
          rintro e w1 ⟨u, rfl, hT, hb1⟩
          obtain ⟨A5, c5, hu⟩ := hT.slice
          rw [shifted_map, List.length_map] at hu
          subst hu
          have R0 := (hb1.cell (p := ⟨wr.heap.size, 0, none⟩) (by simp)).trans (cell_new wr (nodeVals (Node.mk n.kind n.level n.text n.dest n.title (shifted d n.kids)) (.slice A3 n.kids.length c3)) _ _ rfl 0 _ rfl)
          have R1 := (hb1.cell (p := ⟨wr.heap.size, 1, none⟩) (by simp)).trans (cell_new wr (nodeVals (Node.mk n.kind n.level n.text n.dest n.title (shifted d n.kids)) (.slice A3 n.kids.length c3)) _ _ rfl 1 _ rfl)
          have R2 := (hb1.cell (p := ⟨wr.heap.size, 2, none⟩) (by simp)).trans (cell_new wr (nodeVals (Node.mk n.kind n.level n.text n.dest n.title (shifted d n.kids)) (.slice A3 n.kids.length c3)) _ _ rfl 2 _ rfl)
          have R3 := (hb1.cell (p := ⟨wr.heap.size, 3, none⟩) (by simp)).trans (cell_new wr (nodeVals (Node.mk n.kind n.level n.text n.dest n.title (shifted d n.kids)) (.slice A3 n.kids.length c3)) _ _ rfl 3 _ rfl)
          have R4 := (hb1.cell (p := ⟨wr.heap.size, 4, none⟩) (by simp)).trans (cell_new wr (nodeVals (Node.mk n.kind n.level n.text n.dest n.title (shifted d n.kids)) (.slice A3 n.kids.length c3)) _ _ rfl 4 _ rfl)
          have R5 := (hb1.cell (p := ⟨wr.heap.size, 5, none⟩) (by simp)).trans (cell_new wr (nodeVals (Node.mk n.kind n.level n.text n.dest n.title (shifted d n.kids)) (.slice A3 n.kids.length c3)) _ _ rfl 5 _ rfl)
          have F5 := (hb1.frozen (p := ⟨wr.heap.size, 5, none⟩) (by simp)).trans (show (wr.alloc (nodeBox (Node.mk n.kind n.level n.text n.dest n.title (shifted d n.kids)) (.slice A3 n.kids.length c3))).frozen? ⟨wr.heap.size, 5, none⟩ = false by go_simp)
          simp only [Node.kind, Node.level, Node.text, Node.dest, Node.title] at R0 R1 R2 R3 R4 R5
          have hz1 := hb1.size
          simp only [World.size_alloc] at hz1
          have hh0 : ∀ (o : Obj) (b : Nat), b < wr.heap.size → ((w1.setCell ⟨wr.heap.size, 5, none⟩ (.slice A5 n.kids.length c5)).alloc o).heap[b]? = wr.heap[b]? := fun o b hb => by
            rw [Below.heap_alloc _ _ _ (by simp [World.setCell]; omega), Below.heap_setCell _ _ _ _ (by simp; omega), hb1.block b (by simp; omega), Below.heap_alloc _ _ _ hb]
          have hh1 : ∀ (o : Obj) (b : Nat), wr.heap.size + 1 ≤ b → b < w1.heap.size → ((w1.setCell ⟨wr.heap.size, 5, none⟩ (.slice A5 n.kids.length c5)).alloc o).heap[b]? = w1.heap[b]? := fun o b hb hb2 => by
            rw [Below.heap_alloc _ _ _ (by simp [World.setCell]; omega), Below.heap_setCell _ _ _ _ (by simp; omega)]
          have HO := Lib.hid (hparts.out.later (hh0 (nodeBox (Node.mk n.kind n.level n.text n.dest n.title (shifted d n.kids)) (.slice A5 n.kids.length c5)))).own
          have HH0 := Lib.hid (hh0 (nodeBox (Node.mk n.kind n.level n.text n.dest n.title (shifted d n.kids)) (.slice A5 n.kids.length c5))); clear hh0
          have HH1 := Lib.hid (hh1 (nodeBox (Node.mk n.kind n.level n.text n.dest n.title (shifted d n.kids)) (.slice A5 n.kids.length c5))); clear hh1
          have HT := Lib.hid hT; clear hT
          have HB1 := Lib.hid (((HB.out.trans (hb1.mono HB.out.size)).setCell (p := ⟨wr.heap.size, 5, none⟩) hsz (.slice A5 n.kids.length c5)).alloc (Nat.le_trans hsz (by simp [World.setCell]; omega)) (nodeBox (Node.mk n.kind n.level n.text n.dest n.title (shifted d n.kids)) (.slice A5 n.kids.length c5))); clear hb1
          go_wp2_with (at_builtin; have hh := HO.out; have k1 : (ps.length + 1) * 88 ≤ 140737488355328 := (by omega); have k2 : ps.length + 1 ≤ maxLen := (by unfold maxLen; omega); have k3 := HB1.out.size; have k4 := cell_new (w1.setCell ⟨wr.heap.size, 5, none⟩ (.slice A5 n.kids.length c5)) (nodeVals (Node.mk n.kind n.level n.text n.dest n.title (shifted d n.kids)) (.slice A5 n.kids.length c5)) 75 w1.heap.size (by simp [World.setCell]); go_must (refine wpList_push _ rfl (.tmp 29) (.tmp 31) 31 rfl w.heap.size 75 _ 6 88 Try.underlying31 info_node rfl (by omega) (.slice Ao ps.length co) ps.length _ rfl hh (nodeVals (Node.mk n.kind n.level n.text n.dest n.title (shifted d n.kids)) (.slice A5 n.kids.length c5)) rfl _ rfl k4 (six_cells _ _ rfl) k1 k2 k3 ?_); clear hh k1 k2 k3 k4; intro g1 c1 w2 h1 hw1 hg1 hb1)
          go_roundw
          case rel =>
            exact ⟨ps.length + 1, some ⟨g1, 0, none⟩, c1, ps ++ [⟨(Node.mk n.kind n.level n.text n.dest n.title (shifted d n.kids)), .slice A5 n.kids.length c5, span (wr.heap.size + 1) w1.heap.size⟩], by omega, by go_num, rfl, by show List.map _ _ = _; rw [List.map_append, hps.out, HT0.out]; rfl,
              Lib.hid (hparts.out.grow hsz HOk2.out (by have := HT.out; simp only [World.size_alloc] at this; exact this) HH0.out HH1.out (by simp [World.setCell]) (by omega) h1 hw1 hg1), HB1.out.trans hb1⟩
          case measure => simp [intOf]; omega

      · have hke : l.take k = l := by rw [List.take_of_length_le (by omega)]
        go_wp2_with fail
        go_ret
        refine ⟨_, rfl, ?_, hww⟩
        rw [← hke, ← hps.out]
        exact hparts.out.tree

/-- only the blocks of P have turned -/
structure Only (P : Nat → Prop) (w w' : World) : Prop where
  os : w'.os = w.os
  tape : w'.tape = w.tape
  output : w'.output = w.output
  size : w'.heap.size = w.heap.size
  block : ∀ b, ¬ P b → w'.heap[b]? = w.heap[b]?

theorem Only.refl (P : Nat → Prop) (w : World) : Only P w w := ⟨rfl, rfl, rfl, rfl, fun _ _ => rfl⟩
theorem Only.trans {P : Nat → Prop} {a b c : World} (h : Only P a b) (k : Only P b c) : Only P a c :=
  ⟨k.os.trans h.os, k.tape.trans h.tape, k.output.trans h.output, k.size.trans h.size, fun x hx => (k.block x hx).trans (h.block x hx)⟩
theorem Only.mono {P Q : Nat → Prop} {a b : World} (h : Only P a b) (hPQ : ∀ x, P x → Q x) : Only Q a b := ⟨h.os, h.tape, h.output, h.size, fun x hx => h.block x (fun y => hx (hPQ x y))⟩
theorem Only.setCell {P : Nat → Prop} {a b : World} (h : Only P a b) {p : Addr} (hp : P p.block) (u : Value) : Only P a (b.setCell p u) :=
  ⟨h.os, h.tape, h.output, by simpa [World.setCell] using h.size, fun x hx => (Below.heap_setCell b p u x (fun e => hx (e ▸ hp))).trans (h.block x hx)⟩
theorem Only.below {P : Nat → Prop} {B : Nat} {a b c : World} (h : Below B a b) (k : Only P b c) (hP : ∀ x, P x → B ≤ x) : Below B a c :=
  ⟨k.os.trans h.os, k.tape.trans h.tape, k.output.trans h.output, Nat.le_trans h.size (Nat.le_of_eq k.size.symm), fun x hx => (k.block x (fun y => by have := hP x y; omega)).trans (h.block x hx)⟩

theorem flat_same : ∀ {a : List Part} {i : Nat} {p p' : Part}, a[i]? = some p → nodeVals p'.n p'.kv = nodeVals p.n p.kv → flat (a.set i p') = flat a
  | p :: r, 0, q, p', h, he => by
    simp at h; subst h
    rw [List.set_cons_zero, flat, flat, he]
  | p :: r, i + 1, q, p', h, he => by
    rw [List.set_cons_succ, flat, flat, flat_same (by simpa using h) he]

/-- behind a round in place -/
theorem Parts.turned {wr w2 w3 : World} {B : Nat} {P : Nat → Prop} {g c k : Nat} {ps : List Part} {p : Part} {n' : Node} (h : Parts wr B P (.slice (some ⟨g, 0, none⟩) ps.length c) ps) (hp : ps[k]? = some p) (hok : NodeOk n')
    (own2 : w2.ownsRow B 75 6 (.slice (some ⟨g, 0, none⟩) ps.length c) ps.length (flat (ps.set k ⟨n', p.kv, p.q⟩))) (h2 : Only (fun b => b = g) wr w2) (hkid : TreeAt w3 B p.q p.kv n'.kids) (h3 : Only p.q w2 w3) :
    Parts w3 B P (.slice (some ⟨g, 0, none⟩) ps.length c) (ps.set k ⟨n', p.kv, p.q⟩) := by
  have hpm := List.mem_of_getElem? hp
  have hgq : ¬ p.q g := fun hq => (h.hs p hpm g hq).2 rfl
  refine h.turn hp hok (own_agree own2 fun x hx => ?_) hkid (fun b hb hb2 hb3 => ?_)
  · simp only [Value.ownBlock, Option.some.injEq] at hx
    subst hx
    exact h3.block _ hgq
  · rw [h3.block b hb3]
    exact h2.block b (fun e => hb2 (by subst e; rfl))

/-- a tree turned in place -/
def Turned (B : Nat) (P : Nat → Prop) (v : Value) (l : List Node) (w : World) (e : Ending) (w' : World) : Prop := e = .returned (.tuple #[]) ∧ TreeAt w' B P v l ∧ Only P w w'

theorem list_step {α β : Type} {f g : α → β} {xs : List α} {ys : List β} {k : Nat} {a : α} (h : ys = (xs.take k).map f ++ (xs.drop k).map g) (ha : xs[k]? = some a) :
    ys[k]? = some (g a) ∧ ys.set k (f a) = (xs.take (k + 1)).map f ++ (xs.drop (k + 1)).map g := by
  obtain ⟨hk, rfl⟩ := List.getElem?_eq_some_iff.1 ha
  have hl : ((xs.take k).map f).length = k := by simp; omega
  subst h
  rw [List.drop_eq_getElem_cons hk, List.take_succ_eq_append_getElem hk]
  constructor
  · rw [List.getElem?_append_right (by omega), hl, Nat.sub_self, List.map_cons, List.getElem?_cons_zero]
  · rw [List.set_append_right _ _ (by omega), hl, Nat.sub_self, List.map_cons, List.set_cons_zero, List.map_append, List.append_assoc]; rfl

set_option maxRecDepth 100000 in
set_option maxHeartbeats 2000000 in
theorem shift_any (d : Int) (hd1 : -5 ≤ d) (hd2 : d ≤ 5) (N : Nat) : ∀ (l : List Node) (B : Nat) (P : Nat → Prop) (v : Value) (w : World), SizeOf.sizeOf l ≤ N → TreeAt w B P v l → total l ≤ 1073741824 → Leveled l →
    Calls Try.prog 39 #[v, .int .i64 d] w (Turned B P v (shifted d l) w) := by
  induction N with
  | zero =>
    intro l B P v w hN
    cases l <;> simp at hN
  | succ N ih =>
    intro l B P v w hN h ht hlv
    obtain ⟨ps, hps0, hparts0⟩ := h.inv
    obtain ⟨A, c, rfl, hc1, hc2, hc3⟩ := own_form hparts0.own
    have hlen : ps.length = l.length := by rw [hps0]; simp
    have hll := total_len l
    have HN := Lib.hid hN; clear hN
    have HI := Lib.hid ih; clear ih
    have HLv := Lib.hid hlv; clear hlv
    have HPs := Lib.hid hps0; clear hps0
    have HParts := Lib.hid hparts0; clear hparts0
    have HA := Lib.hid hc3; clear hc3
    have hlen2 : ps.length ≤ 1073741824 := by omega
    have HLen := Lib.hid hlen; clear hlen
    unfold maxLen at hc1
    clear h
    go_enter Try.func39, Try.ntmps39
    go_wp2_with fail
    go_loopw [7] (fun t wr => ∃ (k : Nat) (qs : List Part), k ≤ ps.length ∧ t = .int .i64 k ∧ Hid (qs.map (·.n) = (l.take k).map (shiftN d) ++ (l.drop k).map id) ∧ Hid (Parts wr B P (.slice A ps.length c) qs) ∧ Hid (Only P w wr)) (fun t _ => ps.length - (intOf t).toNat)
    case atStart => exact ⟨0, ps, Nat.zero_le _, rfl, (show List.map _ _ = _ by rw [← HPs.out]; simp), HParts.out, Only.refl _ _⟩
    case round =>
      obtain ⟨k, qs, hk, rfl, hqs, hparts, hww⟩ := hrel
      have hql : qs.length = ps.length := by have := congrArg List.length hqs.out; have h2 := HLen.out; simp at this; omega
      by_cases hlt : k < ps.length
      · obtain ⟨g, hA, hBg, hgl⟩ := HA.out (by omega)
        subst hA
        obtain ⟨n, hn⟩ : ∃ n, l[k]? = some n := ⟨_, List.getElem?_eq_getElem (by have := HLen.out; omega)⟩
        obtain ⟨hy1, hy2⟩ := list_step hqs.out hn
        rw [List.getElem?_map, Option.map_eq_some_iff] at hy1
        obtain ⟨p, hp, hpn⟩ := hy1
        have hpn : p.n = n := hpn
        have hP := hparts.out
        rw [← hql] at hP
        have key : ∀ j, j < 6 → wr.cell? ⟨g, k * 6 + j, none⟩ = (nodeVals n p.kv)[j]? := by
          intro j hj
          rw [hP.own.cellAt (k * 6 + j) (by omega), flat_get hp j hj, hpn]
        have p0 := key 0 (by omega)
        have p1 := key 1 (by omega)
        have p5 := key 5 (by omega)
        have f1 := hP.own.frozenAt (k * 6 + 1)
        simp only [nodeVals, List.getElem?_cons_zero, List.getElem?_cons_succ, Nat.add_zero] at p0 p1 p5
        clear key
        have hT := hP.hk p (List.mem_of_getElem? hp)
        rw [hpn] at hT
        obtain ⟨A3, c3, e3⟩ := hT.slice
        rw [e3] at hT p5
        have bb := World.block_lt_of_cell? _ _ p5
        simp only at bb
        have hok : NodeOk n := by have := hP.hn p (List.mem_of_getElem? hp); rw [hpn] at this; exact this
        obtain ⟨⟨lv1, lv2⟩, lv3, lv4⟩ := HLv.out.at_ hn
        have HL4 := Lib.hid lv4; clear lv4
        have HSz := Lib.hid (size_at HN.out hn)
        have htk := total_take hn
        have htl := total_le l (k + 1)
        have hkt : total n.kids ≤ 1073741824 := by omega
        have HOk := Lib.hid (shiftN_ok (d := d) hok); clear hok
        have HY2 := Lib.hid hy2; clear hy2
        have HPn := Lib.hid hpn; clear hpn
        have HP := Lib.hid hP; clear hP
        have Hp := Lib.hid hp; clear hp
        have HT := Lib.hid hT; clear hT
        have HE3 := Lib.hid e3; clear e3
        have HQl := Lib.hid hql; clear hql
        clear hn htk htl
        by_cases h1 : n.kind = 1
        · have hl1 := lv3 h1
          have hB : (n.kind == 1) = true := by simp [h1]
          have HLB := Lib.hid (show levelBy d n.kind n.level = min (max (n.level + d) 1) 6 by unfold levelBy; rw [if_pos h1])
          clear h1 lv3
          have HO2 := Lib.hid (show (wr.setCell ⟨g, k * 6 + 1, none⟩ (.int .i64 (min (max (n.level + d) 1) 6))).ownsRow B 75 6 (.slice (some ⟨g, 0, none⟩) qs.length c) qs.length (flat (qs.set k ⟨shiftN d n, p.kv, p.q⟩)) by
            rw [flat_set (p' := ⟨shiftN d n, p.kv, p.q⟩) (j := 1) (u := .int .i64 (min (max (n.level + d) 1) 6)) Hp.out (by omega) (by rw [HPn.out, ← HLB.out]; rfl)]
            exact (HP.out.own.stored (k * 6 + 1) _).1)
          have H2 := Lib.hid (show Only (fun b => b = g) wr (wr.setCell ⟨g, k * 6 + 1, none⟩ (.int .i64 (min (max (n.level + d) 1) 6))) from (Only.refl (fun b => b = g) wr).setCell (p := ⟨g, k * 6 + 1, none⟩) rfl _)
          have HT2 := Lib.hid (HT.out.keep fun b hb => H2.out.block b (fun e => (HP.out.hs p (List.mem_of_getElem? Hp.out) b hb).2 (by subst e; rfl)))
          go_wp2_with fail
          go_must (refine (HI.out n.kids B p.q _ _ HSz.out HT2.out hkt HL4.out).mono ?_)
          rintro e w3 ⟨rfl, hT3, hO3⟩
          rw [← HE3.out] at hT3
          have HR := Lib.hid (HP.out.turned Hp.out HOk.out HO2.out H2.out hT3 hO3)
          have HW := Lib.hid ((hww.out.trans (H2.out.mono fun x hx => by subst hx; exact HP.out.hP _ rfl)).trans (hO3.mono fun x hx => (HP.out.hs p (List.mem_of_getElem? Hp.out) x hx).1))
          clear hT3 hO3
          go_wp2_with fail
          go_roundw
          case rel =>
            refine ⟨k + 1, qs.set k ⟨shiftN d n, p.kv, p.q⟩, by omega, by go_num, ?_, ?_, HW⟩
            · show List.map _ _ = _
              rw [List.map_set]
              exact HY2.out
            · have := HR.out
              rw [HQl.out] at this
              exact this
          case measure => simp [intOf]; omega
        · have hB : (n.kind == 1) = false := by simp [h1]
          have HLB := Lib.hid (show levelBy d n.kind n.level = n.level by unfold levelBy; rw [if_neg h1])
          clear h1 lv3
          have HO2 := Lib.hid (show wr.ownsRow B 75 6 (.slice (some ⟨g, 0, none⟩) qs.length c) qs.length (flat (qs.set k ⟨shiftN d n, p.kv, p.q⟩)) by
            rw [flat_same (p' := ⟨shiftN d n, p.kv, p.q⟩) Hp.out (by rw [HPn.out]; show [_, Value.int .i64 (levelBy d n.kind n.level), _, _, _, _] = _; rw [HLB.out]; rfl)]
            exact HP.out.own)
          have H2 := Lib.hid (Only.refl (fun b => b = g) wr)
          have HT2 := Lib.hid HT.out
          go_wp2_with fail
          go_must (refine (HI.out n.kids B p.q _ _ HSz.out HT2.out hkt HL4.out).mono ?_)
          rintro e w3 ⟨rfl, hT3, hO3⟩
          rw [← HE3.out] at hT3
          have HR := Lib.hid (HP.out.turned Hp.out HOk.out HO2.out H2.out hT3 hO3)
          have HW := Lib.hid ((hww.out.trans (H2.out.mono fun x hx => by subst hx; exact HP.out.hP _ rfl)).trans (hO3.mono fun x hx => (HP.out.hs p (List.mem_of_getElem? Hp.out) x hx).1))
          clear hT3 hO3
          go_wp2_with fail
          go_roundw
          case rel =>
            refine ⟨k + 1, qs.set k ⟨shiftN d n, p.kv, p.q⟩, by omega, by go_num, ?_, ?_, HW⟩
            · show List.map _ _ = _
              rw [List.map_set]
              exact HY2.out
            · have := HR.out
              rw [HQl.out] at this
              exact this
          case measure => simp [intOf]; omega
      · have hke : k = l.length := by have := HLen.out; omega
        have HF := Lib.hid (show List.map (·.n) qs = shifted d l by rw [hqs.out, hke, shifted_map, List.drop_length, List.take_length, List.map_nil, List.append_nil])
        go_wp2_with fail
        go_end0
        refine ⟨rfl, ?_, hww.out⟩
        rw [← HF.out]
        exact hparts.out.tree

end Go.Proofs.Ytikcmmkeblgamaa
