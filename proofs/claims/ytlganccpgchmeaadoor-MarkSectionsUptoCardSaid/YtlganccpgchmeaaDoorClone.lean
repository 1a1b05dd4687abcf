/-
  mark.clone: a document copied into the call's own memory.
-/
import Derived.Test.YtlganccpgchmeaaDoorCheck7
import Derived.Test.YtlganccpgchmeaaDoorTree
namespace Go.Proofs.YtlganccpgchmeaaDoor
open Go.RowKit Go.Deep

theorem info_node : (Tryd.prog.info? 31).map (fun i => (i.zero, i.size, i.bytes)) = some (some (.agg #[.int .i64 0, .int .i64 0, .string ⟨#[]⟩, .string ⟨#[]⟩, .string ⟨#[]⟩, .slice none 0 0]), 6, 88) := by kernel_rfl

/-- a tree of the call's own, and old memory as it was -/
def Made (w : World) (l : List Node) (e : Ending) (w' : World) : Prop := ∃ u, e = .returned u ∧ TreeAt w' w.heap.size (span w.heap.size w'.heap.size) u l ∧ Below w.heap.size w w'

theorem six_cells (n : Node) (u : Value) (hu : u.oneCell' = true) : ∀ x ∈ nodeVals n u, x.oneCell' = true := by
  intro x hx
  simp only [nodeVals, List.mem_cons, List.not_mem_nil, or_false] at hx
  rcases hx with rfl | rfl | rfl | rfl | rfl | rfl <;> first | rfl | exact hu

theorem TreeAt.slice {w : World} {B : Nat} {P : Nat → Prop} {v : Value} {l : List Node} (h : TreeAt w B P v l) : ∃ A c, v = .slice A l.length c := by
  obtain ⟨ps, rfl, hq⟩ := h.inv
  obtain ⟨A, c, rfl, _⟩ := own_form hq.own
  exact ⟨A, c, by simp⟩

set_option maxRecDepth 100000 in
set_option maxHeartbeats 2000000 in
theorem clone_any (N : Nat) : ∀ (l : List Node) (v : Value) (w : World), SizeOf.sizeOf l ≤ N → NodesAt w v l → total l ≤ 1073741824 → Calls Tryd.prog 28 #[v] w (Made w l) := by
  induction N with
  | zero =>
    intro l v w hN
    cases l <;> simp at hN
  | succ N ih =>
    intro l v w hN h ht
    obtain ⟨A, c, bl, o, kv, rfl, hlc, hc, hA, hcell, hkid⟩ := h.inv
    unfold maxLen at hc
    have HCell := Lib.hid hcell; clear hcell
    have HKid := Lib.hid hkid; clear hkid
    have HN := Lib.hid hN; clear hN
    have HI := Lib.hid ih; clear ih
    have hll := total_len l
    clear h
    go_enter Tryd.func28, Tryd.ntmps28
    go_wp2_with fail
    go_loopw [3, 8] (fun t3 t wr => ∃ (k : Nat) (Ao : Option Addr) (co : Nat) (ps : List Part), k ≤ l.length ∧ t = .int .i64 k ∧ t3 = .slice Ao k co ∧ Hid (ps.map (·.n) = l.take k) ∧ Hid (Parts wr w.heap.size (span w.heap.size wr.heap.size) (.slice Ao k co) ps) ∧ Below w.heap.size w wr) (fun _ t _ => l.length - (intOf t).toNat)
    case atStart => exact ⟨0, none, 0, [], Nat.zero_le _, rfl, rfl, rfl, Parts.nil _ _ _, Below.refl _ _⟩
    case round =>
      obtain ⟨k, Ao, co, ps, hk, rfl, rfl, hps, hparts, hww⟩ := hrel
      by_cases hlt : k < l.length
      · have hA' := hA (by rintro rfl; simp at hlt)
        subst hA'
        obtain ⟨n, hn⟩ : ∃ n, l[k]? = some n := ⟨_, List.getElem?_eq_getElem hlt⟩
        obtain ⟨p0, p1, p2, p3, p4, p5, q0, q1, q2, q3, q4⟩ := (HCell.out k n hn).keep (Keeps.of_below hww)
        have HOk := Lib.hid (show NodeOk n from ⟨q0, q1, q2, q3, q4⟩)
        clear q0 q1 q2 q3 q4
        have bb := World.block_lt_of_cell? _ _ p5
        simp only at bb
        have hkid := HKid.out k n hn
        obtain ⟨A3, c3, b3, o3, k3, e3, _, _, _, _, _⟩ := hkid.inv
        rw [e3] at hkid p5
        have HK := Lib.hid ((hkid.keep (Keeps.of_below hww)).keep (Keeps.alloc _ (nodeBox n (.slice A3 n.kids.length c3)))); clear hkid
        have HB := Lib.hid (hww.alloc hww.size (nodeBox n (.slice A3 n.kids.length c3)))
        have HSz := Lib.hid (size_at HN.out hn)
        have htk := total_take hn
        have htl := total_le l (k + 1)
        have hkt : total n.kids ≤ 1073741824 := by omega
        have hpl : ps.length = k := by have := congrArg List.length hps.out; simp at this; omega
        subst hpl
        have HTk := Lib.hid (show l.take (ps.length + 1) = l.take ps.length ++ [n] by obtain ⟨h1, rfl⟩ := List.getElem?_eq_some_iff.1 hn; exact List.take_succ_eq_append_getElem h1)
        clear hn hA e3 htk htl
        have hsz := hww.size
        have HW := Lib.hid hww; clear hww
        go_wp2_with fail
        go_must (refine (HI.out n.kids _ _ HSz.out HK.out hkt).mono ?_)
        rintro e w1 ⟨u, rfl, hT, hb1⟩
        obtain ⟨A5, c5, rfl⟩ := hT.slice
        have R0 := (hb1.cell (p := ⟨wr.heap.size, 0, none⟩) (by simp)).trans (cell_new wr (nodeVals n (.slice A3 n.kids.length c3)) _ _ rfl 0 _ rfl)
        have R1 := (hb1.cell (p := ⟨wr.heap.size, 1, none⟩) (by simp)).trans (cell_new wr (nodeVals n (.slice A3 n.kids.length c3)) _ _ rfl 1 _ rfl)
        have R2 := (hb1.cell (p := ⟨wr.heap.size, 2, none⟩) (by simp)).trans (cell_new wr (nodeVals n (.slice A3 n.kids.length c3)) _ _ rfl 2 _ rfl)
        have R3 := (hb1.cell (p := ⟨wr.heap.size, 3, none⟩) (by simp)).trans (cell_new wr (nodeVals n (.slice A3 n.kids.length c3)) _ _ rfl 3 _ rfl)
        have R4 := (hb1.cell (p := ⟨wr.heap.size, 4, none⟩) (by simp)).trans (cell_new wr (nodeVals n (.slice A3 n.kids.length c3)) _ _ rfl 4 _ rfl)
        have R5 := (hb1.cell (p := ⟨wr.heap.size, 5, none⟩) (by simp)).trans (cell_new wr (nodeVals n (.slice A3 n.kids.length c3)) _ _ rfl 5 _ rfl)
        have F5 := (hb1.frozen (p := ⟨wr.heap.size, 5, none⟩) (by simp)).trans (show (wr.alloc (nodeBox n (.slice A3 n.kids.length c3))).frozen? ⟨wr.heap.size, 5, none⟩ = false by go_simp)
        have hz1 := hb1.size
        simp only [World.size_alloc] at hz1
        have hh0 : ∀ (o : Obj) (b : Nat), b < wr.heap.size → ((w1.setCell ⟨wr.heap.size, 5, none⟩ (.slice A5 n.kids.length c5)).alloc o).heap[b]? = wr.heap[b]? := fun o b hb => by
          rw [Below.heap_alloc _ _ _ (by simp [World.setCell]; omega), Below.heap_setCell _ _ _ _ (by simp; omega), hb1.block b (by simp; omega), Below.heap_alloc _ _ _ hb]
        have hh1 : ∀ (o : Obj) (b : Nat), wr.heap.size + 1 ≤ b → b < w1.heap.size → ((w1.setCell ⟨wr.heap.size, 5, none⟩ (.slice A5 n.kids.length c5)).alloc o).heap[b]? = w1.heap[b]? := fun o b hb hb2 => by
          rw [Below.heap_alloc _ _ _ (by simp [World.setCell]; omega), Below.heap_setCell _ _ _ _ (by simp; omega)]
        have HO := Lib.hid (hparts.out.later (hh0 (nodeBox n (.slice A5 n.kids.length c5)))).own
        have HH0 := Lib.hid (hh0 (nodeBox n (.slice A5 n.kids.length c5))); clear hh0
        have HH1 := Lib.hid (hh1 (nodeBox n (.slice A5 n.kids.length c5))); clear hh1
        have HT := Lib.hid hT; clear hT
        have HB1 := Lib.hid (((HB.out.trans (hb1.mono HB.out.size)).setCell (p := ⟨wr.heap.size, 5, none⟩) hsz (.slice A5 n.kids.length c5)).alloc (Nat.le_trans hsz (by simp [World.setCell]; omega)) (nodeBox n (.slice A5 n.kids.length c5))); clear hb1
        go_wp2_with (at_builtin; have hh := HO.out; have k1 : (ps.length + 1) * 88 ≤ 140737488355328 := (by omega); have k2 : ps.length + 1 ≤ maxLen := (by unfold maxLen; omega); have k3 := HB1.out.size; have k4 := cell_new (w1.setCell ⟨wr.heap.size, 5, none⟩ (.slice A5 n.kids.length c5)) (nodeVals n (.slice A5 n.kids.length c5)) 31 w1.heap.size (by simp [World.setCell]); go_must (refine wpList_push _ rfl (.tmp 16) (.tmp 18) 22 rfl w.heap.size 31 _ 6 88 Tryd.underlying22 info_node rfl (by omega) (.slice Ao ps.length co) ps.length _ rfl hh (nodeVals n (.slice A5 n.kids.length c5)) rfl _ rfl k4 (six_cells _ _ rfl) k1 k2 k3 ?_); clear hh k1 k2 k3 k4; intro g1 c1 w2 h1 hw1 hg1 hb1)
        go_roundw
        case rel =>
          exact ⟨ps.length + 1, some ⟨g1, 0, none⟩, c1, ps ++ [⟨n, .slice A5 n.kids.length c5, span (wr.heap.size + 1) w1.heap.size⟩], by omega, by go_num, rfl, by show List.map _ _ = _; rw [List.map_append, hps.out, HTk.out]; rfl,
            Lib.hid (hparts.out.grow hsz HOk.out (by have := HT.out; simpa using this) HH0.out HH1.out (by simp [World.setCell]) (by omega) h1 hw1 hg1), HB1.out.trans hb1⟩
        case measure => simp [intOf]; omega
      · have hke : l.take k = l := by rw [List.take_of_length_le (by omega)]
        go_wp2_with fail
        go_ret
        refine ⟨_, rfl, ?_, hww⟩
        rw [← hke, ← hps.out]
        exact hparts.out.tree

end Go.Proofs.YtlganccpgchmeaaDoor
