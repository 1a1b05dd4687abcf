/-
  A document with other addresses, copied: mastref1.Relinked.
-/
import Derived.Test.YtikcmmkeblgamaaRelink
namespace Go.Proofs.Ytikcmmkeblgamaa
open Go.RowKit Go.Deep

/-- a tree of the call's own, and the strings that are left -/
def Made2 (w0 : World) (l : List Node) (ts : List ByteArray) (w : World) (e : Ending) (w' : World) : Prop :=
  ∃ u A m c, e = .returned (.tuple #[u, .slice A m c]) ∧ TreeAt w' w.heap.size (span w.heap.size w'.heap.size) u l ∧ Below w.heap.size w w' ∧ OnesAt w0 (.slice A m c) (strs ts)

set_option maxRecDepth 100000 in
set_option maxHeartbeats 4000000 in
theorem relinked_any (w0 : World) (N : Nat) : ∀ (l : List Node) (v : Value) (A : Option Addr) (m c : Nat) (ts : List ByteArray) (w : World), SizeOf.sizeOf l ≤ N → NodesAt w v l → total l ≤ 1073741824 →
    OnesAt w0 (.slice A m c) (strs ts) → (targetsL l).length ≤ ts.length → (∀ s ∈ ts, s.size ≤ maxLen) → Below w0.heap.size w0 w →
    Calls Try.prog 24 #[v, .slice A m c] w (Made2 w0 (relinkL l ts) (ts.drop (targetsL l).length) w) := by
  induction N with
  | zero =>
    intro l v A m c ts w hN
    cases l <;> simp at hN
  | succ N ih =>
    intro l v A0 m0 c0 ts w hN h ht hts htl hss hb0
    obtain ⟨A, c, bl, o, kv, rfl, hlc, hc, hA, hcell, hkid⟩ := h.inv
    unfold maxLen at hc
    have HCell := Lib.hid hcell; clear hcell
    have HKid := Lib.hid hkid; clear hkid
    have HN := Lib.hid hN; clear hN
    have HI := Lib.hid ih; clear ih
    have HTs := Lib.hid hts; clear hts
    have HSs := Lib.hid hss; clear hss
    have HB00 := Lib.hid hb0; clear hb0
    have HTl := Lib.hid htl; clear htl
    have hll := total_len l
    clear h
    go_enter Try.func24, Try.ntmps24
    go_wp2_with fail
    go_loopw [1, 6, 11] (fun t1 t3 t wr => ∃ (k : Nat) (Ao : Option Addr) (co : Nat) (ps : List Part) (At : Option Addr) (mt ct : Nat), k ≤ l.length ∧ t = .int .i64 k ∧ t3 = .slice Ao k co ∧ t1 = .slice At mt ct ∧ Hid (ps.map (·.n) = relinkL (l.take k) ts) ∧ Hid (Parts wr w.heap.size (span w.heap.size wr.heap.size) (.slice Ao k co) ps) ∧ Below w.heap.size w wr ∧ Hid (OnesAt w0 (.slice At mt ct) (strs (ts.drop (targetsL (l.take k)).length)))) (fun _ _ t _ => l.length - (intOf t).toNat)
    case atStart => exact ⟨0, none, 0, [], A0, m0, c0, Nat.zero_le _, rfl, rfl, rfl, (show List.map _ _ = _ by rw [List.take_zero, relinkL_nil]; rfl), Parts.nil _ _ _, Below.refl _ _, (show OnesAt _ _ _ by rw [List.take_zero, targetsL_nil]; exact HTs.out)⟩
    case round =>
      obtain ⟨k, Ao, co, ps, At, mt, ct, hk, rfl, rfl, rfl, hps, hparts, hww, hones⟩ := hrel
      by_cases hlt : k < l.length
      · have hA' := hA (by rintro rfl; simp at hlt)
        subst hA'
        obtain ⟨n, hn⟩ : ∃ n, l[k]? = some n := ⟨_, List.getElem?_eq_getElem hlt⟩
        obtain ⟨p0, p1, p2, p3, p4, p5, q0, q1, q2, q3, q4⟩ := (HCell.out k n hn).keep (Keeps.of_below hww)
        have hok0 : NodeOk n := ⟨q0, q1, q2, q3, q4⟩
        clear q0 q1 q2 q3 q4
        have bb := World.block_lt_of_cell? _ _ p5
        simp only at bb
        have hkid := HKid.out k n hn
        obtain ⟨A3, c3, b3, o3, k3, e3, _, _, _, _, _⟩ := hkid.inv
        rw [e3] at hkid p5
        have HSz := Lib.hid (size_at HN.out hn)
        have htk := total_take hn
        have htl := total_le l (k + 1)
        have hkt : total n.kids ≤ 1073741824 := by omega
        have hpl : ps.length = k := by have := congrArg List.length hps.out; rw [relinkL_length] at this; simp at this; omega
        subst hpl
        obtain ⟨tk, htkd⟩ : ∃ tk, ts.drop (targetsL (l.take ps.length)).length = tk := ⟨_, rfl⟩
        have HTk := Lib.hid (show relinkL (l.take (ps.length + 1)) ts = relinkL (l.take ps.length) ts ++ [relinkN n tk] by rw [relinkL_take ts hn, htkd])
        rw [htkd] at hones
        have hta := targets_at hn
        have htn := targetsN_len n
        have hlen4 : (targetsN n).length ≤ tk.length := by rw [← htkd, List.length_drop]; have := HTl.out; omega
        have hss2 : ∀ s ∈ tk, s.size ≤ maxLen := fun s hs => HSs.out s (by rw [← htkd] at hs; exact List.mem_of_mem_drop hs)
        have HOk := Lib.hid (relinkN_ok (ts := tk) hok0 hss2); clear hok0
        have HSs2 := Lib.hid hss2; clear hss2
        have HNext := Lib.hid (show ts.drop (targetsL (l.take (ps.length + 1))).length = tk.drop (targetsN n).length by rw [targetsL_take hn, List.length_append, ← htkd, List.drop_drop])
        obtain ⟨hol1, hol2, hol3⟩ := ones_len hones.out
        have HOl := Lib.hid hol1
        unfold maxLen at hol3
        clear hn hA e3 htk htl hta htkd
        have hsz := hww.size
        have HW := Lib.hid hww; clear hww
        have HB0r := Lib.hid (HB00.out.trans (HW.out.mono HB00.out.size))
        have hx : n.kind = 17 ∨ n.kind = 18 ∨ (n.kind ≠ 17 ∧ n.kind ≠ 18) := by omega
        rcases hx with hx | hx | hx

        · have hlk : linkB n.kind = true := by unfold linkB; simp; omega
          have t17 : (n.kind == 17) = true := by simp; omega
          have t18 : (n.kind == 18) = false := by simp; omega
          rw [hlk] at htn
          simp only [if_true] at htn
          clear hx
          obtain ⟨t, tr, rfl⟩ : ∃ t tr, tk = t :: tr := by cases tk with | nil => simp only [List.length_nil] at hlen4; omega | cons a b => exact ⟨a, b, rfl⟩
          have hNE : relinkN n (t :: tr) = (Node.mk n.kind n.level n.text t n.title (relinkL n.kids tr)) := by unfold relinkN; rw [hlk]; rfl
          have HTail := Lib.hid (show (t :: tr).drop (targetsN n).length = tr.drop (targetsL n.kids).length by rw [htn, Nat.add_comm]; rfl)
          have HTn2 := Lib.hid (show (targetsL n.kids).length ≤ tr.length by simp only [List.length_cons] at hlen4; omega)
          have HSs3 := Lib.hid (fun s hs => HSs2.out s (List.mem_cons_of_mem _ hs))
          have hmt : 1 ≤ mt := by rw [HOl.out]; simp
          have hcellt : ∃ bt ot, At = some ⟨bt, ot, none⟩ ∧ w0.cell? ⟨bt, ot, none⟩ = some (.string t) := by
            obtain ⟨A', c', b', o', hv, _, _, hA9, hcell9⟩ := hones.out
            cases hv
            exact ⟨b', o', hA9 (by simp [strs]), hcell9 0 _ rfl⟩
          obtain ⟨bt, ot, hAt, hct⟩ := hcellt
          subst hAt
          have q0 := Keeps.of_below HB0r.out _ _ hct
          have bt2 := World.block_lt_of_cell? _ _ q0
          simp only at bt2
          have HT0 := Lib.hid (HTk.out.trans (by rw [hNE]))
          have HOk2 := Lib.hid (show NodeOk (Node.mk n.kind n.level n.text t n.title (relinkL n.kids tr)) by rw [← hNE]; exact HOk.out)
          clear hct hlk htn hlen4 hol1 hNE
          have HK := Lib.hid ((hkid.keep (Keeps.of_below HW.out)).keep (Keeps.alloc _ (nodeBox (Node.mk n.kind n.level n.text t n.title (relinkL n.kids tr)) (.slice A3 n.kids.length c3)))); clear hkid
          have HB := Lib.hid (HW.out.alloc hsz (nodeBox (Node.mk n.kind n.level n.text t n.title (relinkL n.kids tr)) (.slice A3 n.kids.length c3)))
          have HB0a := Lib.hid (HB0r.out.alloc HB0r.out.size (nodeBox (Node.mk n.kind n.level n.text t n.title (relinkL n.kids tr)) (.slice A3 n.kids.length c3)))
          by_cases hc1t : ct = 1
          · subst hc1t
            obtain ⟨on9, hm9, htr⟩ := hones.out.tail1 (x := .string t) (xs := strs tr)
            have HOn := Lib.hid on9; clear on9 htr
            subst hm9
            go_wp2_with fail
            go_region
            all_goals go_wp2_with fail
            go_must (refine (HI.out n.kids _ (some ⟨bt, ot, none⟩) 0 0 tr _ HSz.out (HK.out.keep (Keeps.drew _)) hkt HOn.out HTn2.out HSs3.out HB0a.out.drew).mono ?_)
            rintro e w1 ⟨u, A7, m7, c7, rfl, hT, hb1, on7⟩
            obtain ⟨A5, c5, hu⟩ := hT.slice
            rw [relinkL_length] at hu
            subst hu
            have HOn7 := Lib.hid on7; clear on7
            have R0 := (hb1.cell (p := ⟨wr.heap.size, 0, none⟩) (by simp)).trans (cell_new wr (nodeVals (Node.mk n.kind n.level n.text t n.title (relinkL n.kids tr)) (.slice A3 n.kids.length c3)) _ _ rfl 0 _ rfl)
            have R1 := (hb1.cell (p := ⟨wr.heap.size, 1, none⟩) (by simp)).trans (cell_new wr (nodeVals (Node.mk n.kind n.level n.text t n.title (relinkL n.kids tr)) (.slice A3 n.kids.length c3)) _ _ rfl 1 _ rfl)
            have R2 := (hb1.cell (p := ⟨wr.heap.size, 2, none⟩) (by simp)).trans (cell_new wr (nodeVals (Node.mk n.kind n.level n.text t n.title (relinkL n.kids tr)) (.slice A3 n.kids.length c3)) _ _ rfl 2 _ rfl)
            have R3 := (hb1.cell (p := ⟨wr.heap.size, 3, none⟩) (by simp)).trans (cell_new wr (nodeVals (Node.mk n.kind n.level n.text t n.title (relinkL n.kids tr)) (.slice A3 n.kids.length c3)) _ _ rfl 3 _ rfl)
            have R4 := (hb1.cell (p := ⟨wr.heap.size, 4, none⟩) (by simp)).trans (cell_new wr (nodeVals (Node.mk n.kind n.level n.text t n.title (relinkL n.kids tr)) (.slice A3 n.kids.length c3)) _ _ rfl 4 _ rfl)
            have R5 := (hb1.cell (p := ⟨wr.heap.size, 5, none⟩) (by simp)).trans (cell_new wr (nodeVals (Node.mk n.kind n.level n.text t n.title (relinkL n.kids tr)) (.slice A3 n.kids.length c3)) _ _ rfl 5 _ rfl)
            have F5 := (hb1.frozen (p := ⟨wr.heap.size, 5, none⟩) (by simp)).trans (show (wr.alloc (nodeBox (Node.mk n.kind n.level n.text t n.title (relinkL n.kids tr)) (.slice A3 n.kids.length c3))).frozen? ⟨wr.heap.size, 5, none⟩ = false by go_simp)
            simp only [Node.kind, Node.level, Node.text, Node.dest, Node.title] at R0 R1 R2 R3 R4 R5
            have hz1 := hb1.size
            simp [World.drew] at hz1
            have hh0 : ∀ (o : Obj) (b : Nat), b < wr.heap.size → ((w1.setCell ⟨wr.heap.size, 5, none⟩ (.slice A5 n.kids.length c5)).alloc o).heap[b]? = wr.heap[b]? := fun o b hb => by
              rw [Below.heap_alloc _ _ _ (by simp [World.setCell]; omega), Below.heap_setCell _ _ _ _ (by simp; omega), hb1.block b (by simp; omega)]
              exact Below.heap_alloc _ _ _ hb
            have hh1 : ∀ (o : Obj) (b : Nat), wr.heap.size + 1 ≤ b → b < w1.heap.size → ((w1.setCell ⟨wr.heap.size, 5, none⟩ (.slice A5 n.kids.length c5)).alloc o).heap[b]? = w1.heap[b]? := fun o b hb hb2 => by
              rw [Below.heap_alloc _ _ _ (by simp [World.setCell]; omega), Below.heap_setCell _ _ _ _ (by simp; omega)]
            have HO := Lib.hid (hparts.out.later (hh0 (nodeBox (Node.mk n.kind n.level n.text t n.title (relinkL n.kids tr)) (.slice A5 n.kids.length c5)))).own
            have HH0 := Lib.hid (hh0 (nodeBox (Node.mk n.kind n.level n.text t n.title (relinkL n.kids tr)) (.slice A5 n.kids.length c5))); clear hh0
            have HH1 := Lib.hid (hh1 (nodeBox (Node.mk n.kind n.level n.text t n.title (relinkL n.kids tr)) (.slice A5 n.kids.length c5))); clear hh1
            have HT := Lib.hid (show TreeAt w1 (wr.heap.size + 1) (span (wr.heap.size + 1) w1.heap.size) (.slice A5 n.kids.length c5) (relinkL n.kids tr) by have h9 := hT; simp [World.drew] at h9; exact h9); clear hT
            have HB1 := Lib.hid (((HB.out.drew.trans (hb1.mono HB.out.size)).setCell (p := ⟨wr.heap.size, 5, none⟩) hsz (.slice A5 n.kids.length c5)).alloc (Nat.le_trans hsz (by simp [World.setCell]; omega)) (nodeBox (Node.mk n.kind n.level n.text t n.title (relinkL n.kids tr)) (.slice A5 n.kids.length c5))); clear hb1
            go_wp2_with (at_builtin; have hh := HO.out; have k1 : (ps.length + 1) * 88 ≤ 140737488355328 := (by omega); have k2 : ps.length + 1 ≤ maxLen := (by unfold maxLen; omega); have k3 := HB1.out.size; have k4 := cell_new (w1.setCell ⟨wr.heap.size, 5, none⟩ (.slice A5 n.kids.length c5)) (nodeVals (Node.mk n.kind n.level n.text t n.title (relinkL n.kids tr)) (.slice A5 n.kids.length c5)) 75 w1.heap.size (by simp [World.setCell]); go_must (refine wpList_push _ rfl (.tmp 37) (.tmp 39) 31 rfl w.heap.size 75 _ 6 88 Try.underlying31 info_node rfl (by omega) (.slice Ao ps.length co) ps.length _ rfl hh (nodeVals (Node.mk n.kind n.level n.text t n.title (relinkL n.kids tr)) (.slice A5 n.kids.length c5)) rfl _ rfl k4 (six_cells _ _ rfl) k1 k2 k3 ?_); clear hh k1 k2 k3 k4; intro g1 c1 w2 h1 hw1 hg1 hb1)
            go_roundw
            case rel =>
              exact ⟨ps.length + 1, some ⟨g1, 0, none⟩, c1, ps ++ [⟨(Node.mk n.kind n.level n.text t n.title (relinkL n.kids tr)), .slice A5 n.kids.length c5, span (wr.heap.size + 1) w1.heap.size⟩], A7, m7, c7, by omega, by go_num, rfl, rfl, by show List.map _ _ = _; rw [List.map_append, hps.out, HT0.out]; rfl,
                Lib.hid (hparts.out.grow hsz HOk2.out HT.out HH0.out HH1.out (by simp [World.setCell]) (by omega) h1 hw1 hg1), HB1.out.trans hb1, by show OnesAt _ _ _; rw [HNext.out, HTail.out]; exact HOn7.out⟩
            case measure => simp [intOf]; omega
          · have HOn := Lib.hid (hones.out.tail (x := .string t) (xs := strs tr))
            go_wp2_with fail
            go_region
            all_goals go_wp2_with fail
            go_must (refine (HI.out n.kids _ (some ⟨bt, ot + 1, none⟩) (mt - 1) (ct - 1) tr _ HSz.out (HK.out.keep (Keeps.drew _)) hkt HOn.out HTn2.out HSs3.out HB0a.out.drew).mono ?_)
            rintro e w1 ⟨u, A7, m7, c7, rfl, hT, hb1, on7⟩
            obtain ⟨A5, c5, hu⟩ := hT.slice
            rw [relinkL_length] at hu
            subst hu
            have HOn7 := Lib.hid on7; clear on7
            have R0 := (hb1.cell (p := ⟨wr.heap.size, 0, none⟩) (by simp)).trans (cell_new wr (nodeVals (Node.mk n.kind n.level n.text t n.title (relinkL n.kids tr)) (.slice A3 n.kids.length c3)) _ _ rfl 0 _ rfl)
            have R1 := (hb1.cell (p := ⟨wr.heap.size, 1, none⟩) (by simp)).trans (cell_new wr (nodeVals (Node.mk n.kind n.level n.text t n.title (relinkL n.kids tr)) (.slice A3 n.kids.length c3)) _ _ rfl 1 _ rfl)
            have R2 := (hb1.cell (p := ⟨wr.heap.size, 2, none⟩) (by simp)).trans (cell_new wr (nodeVals (Node.mk n.kind n.level n.text t n.title (relinkL n.kids tr)) (.slice A3 n.kids.length c3)) _ _ rfl 2 _ rfl)
            have R3 := (hb1.cell (p := ⟨wr.heap.size, 3, none⟩) (by simp)).trans (cell_new wr (nodeVals (Node.mk n.kind n.level n.text t n.title (relinkL n.kids tr)) (.slice A3 n.kids.length c3)) _ _ rfl 3 _ rfl)
            have R4 := (hb1.cell (p := ⟨wr.heap.size, 4, none⟩) (by simp)).trans (cell_new wr (nodeVals (Node.mk n.kind n.level n.text t n.title (relinkL n.kids tr)) (.slice A3 n.kids.length c3)) _ _ rfl 4 _ rfl)
            have R5 := (hb1.cell (p := ⟨wr.heap.size, 5, none⟩) (by simp)).trans (cell_new wr (nodeVals (Node.mk n.kind n.level n.text t n.title (relinkL n.kids tr)) (.slice A3 n.kids.length c3)) _ _ rfl 5 _ rfl)
            have F5 := (hb1.frozen (p := ⟨wr.heap.size, 5, none⟩) (by simp)).trans (show (wr.alloc (nodeBox (Node.mk n.kind n.level n.text t n.title (relinkL n.kids tr)) (.slice A3 n.kids.length c3))).frozen? ⟨wr.heap.size, 5, none⟩ = false by go_simp)
            simp only [Node.kind, Node.level, Node.text, Node.dest, Node.title] at R0 R1 R2 R3 R4 R5
            have hz1 := hb1.size
            simp [World.drew] at hz1
            have hh0 : ∀ (o : Obj) (b : Nat), b < wr.heap.size → ((w1.setCell ⟨wr.heap.size, 5, none⟩ (.slice A5 n.kids.length c5)).alloc o).heap[b]? = wr.heap[b]? := fun o b hb => by
              rw [Below.heap_alloc _ _ _ (by simp [World.setCell]; omega), Below.heap_setCell _ _ _ _ (by simp; omega), hb1.block b (by simp; omega)]
              exact Below.heap_alloc _ _ _ hb
            have hh1 : ∀ (o : Obj) (b : Nat), wr.heap.size + 1 ≤ b → b < w1.heap.size → ((w1.setCell ⟨wr.heap.size, 5, none⟩ (.slice A5 n.kids.length c5)).alloc o).heap[b]? = w1.heap[b]? := fun o b hb hb2 => by
              rw [Below.heap_alloc _ _ _ (by simp [World.setCell]; omega), Below.heap_setCell _ _ _ _ (by simp; omega)]
            have HO := Lib.hid (hparts.out.later (hh0 (nodeBox (Node.mk n.kind n.level n.text t n.title (relinkL n.kids tr)) (.slice A5 n.kids.length c5)))).own
            have HH0 := Lib.hid (hh0 (nodeBox (Node.mk n.kind n.level n.text t n.title (relinkL n.kids tr)) (.slice A5 n.kids.length c5))); clear hh0
            have HH1 := Lib.hid (hh1 (nodeBox (Node.mk n.kind n.level n.text t n.title (relinkL n.kids tr)) (.slice A5 n.kids.length c5))); clear hh1
            have HT := Lib.hid (show TreeAt w1 (wr.heap.size + 1) (span (wr.heap.size + 1) w1.heap.size) (.slice A5 n.kids.length c5) (relinkL n.kids tr) by have h9 := hT; simp [World.drew] at h9; exact h9); clear hT
            have HB1 := Lib.hid (((HB.out.drew.trans (hb1.mono HB.out.size)).setCell (p := ⟨wr.heap.size, 5, none⟩) hsz (.slice A5 n.kids.length c5)).alloc (Nat.le_trans hsz (by simp [World.setCell]; omega)) (nodeBox (Node.mk n.kind n.level n.text t n.title (relinkL n.kids tr)) (.slice A5 n.kids.length c5))); clear hb1
            go_wp2_with (at_builtin; have hh := HO.out; have k1 : (ps.length + 1) * 88 ≤ 140737488355328 := (by omega); have k2 : ps.length + 1 ≤ maxLen := (by unfold maxLen; omega); have k3 := HB1.out.size; have k4 := cell_new (w1.setCell ⟨wr.heap.size, 5, none⟩ (.slice A5 n.kids.length c5)) (nodeVals (Node.mk n.kind n.level n.text t n.title (relinkL n.kids tr)) (.slice A5 n.kids.length c5)) 75 w1.heap.size (by simp [World.setCell]); go_must (refine wpList_push _ rfl (.tmp 37) (.tmp 39) 31 rfl w.heap.size 75 _ 6 88 Try.underlying31 info_node rfl (by omega) (.slice Ao ps.length co) ps.length _ rfl hh (nodeVals (Node.mk n.kind n.level n.text t n.title (relinkL n.kids tr)) (.slice A5 n.kids.length c5)) rfl _ rfl k4 (six_cells _ _ rfl) k1 k2 k3 ?_); clear hh k1 k2 k3 k4; intro g1 c1 w2 h1 hw1 hg1 hb1)
            go_roundw
            case rel =>
              exact ⟨ps.length + 1, some ⟨g1, 0, none⟩, c1, ps ++ [⟨(Node.mk n.kind n.level n.text t n.title (relinkL n.kids tr)), .slice A5 n.kids.length c5, span (wr.heap.size + 1) w1.heap.size⟩], A7, m7, c7, by omega, by go_num, rfl, rfl, by show List.map _ _ = _; rw [List.map_append, hps.out, HT0.out]; rfl,
                Lib.hid (hparts.out.grow hsz HOk2.out HT.out HH0.out HH1.out (by simp [World.setCell]) (by omega) h1 hw1 hg1), HB1.out.trans hb1, by show OnesAt _ _ _; rw [HNext.out, HTail.out]; exact HOn7.out⟩
            case measure => simp [intOf]; omega

        · have hlk : linkB n.kind = true := by unfold linkB; simp; omega
          have t17 : (n.kind == 17) = false := by simp; omega
          have t18 : (n.kind == 18) = true := by simp; omega
          rw [hlk] at htn
          simp only [if_true] at htn
          clear hx
          obtain ⟨t, tr, rfl⟩ : ∃ t tr, tk = t :: tr := by cases tk with | nil => simp only [List.length_nil] at hlen4; omega | cons a b => exact ⟨a, b, rfl⟩
          have hNE : relinkN n (t :: tr) = (Node.mk n.kind n.level n.text t n.title (relinkL n.kids tr)) := by unfold relinkN; rw [hlk]; rfl
          have HTail := Lib.hid (show (t :: tr).drop (targetsN n).length = tr.drop (targetsL n.kids).length by rw [htn, Nat.add_comm]; rfl)
          have HTn2 := Lib.hid (show (targetsL n.kids).length ≤ tr.length by simp only [List.length_cons] at hlen4; omega)
          have HSs3 := Lib.hid (fun s hs => HSs2.out s (List.mem_cons_of_mem _ hs))
          have hmt : 1 ≤ mt := by rw [HOl.out]; simp
          have hcellt : ∃ bt ot, At = some ⟨bt, ot, none⟩ ∧ w0.cell? ⟨bt, ot, none⟩ = some (.string t) := by
            obtain ⟨A', c', b', o', hv, _, _, hA9, hcell9⟩ := hones.out
            cases hv
            exact ⟨b', o', hA9 (by simp [strs]), hcell9 0 _ rfl⟩
          obtain ⟨bt, ot, hAt, hct⟩ := hcellt
          subst hAt
          have q0 := Keeps.of_below HB0r.out _ _ hct
          have bt2 := World.block_lt_of_cell? _ _ q0
          simp only at bt2
          have HT0 := Lib.hid (HTk.out.trans (by rw [hNE]))
          have HOk2 := Lib.hid (show NodeOk (Node.mk n.kind n.level n.text t n.title (relinkL n.kids tr)) by rw [← hNE]; exact HOk.out)
          clear hct hlk htn hlen4 hol1 hNE
          have HK := Lib.hid ((hkid.keep (Keeps.of_below HW.out)).keep (Keeps.alloc _ (nodeBox (Node.mk n.kind n.level n.text t n.title (relinkL n.kids tr)) (.slice A3 n.kids.length c3)))); clear hkid
          have HB := Lib.hid (HW.out.alloc hsz (nodeBox (Node.mk n.kind n.level n.text t n.title (relinkL n.kids tr)) (.slice A3 n.kids.length c3)))
          have HB0a := Lib.hid (HB0r.out.alloc HB0r.out.size (nodeBox (Node.mk n.kind n.level n.text t n.title (relinkL n.kids tr)) (.slice A3 n.kids.length c3)))
          by_cases hc1t : ct = 1
          · subst hc1t
            obtain ⟨on9, hm9, htr⟩ := hones.out.tail1 (x := .string t) (xs := strs tr)
            have HOn := Lib.hid on9; clear on9 htr
            subst hm9
            go_wp2_with fail
            go_region
            all_goals go_wp2_with fail
            go_must (refine (HI.out n.kids _ (some ⟨bt, ot, none⟩) 0 0 tr _ HSz.out (HK.out.keep (Keeps.drew _)) hkt HOn.out HTn2.out HSs3.out HB0a.out.drew).mono ?_)
            rintro e w1 ⟨u, A7, m7, c7, rfl, hT, hb1, on7⟩
            obtain ⟨A5, c5, hu⟩ := hT.slice
            rw [relinkL_length] at hu
            subst hu
            have HOn7 := Lib.hid on7; clear on7
            have R0 := (hb1.cell (p := ⟨wr.heap.size, 0, none⟩) (by simp)).trans (cell_new wr (nodeVals (Node.mk n.kind n.level n.text t n.title (relinkL n.kids tr)) (.slice A3 n.kids.length c3)) _ _ rfl 0 _ rfl)
            have R1 := (hb1.cell (p := ⟨wr.heap.size, 1, none⟩) (by simp)).trans (cell_new wr (nodeVals (Node.mk n.kind n.level n.text t n.title (relinkL n.kids tr)) (.slice A3 n.kids.length c3)) _ _ rfl 1 _ rfl)
            have R2 := (hb1.cell (p := ⟨wr.heap.size, 2, none⟩) (by simp)).trans (cell_new wr (nodeVals (Node.mk n.kind n.level n.text t n.title (relinkL n.kids tr)) (.slice A3 n.kids.length c3)) _ _ rfl 2 _ rfl)
            have R3 := (hb1.cell (p := ⟨wr.heap.size, 3, none⟩) (by simp)).trans (cell_new wr (nodeVals (Node.mk n.kind n.level n.text t n.title (relinkL n.kids tr)) (.slice A3 n.kids.length c3)) _ _ rfl 3 _ rfl)
            have R4 := (hb1.cell (p := ⟨wr.heap.size, 4, none⟩) (by simp)).trans (cell_new wr (nodeVals (Node.mk n.kind n.level n.text t n.title (relinkL n.kids tr)) (.slice A3 n.kids.length c3)) _ _ rfl 4 _ rfl)
            have R5 := (hb1.cell (p := ⟨wr.heap.size, 5, none⟩) (by simp)).trans (cell_new wr (nodeVals (Node.mk n.kind n.level n.text t n.title (relinkL n.kids tr)) (.slice A3 n.kids.length c3)) _ _ rfl 5 _ rfl)
            have F5 := (hb1.frozen (p := ⟨wr.heap.size, 5, none⟩) (by simp)).trans (show (wr.alloc (nodeBox (Node.mk n.kind n.level n.text t n.title (relinkL n.kids tr)) (.slice A3 n.kids.length c3))).frozen? ⟨wr.heap.size, 5, none⟩ = false by go_simp)
            simp only [Node.kind, Node.level, Node.text, Node.dest, Node.title] at R0 R1 R2 R3 R4 R5
            have hz1 := hb1.size
            simp [World.drew] at hz1
            have hh0 : ∀ (o : Obj) (b : Nat), b < wr.heap.size → ((w1.setCell ⟨wr.heap.size, 5, none⟩ (.slice A5 n.kids.length c5)).alloc o).heap[b]? = wr.heap[b]? := fun o b hb => by
              rw [Below.heap_alloc _ _ _ (by simp [World.setCell]; omega), Below.heap_setCell _ _ _ _ (by simp; omega), hb1.block b (by simp; omega)]
              exact Below.heap_alloc _ _ _ hb
            have hh1 : ∀ (o : Obj) (b : Nat), wr.heap.size + 1 ≤ b → b < w1.heap.size → ((w1.setCell ⟨wr.heap.size, 5, none⟩ (.slice A5 n.kids.length c5)).alloc o).heap[b]? = w1.heap[b]? := fun o b hb hb2 => by
              rw [Below.heap_alloc _ _ _ (by simp [World.setCell]; omega), Below.heap_setCell _ _ _ _ (by simp; omega)]
            have HO := Lib.hid (hparts.out.later (hh0 (nodeBox (Node.mk n.kind n.level n.text t n.title (relinkL n.kids tr)) (.slice A5 n.kids.length c5)))).own
            have HH0 := Lib.hid (hh0 (nodeBox (Node.mk n.kind n.level n.text t n.title (relinkL n.kids tr)) (.slice A5 n.kids.length c5))); clear hh0
            have HH1 := Lib.hid (hh1 (nodeBox (Node.mk n.kind n.level n.text t n.title (relinkL n.kids tr)) (.slice A5 n.kids.length c5))); clear hh1
            have HT := Lib.hid (show TreeAt w1 (wr.heap.size + 1) (span (wr.heap.size + 1) w1.heap.size) (.slice A5 n.kids.length c5) (relinkL n.kids tr) by have h9 := hT; simp [World.drew] at h9; exact h9); clear hT
            have HB1 := Lib.hid (((HB.out.drew.trans (hb1.mono HB.out.size)).setCell (p := ⟨wr.heap.size, 5, none⟩) hsz (.slice A5 n.kids.length c5)).alloc (Nat.le_trans hsz (by simp [World.setCell]; omega)) (nodeBox (Node.mk n.kind n.level n.text t n.title (relinkL n.kids tr)) (.slice A5 n.kids.length c5))); clear hb1
            go_wp2_with (at_builtin; have hh := HO.out; have k1 : (ps.length + 1) * 88 ≤ 140737488355328 := (by omega); have k2 : ps.length + 1 ≤ maxLen := (by unfold maxLen; omega); have k3 := HB1.out.size; have k4 := cell_new (w1.setCell ⟨wr.heap.size, 5, none⟩ (.slice A5 n.kids.length c5)) (nodeVals (Node.mk n.kind n.level n.text t n.title (relinkL n.kids tr)) (.slice A5 n.kids.length c5)) 75 w1.heap.size (by simp [World.setCell]); go_must (refine wpList_push _ rfl (.tmp 37) (.tmp 39) 31 rfl w.heap.size 75 _ 6 88 Try.underlying31 info_node rfl (by omega) (.slice Ao ps.length co) ps.length _ rfl hh (nodeVals (Node.mk n.kind n.level n.text t n.title (relinkL n.kids tr)) (.slice A5 n.kids.length c5)) rfl _ rfl k4 (six_cells _ _ rfl) k1 k2 k3 ?_); clear hh k1 k2 k3 k4; intro g1 c1 w2 h1 hw1 hg1 hb1)
            go_roundw
            case rel =>
              exact ⟨ps.length + 1, some ⟨g1, 0, none⟩, c1, ps ++ [⟨(Node.mk n.kind n.level n.text t n.title (relinkL n.kids tr)), .slice A5 n.kids.length c5, span (wr.heap.size + 1) w1.heap.size⟩], A7, m7, c7, by omega, by go_num, rfl, rfl, by show List.map _ _ = _; rw [List.map_append, hps.out, HT0.out]; rfl,
                Lib.hid (hparts.out.grow hsz HOk2.out HT.out HH0.out HH1.out (by simp [World.setCell]) (by omega) h1 hw1 hg1), HB1.out.trans hb1, by show OnesAt _ _ _; rw [HNext.out, HTail.out]; exact HOn7.out⟩
            case measure => simp [intOf]; omega
          · have HOn := Lib.hid (hones.out.tail (x := .string t) (xs := strs tr))
            go_wp2_with fail
            go_region
            all_goals go_wp2_with fail
            go_must (refine (HI.out n.kids _ (some ⟨bt, ot + 1, none⟩) (mt - 1) (ct - 1) tr _ HSz.out (HK.out.keep (Keeps.drew _)) hkt HOn.out HTn2.out HSs3.out HB0a.out.drew).mono ?_)
            rintro e w1 ⟨u, A7, m7, c7, rfl, hT, hb1, on7⟩
            obtain ⟨A5, c5, hu⟩ := hT.slice
            rw [relinkL_length] at hu
            subst hu
            have HOn7 := Lib.hid on7; clear on7
            have R0 := (hb1.cell (p := ⟨wr.heap.size, 0, none⟩) (by simp)).trans (cell_new wr (nodeVals (Node.mk n.kind n.level n.text t n.title (relinkL n.kids tr)) (.slice A3 n.kids.length c3)) _ _ rfl 0 _ rfl)
            have R1 := (hb1.cell (p := ⟨wr.heap.size, 1, none⟩) (by simp)).trans (cell_new wr (nodeVals (Node.mk n.kind n.level n.text t n.title (relinkL n.kids tr)) (.slice A3 n.kids.length c3)) _ _ rfl 1 _ rfl)
            have R2 := (hb1.cell (p := ⟨wr.heap.size, 2, none⟩) (by simp)).trans (cell_new wr (nodeVals (Node.mk n.kind n.level n.text t n.title (relinkL n.kids tr)) (.slice A3 n.kids.length c3)) _ _ rfl 2 _ rfl)
            have R3 := (hb1.cell (p := ⟨wr.heap.size, 3, none⟩) (by simp)).trans (cell_new wr (nodeVals (Node.mk n.kind n.level n.text t n.title (relinkL n.kids tr)) (.slice A3 n.kids.length c3)) _ _ rfl 3 _ rfl)
            have R4 := (hb1.cell (p := ⟨wr.heap.size, 4, none⟩) (by simp)).trans (cell_new wr (nodeVals (Node.mk n.kind n.level n.text t n.title (relinkL n.kids tr)) (.slice A3 n.kids.length c3)) _ _ rfl 4 _ rfl)
            have R5 := (hb1.cell (p := ⟨wr.heap.size, 5, none⟩) (by simp)).trans (cell_new wr (nodeVals (Node.mk n.kind n.level n.text t n.title (relinkL n.kids tr)) (.slice A3 n.kids.length c3)) _ _ rfl 5 _ rfl)
            have F5 := (hb1.frozen (p := ⟨wr.heap.size, 5, none⟩) (by simp)).trans (show (wr.alloc (nodeBox (Node.mk n.kind n.level n.text t n.title (relinkL n.kids tr)) (.slice A3 n.kids.length c3))).frozen? ⟨wr.heap.size, 5, none⟩ = false by go_simp)
            simp only [Node.kind, Node.level, Node.text, Node.dest, Node.title] at R0 R1 R2 R3 R4 R5
            have hz1 := hb1.size
            simp [World.drew] at hz1
            have hh0 : ∀ (o : Obj) (b : Nat), b < wr.heap.size → ((w1.setCell ⟨wr.heap.size, 5, none⟩ (.slice A5 n.kids.length c5)).alloc o).heap[b]? = wr.heap[b]? := fun o b hb => by
              rw [Below.heap_alloc _ _ _ (by simp [World.setCell]; omega), Below.heap_setCell _ _ _ _ (by simp; omega), hb1.block b (by simp; omega)]
              exact Below.heap_alloc _ _ _ hb
            have hh1 : ∀ (o : Obj) (b : Nat), wr.heap.size + 1 ≤ b → b < w1.heap.size → ((w1.setCell ⟨wr.heap.size, 5, none⟩ (.slice A5 n.kids.length c5)).alloc o).heap[b]? = w1.heap[b]? := fun o b hb hb2 => by
              rw [Below.heap_alloc _ _ _ (by simp [World.setCell]; omega), Below.heap_setCell _ _ _ _ (by simp; omega)]
            have HO := Lib.hid (hparts.out.later (hh0 (nodeBox (Node.mk n.kind n.level n.text t n.title (relinkL n.kids tr)) (.slice A5 n.kids.length c5)))).own
            have HH0 := Lib.hid (hh0 (nodeBox (Node.mk n.kind n.level n.text t n.title (relinkL n.kids tr)) (.slice A5 n.kids.length c5))); clear hh0
            have HH1 := Lib.hid (hh1 (nodeBox (Node.mk n.kind n.level n.text t n.title (relinkL n.kids tr)) (.slice A5 n.kids.length c5))); clear hh1
            have HT := Lib.hid (show TreeAt w1 (wr.heap.size + 1) (span (wr.heap.size + 1) w1.heap.size) (.slice A5 n.kids.length c5) (relinkL n.kids tr) by have h9 := hT; simp [World.drew] at h9; exact h9); clear hT
            have HB1 := Lib.hid (((HB.out.drew.trans (hb1.mono HB.out.size)).setCell (p := ⟨wr.heap.size, 5, none⟩) hsz (.slice A5 n.kids.length c5)).alloc (Nat.le_trans hsz (by simp [World.setCell]; omega)) (nodeBox (Node.mk n.kind n.level n.text t n.title (relinkL n.kids tr)) (.slice A5 n.kids.length c5))); clear hb1
            go_wp2_with (at_builtin; have hh := HO.out; have k1 : (ps.length + 1) * 88 ≤ 140737488355328 := (by omega); have k2 : ps.length + 1 ≤ maxLen := (by unfold maxLen; omega); have k3 := HB1.out.size; have k4 := cell_new (w1.setCell ⟨wr.heap.size, 5, none⟩ (.slice A5 n.kids.length c5)) (nodeVals (Node.mk n.kind n.level n.text t n.title (relinkL n.kids tr)) (.slice A5 n.kids.length c5)) 75 w1.heap.size (by simp [World.setCell]); go_must (refine wpList_push _ rfl (.tmp 37) (.tmp 39) 31 rfl w.heap.size 75 _ 6 88 Try.underlying31 info_node rfl (by omega) (.slice Ao ps.length co) ps.length _ rfl hh (nodeVals (Node.mk n.kind n.level n.text t n.title (relinkL n.kids tr)) (.slice A5 n.kids.length c5)) rfl _ rfl k4 (six_cells _ _ rfl) k1 k2 k3 ?_); clear hh k1 k2 k3 k4; intro g1 c1 w2 h1 hw1 hg1 hb1)
            go_roundw
            case rel =>
              exact ⟨ps.length + 1, some ⟨g1, 0, none⟩, c1, ps ++ [⟨(Node.mk n.kind n.level n.text t n.title (relinkL n.kids tr)), .slice A5 n.kids.length c5, span (wr.heap.size + 1) w1.heap.size⟩], A7, m7, c7, by omega, by go_num, rfl, rfl, by show List.map _ _ = _; rw [List.map_append, hps.out, HT0.out]; rfl,
                Lib.hid (hparts.out.grow hsz HOk2.out HT.out HH0.out HH1.out (by simp [World.setCell]) (by omega) h1 hw1 hg1), HB1.out.trans hb1, by show OnesAt _ _ _; rw [HNext.out, HTail.out]; exact HOn7.out⟩
            case measure => simp [intOf]; omega

        · have hlk : linkB n.kind = false := by unfold linkB; simp; omega
          have t17 : (n.kind == 17) = false := by simp; omega
          have t18 : (n.kind == 18) = false := by simp; omega
          rw [hlk] at htn
          simp only [if_false, Bool.false_eq_true] at htn
          clear hx
          have hNE : relinkN n tk = (Node.mk n.kind n.level n.text n.dest n.title (relinkL n.kids tk)) := by unfold relinkN; rw [hlk]; rfl
          have HTail := Lib.hid (show tk.drop (targetsN n).length = tk.drop (targetsL n.kids).length by rw [htn, Nat.zero_add])
          have HTn2 := Lib.hid (show (targetsL n.kids).length ≤ tk.length by omega)
          have HSs3 := HSs2
          have HOn := hones
          have HT0 := Lib.hid (HTk.out.trans (by rw [hNE]))
          have HOk2 := Lib.hid (show NodeOk (Node.mk n.kind n.level n.text n.dest n.title (relinkL n.kids tk)) by rw [← hNE]; exact HOk.out)
          clear hlk htn hlen4 hol1 hNE
          have HK := Lib.hid ((hkid.keep (Keeps.of_below HW.out)).keep (Keeps.alloc _ (nodeBox (Node.mk n.kind n.level n.text n.dest n.title (relinkL n.kids tk)) (.slice A3 n.kids.length c3)))); clear hkid
          have HB := Lib.hid (HW.out.alloc hsz (nodeBox (Node.mk n.kind n.level n.text n.dest n.title (relinkL n.kids tk)) (.slice A3 n.kids.length c3)))
          have HB0a := Lib.hid (HB0r.out.alloc HB0r.out.size (nodeBox (Node.mk n.kind n.level n.text n.dest n.title (relinkL n.kids tk)) (.slice A3 n.kids.length c3)))
          go_wp2_with fail
          go_must (refine (HI.out n.kids _ At mt ct tk _ HSz.out HK.out hkt HOn.out HTn2.out HSs3.out HB0a.out).mono ?_)
          rintro e w1 ⟨u, A7, m7, c7, rfl, hT, hb1, on7⟩
          obtain ⟨A5, c5, hu⟩ := hT.slice
          rw [relinkL_length] at hu
          subst hu
          have HOn7 := Lib.hid on7; clear on7
          have R0 := (hb1.cell (p := ⟨wr.heap.size, 0, none⟩) (by simp)).trans (cell_new wr (nodeVals (Node.mk n.kind n.level n.text n.dest n.title (relinkL n.kids tk)) (.slice A3 n.kids.length c3)) _ _ rfl 0 _ rfl)
          have R1 := (hb1.cell (p := ⟨wr.heap.size, 1, none⟩) (by simp)).trans (cell_new wr (nodeVals (Node.mk n.kind n.level n.text n.dest n.title (relinkL n.kids tk)) (.slice A3 n.kids.length c3)) _ _ rfl 1 _ rfl)
          have R2 := (hb1.cell (p := ⟨wr.heap.size, 2, none⟩) (by simp)).trans (cell_new wr (nodeVals (Node.mk n.kind n.level n.text n.dest n.title (relinkL n.kids tk)) (.slice A3 n.kids.length c3)) _ _ rfl 2 _ rfl)
          have R3 := (hb1.cell (p := ⟨wr.heap.size, 3, none⟩) (by simp)).trans (cell_new wr (nodeVals (Node.mk n.kind n.level n.text n.dest n.title (relinkL n.kids tk)) (.slice A3 n.kids.length c3)) _ _ rfl 3 _ rfl)
          have R4 := (hb1.cell (p := ⟨wr.heap.size, 4, none⟩) (by simp)).trans (cell_new wr (nodeVals (Node.mk n.kind n.level n.text n.dest n.title (relinkL n.kids tk)) (.slice A3 n.kids.length c3)) _ _ rfl 4 _ rfl)
          have R5 := (hb1.cell (p := ⟨wr.heap.size, 5, none⟩) (by simp)).trans (cell_new wr (nodeVals (Node.mk n.kind n.level n.text n.dest n.title (relinkL n.kids tk)) (.slice A3 n.kids.length c3)) _ _ rfl 5 _ rfl)
          have F5 := (hb1.frozen (p := ⟨wr.heap.size, 5, none⟩) (by simp)).trans (show (wr.alloc (nodeBox (Node.mk n.kind n.level n.text n.dest n.title (relinkL n.kids tk)) (.slice A3 n.kids.length c3))).frozen? ⟨wr.heap.size, 5, none⟩ = false by go_simp)
          simp only [Node.kind, Node.level, Node.text, Node.dest, Node.title] at R0 R1 R2 R3 R4 R5
          have hz1 := hb1.size
          simp only [World.size_alloc] at hz1
          have hh0 : ∀ (o : Obj) (b : Nat), b < wr.heap.size → ((w1.setCell ⟨wr.heap.size, 5, none⟩ (.slice A5 n.kids.length c5)).alloc o).heap[b]? = wr.heap[b]? := fun o b hb => by
            rw [Below.heap_alloc _ _ _ (by simp [World.setCell]; omega), Below.heap_setCell _ _ _ _ (by simp; omega), hb1.block b (by simp; omega)]
            exact Below.heap_alloc _ _ _ hb
          have hh1 : ∀ (o : Obj) (b : Nat), wr.heap.size + 1 ≤ b → b < w1.heap.size → ((w1.setCell ⟨wr.heap.size, 5, none⟩ (.slice A5 n.kids.length c5)).alloc o).heap[b]? = w1.heap[b]? := fun o b hb hb2 => by
            rw [Below.heap_alloc _ _ _ (by simp [World.setCell]; omega), Below.heap_setCell _ _ _ _ (by simp; omega)]
          have HO := Lib.hid (hparts.out.later (hh0 (nodeBox (Node.mk n.kind n.level n.text n.dest n.title (relinkL n.kids tk)) (.slice A5 n.kids.length c5)))).own
          have HH0 := Lib.hid (hh0 (nodeBox (Node.mk n.kind n.level n.text n.dest n.title (relinkL n.kids tk)) (.slice A5 n.kids.length c5))); clear hh0
          have HH1 := Lib.hid (hh1 (nodeBox (Node.mk n.kind n.level n.text n.dest n.title (relinkL n.kids tk)) (.slice A5 n.kids.length c5))); clear hh1
          have HT := Lib.hid (show TreeAt w1 (wr.heap.size + 1) (span (wr.heap.size + 1) w1.heap.size) (.slice A5 n.kids.length c5) (relinkL n.kids tk) by have h9 := hT; simp only [World.size_alloc] at h9; exact h9); clear hT
          have HB1 := Lib.hid (((HB.out.trans (hb1.mono HB.out.size)).setCell (p := ⟨wr.heap.size, 5, none⟩) hsz (.slice A5 n.kids.length c5)).alloc (Nat.le_trans hsz (by simp [World.setCell]; omega)) (nodeBox (Node.mk n.kind n.level n.text n.dest n.title (relinkL n.kids tk)) (.slice A5 n.kids.length c5))); clear hb1
          go_wp2_with (at_builtin; have hh := HO.out; have k1 : (ps.length + 1) * 88 ≤ 140737488355328 := (by omega); have k2 : ps.length + 1 ≤ maxLen := (by unfold maxLen; omega); have k3 := HB1.out.size; have k4 := cell_new (w1.setCell ⟨wr.heap.size, 5, none⟩ (.slice A5 n.kids.length c5)) (nodeVals (Node.mk n.kind n.level n.text n.dest n.title (relinkL n.kids tk)) (.slice A5 n.kids.length c5)) 75 w1.heap.size (by simp [World.setCell]); go_must (refine wpList_push _ rfl (.tmp 37) (.tmp 39) 31 rfl w.heap.size 75 _ 6 88 Try.underlying31 info_node rfl (by omega) (.slice Ao ps.length co) ps.length _ rfl hh (nodeVals (Node.mk n.kind n.level n.text n.dest n.title (relinkL n.kids tk)) (.slice A5 n.kids.length c5)) rfl _ rfl k4 (six_cells _ _ rfl) k1 k2 k3 ?_); clear hh k1 k2 k3 k4; intro g1 c1 w2 h1 hw1 hg1 hb1)
          go_roundw
          case rel =>
            exact ⟨ps.length + 1, some ⟨g1, 0, none⟩, c1, ps ++ [⟨(Node.mk n.kind n.level n.text n.dest n.title (relinkL n.kids tk)), .slice A5 n.kids.length c5, span (wr.heap.size + 1) w1.heap.size⟩], A7, m7, c7, by omega, by go_num, rfl, rfl, by show List.map _ _ = _; rw [List.map_append, hps.out, HT0.out]; rfl,
              Lib.hid (hparts.out.grow hsz HOk2.out HT.out HH0.out HH1.out (by simp [World.setCell]) (by omega) h1 hw1 hg1), HB1.out.trans hb1, by show OnesAt _ _ _; rw [HNext.out, HTail.out]; exact HOn7.out⟩
          case measure => simp [intOf]; omega

      · have hke : l.take k = l := by rw [List.take_of_length_le (by omega)]
        have hones2 := hones.out
        have hps2 := hps.out
        rw [hke] at hones2 hps2
        have HOn := Lib.hid hones2; clear hones2
        have HF := Lib.hid hps2; clear hps2
        clear hke
        go_wp2_with fail
        go_ret2
        refine ⟨_, At, mt, ct, rfl, ?_, hww, HOn.out⟩
        rw [← HF.out]
        exact hparts.out.tree

end Go.Proofs.Ytikcmmkeblgamaa
