/-
  MarkNests is proved: for all lists of entries Nested answers as the law's own look back does. No condition.
-/
import Derived.Test.YtgigdbkaehphiaaNested
import Derived.Test.YtgigdbkaehphiaaEqualInts
import Derived.Test.YtgigdbkaehphiaaLaw
namespace Go.Proofs.Ytgigdbkaehphiaa
open Go.RowKit Go.ChangeShapes Go.WideShapes Go.ChangeAt Go.Deep

set_option maxHeartbeats 2000000 in
theorem markNests_bad (l : List Entry) (v : Value) (w : World) (h : EntriesAt w v l) (hbad : ∃ n ∈ l, ¬ goodLevel n) (hsmall : l.length ≤ 4000) :
    Calls Try.prog 4 #[v] w fun e w' => e = .returned (.bool true) ∧ Below w.heap.size w w' := by
  have hcall := nested_bad l v w h hbad
  have HG := Lib.hid hbad; clear hbad
  obtain ⟨A, c, b, o, rfl, hlc, hc, hA, hcell⟩ := h
  unfold maxLen at hc
  have HCell := Lib.hid hcell; clear hcell
  have HCall := Lib.hid hcall; clear hcall
  have hs1 : ¬ (4000 : Int) < (l.length : Int) := by omega
  go_enter Try.func4, Try.ntmps4
  go_wp2_with fail
  refine HCall.out.mono ?_
  rintro e w1 ⟨rfl, hb1⟩
  have HB1 := Lib.hid hb1; clear hb1
  have hL : ∀ i n, l[i]? = some n → (levels l).getD i 0 = n.level := fun i n => levels_getD
  have HL := Lib.hid hL; clear hL
  go_wp2_with fail
  go_loopw [5, 19] (fun t5 t19 wr => ∃ (i : Nat) (Ao : Option Addr) (co : Nat), i ≤ l.length ∧ t19 = .int .i64 i ∧ t5 = .slice Ao i co ∧
      wr.ownsRow w1.heap.size 3 1 (.slice Ao i co) i ((parents (levels l) i).map (.int .i64)) ∧ (∀ (j : Nat) (n : Entry), l[j]? = some n → j < i → goodLevel n) ∧ Below w.heap.size w wr ∧ Below w1.heap.size w1 wr) (fun _ i _ => l.length - (intOf i).toNat)
  case atStart => exact ⟨0, none, 0, Nat.zero_le _, rfl, rfl, World.ownsRow_nil _ _ _ _, fun j n _ h => absurd h (by omega), HB1.out, Below.refl _ _⟩
  case round =>
    obtain ⟨i, Ao, co, hi, rfl, rfl, hout, hgd, hB, hB1⟩ := hrel
    by_cases hlt : i < l.length
    · have hA' := hA (by rintro rfl; simp at hlt)
      subst hA'
      obtain ⟨n, hn⟩ : ∃ n, l[i]? = some n := ⟨_, List.getElem?_eq_getElem hlt⟩
      obtain ⟨p0, p1, p2, _, _, _⟩ := (HCell.out i n hn).keep (Keeps.of_below hB)
      have bb := World.block_lt_of_cell? _ _ p0
      simp only at bb
      have hLn := HL.out i n hn
      have HLn := Lib.hid hLn; clear hLn
      have HN := Lib.hid hn; clear hn
      have HOut := Lib.hid hout; clear hout
      have HBw := Lib.hid hB; clear hB
      have HB1w := Lib.hid hB1; clear hB1
      have HGd := Lib.hid hgd; clear hgd
      clear hA
      by_cases hlev : 1 ≤ n.level ∧ n.level ≤ 6
      · obtain ⟨v1, v2⟩ := hlev
        have v1' : ¬ n.level < 1 := by omega
        have v2' : ¬ 6 < n.level := by omega
        obtain ⟨wo, rfl⟩ : ∃ wo : World, wo = wr := ⟨_, rfl⟩
        go_wp2_with fail
        go_loopw [8] (fun t8 w2 => ∃ (m q : Nat), m ≤ i ∧ t8 = .int .i64 ((m : Int) - 1) ∧
            w2 = (wo.alloc (.cells #[.int .i64 n.level, .string n.id, .string n.text] 30)).drewN q ∧
            scanN (levels l) n.level m = scanN (levels l) n.level i) (fun t8 _ => (intOf t8 + 1).toNat)
        case atStart => exact ⟨i, 0, Nat.le_refl _, rfl, rfl, rfl⟩
        case round =>
          obtain ⟨m, q, hm, rfl, rfl, hsc⟩ := hrel
          have HSc := Lib.hid hsc; clear hsc
          cases m with
          | zero =>
            rw [show (((0 : Nat) : Int) - 1) = -1 from rfl]
            go_wp2_with fail
            go_quiet (fail)
            have hh := own_drewN ((HOut.out.alloc (.cells #[.int .i64 n.level, .string n.id, .string n.text] 30)).alloc (.cells #[.int .i64 (-1)] 3)) (q + nq)
            have HH := Lib.hid hh; clear hh
            have HBx := Lib.hid (Below.drewN' ((HBw.out.alloc HBw.out.size (.cells #[.int .i64 n.level, .string n.id, .string n.text] 30)).alloc (Nat.le_trans HBw.out.size (by simp)) (.cells #[.int .i64 (-1)] 3)) (q + nq))
            have HBy := Lib.hid (Below.drewN' ((HB1w.out.alloc HB1w.out.size (.cells #[.int .i64 n.level, .string n.id, .string n.text] 30)).alloc (Nat.le_trans HB1w.out.size (by simp)) (.cells #[.int .i64 (-1)] 3)) (q + nq))
            go_wp2_with (at_builtin; have hh := HH.out; have k1 : (i + 1) * 8 ≤ 140737488355328 := (by omega); have k2 : i + 1 ≤ maxLen := (by unfold maxLen; omega); have k3 := HBy.out.size; have k4 := cell_new (wo.alloc (.cells #[.int .i64 n.level, .string n.id, .string n.text] 30)) [.int .i64 (-1)] 3 (wo.heap.size + 1) (by simp); go_must (refine wpList_push _ rfl (.tmp 55) (.tmp 57) 25 rfl w1.heap.size 3 (.int .i64 0) 1 8 Try.underlying25 info_int rfl (by omega) (.slice Ao i co) i _ rfl hh [.int .i64 (-1)] rfl _ rfl k4 (one_int _ _) k1 k2 k3 ?_); clear hh k1 k2 k3 k4; intro g1 c1 w2 h1 hw1 hg1 hb1)
            go_roundw
            case rel =>
              refine ⟨i + 1, _, c1, by omega, by go_num, rfl, ?_, ?_, HBx.out.trans (hb1.mono HB1.out.size), ?_⟩
              · rw [parents_succ, List.map_append]
                have hp : parent (levels l) i = -1 := by unfold parent; rw [HLn.out, ← HSc.out]; rfl
                simpa [hp] using h1
              · intro j n' hj hjk
                rcases Nat.lt_succ_iff_lt_or_eq.1 hjk with h | rfl
                · exact HGd.out j n' hj h
                · rw [HN.out] at hj
                  cases hj
                  exact ⟨v1, v2⟩
              · exact HBy.out.trans hb1
            case measure => simp [intOf]; omega
          | succ p =>
            rw [show (((p + 1 : Nat) : Int) - 1) = (p : Int) from by omega]
            obtain ⟨np, hnp⟩ : ∃ n, l[p]? = some n := ⟨_, List.getElem?_eq_getElem (by omega)⟩
            obtain ⟨r0, _, _, _, _, _⟩ := (HCell.out p np hnp).keep (Keeps.of_below HBw.out)
            have bp := World.block_lt_of_cell? _ _ r0
            simp only at bp
            have hLp := HL.out p np hnp
            have HLp := Lib.hid hLp; clear hLp
            have HNp := Lib.hid hnp; clear hnp
            by_cases ht : n.level ≤ np.level
            · have hsk : scanN (levels l) n.level (p + 1) = scanN (levels l) n.level p := by simp only [scanN]; rw [HLp.out, if_pos ht]
              have HSk := Lib.hid hsk; clear hsk
              go_wp2_with fail
              go_quiet (fail)
              go_wp2_with fail
              go_roundw
              case rel => exact ⟨p, q + nq, by omega, rfl, rfl, by rw [← HSk.out]; exact HSc.out⟩
              case measure => simp [intOf]
            · have hst := scanN_stop (levels l) (x := n.level) (k := p) (by rw [HLp.out]; exact ht)
              have HSt := Lib.hid hst; clear hst
              go_wp2_with fail
              go_quiet (fail)
              have hh := own_drewN ((HOut.out.alloc (.cells #[.int .i64 n.level, .string n.id, .string n.text] 30)).alloc (.cells #[.int .i64 (p : Int)] 3)) (q + nq)
              have HH := Lib.hid hh; clear hh
              have HBx := Lib.hid (Below.drewN' ((HBw.out.alloc HBw.out.size (.cells #[.int .i64 n.level, .string n.id, .string n.text] 30)).alloc (Nat.le_trans HBw.out.size (by simp)) (.cells #[.int .i64 (p : Int)] 3)) (q + nq))
              have HBy := Lib.hid (Below.drewN' ((HB1w.out.alloc HB1w.out.size (.cells #[.int .i64 n.level, .string n.id, .string n.text] 30)).alloc (Nat.le_trans HB1w.out.size (by simp)) (.cells #[.int .i64 (p : Int)] 3)) (q + nq))
              go_wp2_with (at_builtin; have hh := HH.out; have k1 : (i + 1) * 8 ≤ 140737488355328 := (by omega); have k2 : i + 1 ≤ maxLen := (by unfold maxLen; omega); have k3 := HBy.out.size; have k4 := cell_new (wo.alloc (.cells #[.int .i64 n.level, .string n.id, .string n.text] 30)) [.int .i64 (p : Int)] 3 (wo.heap.size + 1) (by simp); go_must (refine wpList_push _ rfl (.tmp 55) (.tmp 57) 25 rfl w1.heap.size 3 (.int .i64 0) 1 8 Try.underlying25 info_int rfl (by omega) (.slice Ao i co) i _ rfl hh [.int .i64 (p : Int)] rfl _ rfl k4 (one_int _ _) k1 k2 k3 ?_); clear hh k1 k2 k3 k4; intro g1 c1 w2 h1 hw1 hg1 hb1)
              go_roundw
              case rel =>
                refine ⟨i + 1, _, c1, by omega, by go_num, rfl, ?_, ?_, HBx.out.trans (hb1.mono HB1.out.size), ?_⟩
                · rw [parents_succ, List.map_append]
                  have hp : parent (levels l) i = (p : Int) := by unfold parent; rw [HLn.out, ← HSc.out, HSt.out]; omega
                  simpa [hp] using h1
                · intro j n' hj hjk
                  rcases Nat.lt_succ_iff_lt_or_eq.1 hjk with h | rfl
                  · exact HGd.out j n' hj h
                  · rw [HN.out] at hj
                    cases hj
                    exact ⟨v1, v2⟩
                · exact HBy.out.trans hb1
              case measure => simp [intOf]; omega
      · have hlev' : n.level < 1 ∨ 6 < n.level := by omega
        rcases hlev' with hl1 | hl1
        · go_wp2_with fail
          go_ret
          exact ⟨rfl, HBw.out.alloc HBw.out.size _⟩
        · have hl2 : ¬ n.level < 1 := by omega
          go_wp2_with fail
          go_ret
          exact ⟨rfl, HBw.out.alloc HBw.out.size _⟩
    · exfalso
      obtain ⟨n, hn, hg⟩ := HG.out
      obtain ⟨j, hj⟩ := List.getElem?_of_mem hn
      exact hg (hgd j n hj (by have := (List.getElem?_eq_some_iff.1 hj).1; omega))

set_option maxHeartbeats 2000000 in
theorem markNests_good (l : List Entry) (v : Value) (w : World) (h : EntriesAt w v l) (hgood : ∀ n ∈ l, goodLevel n) (hsmall : l.length ≤ 4000) :
    Calls Try.prog 4 #[v] w fun e w' => e = .returned (.bool true) ∧ Below w.heap.size w w' := by
  have hcall := nested_good l v w h hgood hsmall
  have HG := Lib.hid hgood; clear hgood
  obtain ⟨A, c, b, o, rfl, hlc, hc, hA, hcell⟩ := h
  unfold maxLen at hc
  have HCell := Lib.hid hcell; clear hcell
  have HCall := Lib.hid hcall; clear hcall
  have hs1 : ¬ (4000 : Int) < (l.length : Int) := by omega
  go_enter Try.func4, Try.ntmps4
  go_wp2_with fail
  refine HCall.out.mono ?_
  rintro e w1 ⟨u, rfl, hu, hb1⟩
  obtain ⟨Ag, cg, bg, og, rfl, hgl, hgc, hgA, hgcell⟩ := hu
  have HU := Lib.hid (show OnesAt w1 (.slice Ag ((parents (levels l) l.length).map (.int .i64)).length cg) _ from ⟨Ag, cg, bg, og, rfl, hgl, hgc, hgA, hgcell⟩)
  clear hgA hgcell hgl hgc
  generalize hng : ((parents (levels l) l.length).map (Value.int .i64)).length = ng
  have Hng := Lib.hid hng; clear hng
  have HB1 := Lib.hid hb1; clear hb1
  have hL : ∀ i n, l[i]? = some n → (levels l).getD i 0 = n.level := fun i n => levels_getD
  have HL := Lib.hid hL; clear hL
  go_wp2_with fail
  go_loopw [5, 19] (fun t5 t19 wr => ∃ (i : Nat) (Ao : Option Addr) (co : Nat), i ≤ l.length ∧ t19 = .int .i64 i ∧ t5 = .slice Ao i co ∧
      wr.ownsRow w1.heap.size 3 1 (.slice Ao i co) i ((parents (levels l) i).map (.int .i64)) ∧ (∀ (j : Nat) (n : Entry), l[j]? = some n → j < i → goodLevel n) ∧ Below w.heap.size w wr ∧ Below w1.heap.size w1 wr) (fun _ i _ => l.length - (intOf i).toNat)
  case atStart => exact ⟨0, none, 0, Nat.zero_le _, rfl, rfl, World.ownsRow_nil _ _ _ _, fun j n _ h => absurd h (by omega), HB1.out, Below.refl _ _⟩
  case round =>
    obtain ⟨i, Ao, co, hi, rfl, rfl, hout, hgd, hB, hB1⟩ := hrel
    by_cases hlt : i < l.length
    · have hA' := hA (by rintro rfl; simp at hlt)
      subst hA'
      obtain ⟨n, hn⟩ : ∃ n, l[i]? = some n := ⟨_, List.getElem?_eq_getElem hlt⟩
      obtain ⟨p0, p1, p2, _, _, _⟩ := (HCell.out i n hn).keep (Keeps.of_below hB)
      have bb := World.block_lt_of_cell? _ _ p0
      simp only at bb
      have hLn := HL.out i n hn
      have HLn := Lib.hid hLn; clear hLn
      have HN := Lib.hid hn; clear hn
      have HOut := Lib.hid hout; clear hout
      have HBw := Lib.hid hB; clear hB
      have HB1w := Lib.hid hB1; clear hB1
      have HGd := Lib.hid hgd; clear hgd
      clear hA
      by_cases hlev : 1 ≤ n.level ∧ n.level ≤ 6
      · obtain ⟨v1, v2⟩ := hlev
        have v1' : ¬ n.level < 1 := by omega
        have v2' : ¬ 6 < n.level := by omega
        obtain ⟨wo, rfl⟩ : ∃ wo : World, wo = wr := ⟨_, rfl⟩
        go_wp2_with fail
        go_loopw [8] (fun t8 w2 => ∃ (m q : Nat), m ≤ i ∧ t8 = .int .i64 ((m : Int) - 1) ∧
            w2 = (wo.alloc (.cells #[.int .i64 n.level, .string n.id, .string n.text] 30)).drewN q ∧
            scanN (levels l) n.level m = scanN (levels l) n.level i) (fun t8 _ => (intOf t8 + 1).toNat)
        case atStart => exact ⟨i, 0, Nat.le_refl _, rfl, rfl, rfl⟩
        case round =>
          obtain ⟨m, q, hm, rfl, rfl, hsc⟩ := hrel
          have HSc := Lib.hid hsc; clear hsc
          cases m with
          | zero =>
            rw [show (((0 : Nat) : Int) - 1) = -1 from rfl]
            go_wp2_with fail
            go_quiet (fail)
            have hh := own_drewN ((HOut.out.alloc (.cells #[.int .i64 n.level, .string n.id, .string n.text] 30)).alloc (.cells #[.int .i64 (-1)] 3)) (q + nq)
            have HH := Lib.hid hh; clear hh
            have HBx := Lib.hid (Below.drewN' ((HBw.out.alloc HBw.out.size (.cells #[.int .i64 n.level, .string n.id, .string n.text] 30)).alloc (Nat.le_trans HBw.out.size (by simp)) (.cells #[.int .i64 (-1)] 3)) (q + nq))
            have HBy := Lib.hid (Below.drewN' ((HB1w.out.alloc HB1w.out.size (.cells #[.int .i64 n.level, .string n.id, .string n.text] 30)).alloc (Nat.le_trans HB1w.out.size (by simp)) (.cells #[.int .i64 (-1)] 3)) (q + nq))
            go_wp2_with (at_builtin; have hh := HH.out; have k1 : (i + 1) * 8 ≤ 140737488355328 := (by omega); have k2 : i + 1 ≤ maxLen := (by unfold maxLen; omega); have k3 := HBy.out.size; have k4 := cell_new (wo.alloc (.cells #[.int .i64 n.level, .string n.id, .string n.text] 30)) [.int .i64 (-1)] 3 (wo.heap.size + 1) (by simp); go_must (refine wpList_push _ rfl (.tmp 55) (.tmp 57) 25 rfl w1.heap.size 3 (.int .i64 0) 1 8 Try.underlying25 info_int rfl (by omega) (.slice Ao i co) i _ rfl hh [.int .i64 (-1)] rfl _ rfl k4 (one_int _ _) k1 k2 k3 ?_); clear hh k1 k2 k3 k4; intro g1 c1 w2 h1 hw1 hg1 hb1)
            go_roundw
            case rel =>
              refine ⟨i + 1, _, c1, by omega, by go_num, rfl, ?_, ?_, HBx.out.trans (hb1.mono HB1.out.size), ?_⟩
              · rw [parents_succ, List.map_append]
                have hp : parent (levels l) i = -1 := by unfold parent; rw [HLn.out, ← HSc.out]; rfl
                simpa [hp] using h1
              · intro j n' hj hjk
                rcases Nat.lt_succ_iff_lt_or_eq.1 hjk with h | rfl
                · exact HGd.out j n' hj h
                · rw [HN.out] at hj
                  cases hj
                  exact ⟨v1, v2⟩
              · exact HBy.out.trans hb1
            case measure => simp [intOf]; omega
          | succ p =>
            rw [show (((p + 1 : Nat) : Int) - 1) = (p : Int) from by omega]
            obtain ⟨np, hnp⟩ : ∃ n, l[p]? = some n := ⟨_, List.getElem?_eq_getElem (by omega)⟩
            obtain ⟨r0, _, _, _, _, _⟩ := (HCell.out p np hnp).keep (Keeps.of_below HBw.out)
            have bp := World.block_lt_of_cell? _ _ r0
            simp only at bp
            have hLp := HL.out p np hnp
            have HLp := Lib.hid hLp; clear hLp
            have HNp := Lib.hid hnp; clear hnp
            by_cases ht : n.level ≤ np.level
            · have hsk : scanN (levels l) n.level (p + 1) = scanN (levels l) n.level p := by simp only [scanN]; rw [HLp.out, if_pos ht]
              have HSk := Lib.hid hsk; clear hsk
              go_wp2_with fail
              go_quiet (fail)
              go_wp2_with fail
              go_roundw
              case rel => exact ⟨p, q + nq, by omega, rfl, rfl, by rw [← HSk.out]; exact HSc.out⟩
              case measure => simp [intOf]
            · have hst := scanN_stop (levels l) (x := n.level) (k := p) (by rw [HLp.out]; exact ht)
              have HSt := Lib.hid hst; clear hst
              go_wp2_with fail
              go_quiet (fail)
              have hh := own_drewN ((HOut.out.alloc (.cells #[.int .i64 n.level, .string n.id, .string n.text] 30)).alloc (.cells #[.int .i64 (p : Int)] 3)) (q + nq)
              have HH := Lib.hid hh; clear hh
              have HBx := Lib.hid (Below.drewN' ((HBw.out.alloc HBw.out.size (.cells #[.int .i64 n.level, .string n.id, .string n.text] 30)).alloc (Nat.le_trans HBw.out.size (by simp)) (.cells #[.int .i64 (p : Int)] 3)) (q + nq))
              have HBy := Lib.hid (Below.drewN' ((HB1w.out.alloc HB1w.out.size (.cells #[.int .i64 n.level, .string n.id, .string n.text] 30)).alloc (Nat.le_trans HB1w.out.size (by simp)) (.cells #[.int .i64 (p : Int)] 3)) (q + nq))
              go_wp2_with (at_builtin; have hh := HH.out; have k1 : (i + 1) * 8 ≤ 140737488355328 := (by omega); have k2 : i + 1 ≤ maxLen := (by unfold maxLen; omega); have k3 := HBy.out.size; have k4 := cell_new (wo.alloc (.cells #[.int .i64 n.level, .string n.id, .string n.text] 30)) [.int .i64 (p : Int)] 3 (wo.heap.size + 1) (by simp); go_must (refine wpList_push _ rfl (.tmp 55) (.tmp 57) 25 rfl w1.heap.size 3 (.int .i64 0) 1 8 Try.underlying25 info_int rfl (by omega) (.slice Ao i co) i _ rfl hh [.int .i64 (p : Int)] rfl _ rfl k4 (one_int _ _) k1 k2 k3 ?_); clear hh k1 k2 k3 k4; intro g1 c1 w2 h1 hw1 hg1 hb1)
              go_roundw
              case rel =>
                refine ⟨i + 1, _, c1, by omega, by go_num, rfl, ?_, ?_, HBx.out.trans (hb1.mono HB1.out.size), ?_⟩
                · rw [parents_succ, List.map_append]
                  have hp : parent (levels l) i = (p : Int) := by unfold parent; rw [HLn.out, ← HSc.out, HSt.out]; omega
                  simpa [hp] using h1
                · intro j n' hj hjk
                  rcases Nat.lt_succ_iff_lt_or_eq.1 hjk with h | rfl
                  · exact HGd.out j n' hj h
                  · rw [HN.out] at hj
                    cases hj
                    exact ⟨v1, v2⟩
                · exact HBy.out.trans hb1
              case measure => simp [intOf]; omega
      · have hlev' : n.level < 1 ∨ 6 < n.level := by omega
        exact absurd (HG.out n (List.mem_of_getElem? HN.out)) hlev
    · have hie : i = l.length := by omega
      subst hie
      have hEq := equalInts_any _ _ _ _ wr (HU.out.keep (Keeps.of_below hB1)) (OnesAt.of_own hout)
      rw [Hng.out] at hEq
      have HEq := Lib.hid hEq; clear hEq
      have HBw := Lib.hid hB; clear hB hB1 hout hgd
      go_wp2_with fail
      refine HEq.out.mono ?_
      rintro e w3 ⟨rfl, hb3⟩
      have ht : (parents (levels l) l.length == parents (levels l) l.length) = true := by simp
      have HB3 := Lib.hid hb3; clear hb3
      go_wp2_with fail
      go_ret
      exact ⟨rfl, HBw.out.trans (HB3.out.mono HBw.out.size)⟩

theorem markNests_walk (l : List Entry) (v : Value) (w : World) (h : EntriesAt w v l) :
    Calls Try.prog 4 #[v] w fun e w' => e = .returned (.bool true) ∧ Below w.heap.size w w' := by
  by_cases hsmall : l.length ≤ 4000
  · by_cases hg : ∀ n ∈ l, goodLevel n
    · exact markNests_good l v w h hg hsmall
    · exact markNests_bad l v w h (by
        apply Classical.byContradiction
        intro hn
        exact hg (fun n hm => Classical.byContradiction fun hc => hn ⟨n, hm, hc⟩)) hsmall
  · obtain ⟨A, c, b, o, rfl, hlc, hc, hA, hcell⟩ := h
    unfold maxLen at hc
    have hs1 : (4000 : Int) < (l.length : Int) := by omega
    clear hcell hA
    go_enter Try.func4, Try.ntmps4
    go_wp2_with fail
    go_ret
    exact ⟨rfl, Below.refl _ _⟩

set_option maxRecDepth 100000 in
theorem markNests_calls (H : Type) (enc : TypeId × Value → H) (W : World) (base : Nat) (args : Array Value) (ds gs : List (DataW H)) (before : List MemPlace)
    (hval : ∀ (j : Nat) t v, Try.f4.params[j]? = some t → args[j]? = some v → Value.okWide Try.prog W .any base t v)
    (hW : DataW.Whole enc Try.prog Try.f4.params.toList Rows.markNestsSpec.vars false W args.toList ds gs before) :
    Calls Try.prog 4 args W fun e W' => ∃ v, e = .returned v ∧ Rows.markNestsSpec.post enc Try.prog Try.f4 false true false false W args v W' := by
  have hW' := hW
  obtain ⟨p, q, hA0, hV, rfl, hfz, hnd⟩ := hW
  have hA : DataW.TrodAll enc Try.prog W 0 (fun _ => true) true Try.f4.params.toList args.toList ds p := hA0
  rw [Try.params4] at hA hval
  obtain ⟨v0, d0, rfl, rfl, h0⟩ := trodAll_one hA
  obtain ⟨rfl, rfl⟩ := trodVars_none hV
  obtain ⟨fu0, g0⟩ := h0
  obtain ⟨u0, l0, e0, n0⟩ := open_entries _ _ _ g0
  obtain ⟨a0, len0, cap0, rfl⟩ := okWide_slice Try.underlying24 (hval 0 24 v0 rfl rfl)
  simp only [Value.cells, List.cons.injEq, and_true] at e0
  subst e0
  refine (markNests_walk l0 _ W n0).mono fun e W' ⟨he, hb⟩ => ?_
  subst he
  refine ⟨_, rfl, law_post rfl rfl (tb := 4) (by kernel_rfl) Try.underlying4 ?_ hW' hb⟩
  rw [Try.params4]
  intro t ht
  simp only [List.mem_cons, List.not_mem_nil, or_false] at ht
  subst ht
  exact ⟨by kernel_rfl, of_decide_eq_true (by kernel_rfl)⟩

set_option maxRecDepth 100000 in
theorem markNests_lifted (os : Os) (started : os.Started) (H : Type) (enc : TypeId × Value → H) :
    ReturnsInHanded {} Try.checked os 4 .any (Rows.markNestsSpec.pre6 enc Try.prog Try.f4 Rows.markNestsRow.domain false) (Rows.markNestsSpec.post enc Try.prog Try.f4 false true false false) := by
  refine returnsInHanded_of_change (C := Try.checked) own started (by kernel_rfl) Try.func4
    (ChangeSpec.witness6 (enc := enc) (C := Try.checked) false ⟨#[], #[.slice none 0 0], []⟩ 8 (by kernel_rfl) (by kernel_rfl) (by kernel_rfl) (by kernel_rfl)) ?_
  intro W base args ds gs before hval0 hW _ _
  exact markNests_calls H enc W base args ds gs before hval0 hW

theorem markNests_holds : Rows.MarkNestsSaid :=
  OpenClaim.holds_of_wide 4 Try.f4 rfl rfl rfl rfl rfl rfl rfl ⟨rfl, rfl, rfl, rfl, rfl⟩ rfl rfl rfl rfl rfl (by kernel_rfl) Try.func4 (by kernel_rfl)
    (of_decide_eq_true (by kernel_rfl)) (by unfold Func.isWrapper; first | (rw [if_pos (by decide +kernel)]; kernel_rfl) | (rw [if_neg (by decide +kernel)]; exact ⟨rfl, rfl⟩))
    (fun os started H enc _ => markNests_lifted os started H enc)

end Go.Proofs.Ytgigdbkaehphiaa
