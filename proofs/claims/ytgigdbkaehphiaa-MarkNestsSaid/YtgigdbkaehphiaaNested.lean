/-
  mark.Nested: to which entry each one belongs.
-/
import Derived.Test.YtgigdbkaehphiaaOwn
import Derived.Test.YtgigdbkaehphiaaEntries
import Derived.Test.YtgigdbkaehphiaaNestPlain
import Derived.BigQuiet
import Derived.Deep.QuietTactic
import Derived.Outline
import Derived.RegionTactic
import Derived.WalkSmall
import Derived.Deep.DeepMust
namespace Go.Proofs.Ytgigdbkaehphiaa
open Go.RowKit Go.Deep

theorem info_int : (Try.prog.info? 3).map (fun i => (i.zero, i.size, i.bytes)) = some (some (.int .i64 0), 1, 8) := by kernel_rfl

def levels (l : List Entry) : List Int := l.map (·.level)
def goodLevel (n : Entry) : Prop := 1 ≤ n.level ∧ n.level ≤ 6

theorem levels_getD {l : List Entry} {i : Nat} {n : Entry} (h : l[i]? = some n) : (levels l).getD i 0 = n.level := by simp [levels, List.getD, h]

set_option maxHeartbeats 1000000 in
/-- an entry beyond the bounds: no list, and the error -/
theorem nested_bad (l : List Entry) (v : Value) (w : World) (h : EntriesAt w v l) (hbad : ∃ n ∈ l, ¬ goodLevel n) :
    Calls Try.prog 13 #[v] w fun e w' => e = .returned (.tuple #[.slice none 0 0, .int .i64 2]) ∧ Below w.heap.size w w' := by
  obtain ⟨A, c, b, o, rfl, hlc, hc, hA, hcell⟩ := h
  unfold maxLen at hc
  have HB := Lib.hid hbad; clear hbad
  go_enter Try.func13, Try.ntmps13
  go_wp2_with fail
  go_loopw [12] (fun i wr => ∃ k : Nat, k ≤ l.length ∧ i = .int .i64 k ∧ (∀ j n, l[j]? = some n → j < k → goodLevel n) ∧ Below w.heap.size w wr) (fun i _ => l.length - (intOf i).toNat)
  case atStart => exact ⟨0, Nat.zero_le _, rfl, fun j n _ h => absurd h (by omega), Below.refl _ _⟩
  case round =>
    obtain ⟨k, hk, rfl, hs, hB⟩ := hrel
    by_cases hlt : k < l.length
    · have hA' := hA (by rintro rfl; simp at hlt)
      subst hA'
      obtain ⟨n, hn⟩ : ∃ n, l[k]? = some n := ⟨_, List.getElem?_eq_getElem hlt⟩
      obtain ⟨p0, p1, p2, _, _, _⟩ := (hcell k n hn).keep (Keeps.of_below hB)
      have bb := World.block_lt_of_cell? _ _ p0
      simp only at bb
      have HS := Lib.hid hs; clear hs
      have HN := Lib.hid hn; clear hn
      have HBl := Lib.hid hB; clear hB
      clear hcell hA
      go_wp2_with fail
      all_goals first
        | (go_ret2
           exact ⟨rfl, HBl.out.alloc HBl.out.size _⟩)
        | (have hg : 1 ≤ n.level ∧ n.level ≤ 6 := by assumption
           go_roundw
           case rel =>
             refine ⟨k + 1, by omega, by go_num, fun j n' hj hjk => ?_, HBl.out.alloc HBl.out.size _⟩
             rcases Nat.lt_succ_iff_lt_or_eq.1 hjk with h1 | rfl
             · exact HS.out j n' hj h1
             · rw [HN.out] at hj
               cases hj
               exact hg
           case measure => simp [intOf]; omega)
    · exfalso
      obtain ⟨n, hn, hg⟩ := HB.out
      obtain ⟨j, hj⟩ := List.getElem?_of_mem hn
      exact hg (hs j n hj (by have := (List.getElem?_eq_some_iff.1 hj).1; omega))

/-- what holds at the head of a round of the second loop -/
def NestRel (l : List Entry) (B : Nat) (w0 : World) (t6 t7 t27 : Value) (wr : World) : Prop :=
  ∃ (i : Nat) (Ao Ap : Option Addr) (co cp : Nat), i ≤ l.length ∧ t27 = .int .i64 i ∧ t6 = .slice Ao i co ∧ t7 = .slice Ap (chain (levels l) i).length cp ∧
    wr.ownsRow B 3 1 (.slice Ao i co) i ((parents (levels l) i).map (.int .i64)) ∧ wr.ownsRow B 3 1 (.slice Ap (chain (levels l) i).length cp) (chain (levels l) i).length ((chain (levels l) i).map fun (j : Nat) => Value.int .i64 (j : Int)) ∧
    Apart (.slice Ao i co) (.slice Ap (chain (levels l) i).length cp) ∧ Below B w0 wr

/-- what a round leaves -/
theorem nest_round {l : List Entry} {B : Nat} {w0 w1 w2 w3 : World} {i m : Nat} {Ao Aq : Option Addr} {co cq g1 c1 g2 c2 : Nat} {x : Int} {n : Entry}
    (hn : l[i]? = some n) (hsc : scanN (levels l) n.level i = m) (hx : x = (m : Int) - 1)
    (hop : w1.ownsRow B 3 1 (.slice Aq (chain (levels l) m).length cq) (chain (levels l) m).length ((chain (levels l) m).map fun (j : Nat) => Value.int .i64 (j : Int)))
    (hap : Apart (.slice Ao i co) (.slice Aq (chain (levels l) m).length cq))
    (h1 : w2.ownsRow B 3 1 (.slice (some ⟨g1, 0, none⟩) (i + 1) c1) (i + 1) ((parents (levels l) i).map (.int .i64) ++ [.int .i64 x])) (hg1 : (Value.slice Ao i co).ownBlock = some g1 ∨ w1.heap.size ≤ g1)
    (h2 : w3.ownsRow B 3 1 (.slice (some ⟨g2, 0, none⟩) ((chain (levels l) m).length + 1) c2) ((chain (levels l) m).length + 1) (((chain (levels l) m).map fun (j : Nat) => Value.int .i64 (j : Int)) ++ [.int .i64 (i : Int)]))
    (hw2 : w2.grownBy w3 (Value.slice Aq (chain (levels l) m).length cq).ownBlock) (hg2 : (Value.slice Aq (chain (levels l) m).length cq).ownBlock = some g2 ∨ w2.heap.size ≤ g2) (hb : Below B w0 w3) :
    NestRel l B w0 (.slice (some ⟨g1, 0, none⟩) (i + 1) c1) (.slice (some ⟨g2, 0, none⟩) ((chain (levels l) m).length + 1) c2) (.int .i64 ((i : Int) + 1)) w3 := by
  have hlt : i < l.length := (List.getElem?_eq_some_iff.1 hn).1
  have hL := levels_getD hn
  have hc : chain (levels l) (i + 1) = chain (levels l) m ++ [i] := by rw [chain_succ, hL, hsc]
  have ha1 : Apart (.slice (some ⟨g1, 0, none⟩) (i + 1) c1) (.slice Aq (chain (levels l) m).length cq) := hap.push hg1 (own_lt hop)
  have hl1 : w2.ownsRow B 3 1 (.slice (some ⟨g1, 0, none⟩) (i + 1) c1) (i + 1) ((parents (levels l) i).map (.int .i64) ++ [.int .i64 x]) := h1
  have ha2 := (ha1.symm.push (n := (chain (levels l) m).length + 1) (cap := c2) hg2 (own_lt h1)).symm
  refine ⟨i + 1, _, some ⟨g2, 0, none⟩, c1, c2, by omega, by go_num, rfl, by rw [hc]; simp, ?_, ?_, ?_, hb⟩
  · have := h1.kept hw2 ha1.or
    rw [parents_succ, List.map_append]
    have hp : parent (levels l) i = x := by unfold parent; rw [hL, hsc, hx]
    simpa [hp] using this
  · rw [hc, List.length_append, List.map_append]
    exact h2
  · rw [hc, List.length_append]
    exact ha2

set_option maxHeartbeats 2000000 in
/-- all within the bounds: each one's place, and no error -/
theorem nested_good (l : List Entry) (v : Value) (w : World) (h : EntriesAt w v l) (hgood : ∀ n ∈ l, goodLevel n) (hsmall : l.length ≤ 4000) :
    Calls Try.prog 13 #[v] w fun e w' => ∃ u, e = .returned (.tuple #[u, .int .i64 0]) ∧ OnesAt w' u ((parents (levels l) l.length).map (.int .i64)) ∧ Below w.heap.size w w' := by
  obtain ⟨A, c, b, o, rfl, hlc, hc, hA, hcell⟩ := h
  unfold maxLen at hc
  have HG := Lib.hid hgood; clear hgood
  go_enter Try.func13, Try.ntmps13
  go_wp2_with fail
  go_loopw [12] (fun i wr => ∃ k : Nat, k ≤ l.length ∧ i = .int .i64 k ∧ Below w.heap.size w wr) (fun i _ => l.length - (intOf i).toNat)
  case atStart => exact ⟨0, Nat.zero_le _, rfl, Below.refl _ _⟩
  case round =>
    obtain ⟨k, hk, rfl, hB⟩ := hrel
    by_cases hlt : k < l.length
    · have hA' := hA (by rintro rfl; simp at hlt)
      subst hA'
      obtain ⟨n, hn⟩ : ∃ n, l[k]? = some n := ⟨_, List.getElem?_eq_getElem hlt⟩
      obtain ⟨p0, p1, p2, _, _, _⟩ := (hcell k n hn).keep (Keeps.of_below hB)
      obtain ⟨g1, g2⟩ := HG.out n (List.mem_of_getElem? hn)
      have g1' : ¬ n.level < 1 := by omega
      have g2' : ¬ 6 < n.level := by omega
      have bb := World.block_lt_of_cell? _ _ p0
      simp only at bb
      have HBl := Lib.hid hB; clear hB hn
      clear hcell hA
      go_wp2_with fail
      go_roundw
      case rel => exact ⟨k + 1, by omega, by go_num, HBl.out.alloc HBl.out.size _⟩
      case measure => simp [intOf]; omega
    · have HBl := Lib.hid hB; clear hB
      go_wp2_with fail
      have hL : ∀ i n, l[i]? = some n → (levels l).getD i 0 = n.level := fun i n => levels_getD
      have HL := Lib.hid hL; clear hL
      go_loopw [6, 7, 27] (fun t6 t7 t27 wr => NestRel l w.heap.size w t6 t7 t27 wr) (fun _ _ i _ => l.length - (intOf i).toNat)
      case atStart => exact ⟨0, none, none, 0, 0, Nat.zero_le _, rfl, rfl, by rw [chain_zero]; rfl, World.ownsRow_nil _ _ _ _, by rw [chain_zero]; exact World.ownsRow_nil _ _ _ _, Apart.nil _ _, HBl.out⟩
      case round =>
        obtain ⟨i, Ao, Ap, co, cp, hi, rfl, rfl, rfl, hout, hop, hap, hB⟩ := hrel
        by_cases hlt : i < l.length
        · have hA' := hA (by rintro rfl; simp at hlt)
          subst hA'
          obtain ⟨n, hn⟩ : ∃ n, l[i]? = some n := ⟨_, List.getElem?_eq_getElem hlt⟩
          obtain ⟨p0, p1, p2, _, _, _⟩ := (hcell i n hn).keep (Keeps.of_below hB)
          have bb := World.block_lt_of_cell? _ _ p0
          simp only at bb
          have HCell := Lib.hid hcell; clear hcell
          have HN := Lib.hid hn; clear hn
          have HOut := Lib.hid hout; clear hout
          have HOp := Lib.hid hop; clear hop
          have HAp := Lib.hid hap; clear hap
          have hB0 := Lib.hid hB.size
          have HBw := Lib.hid hB; clear hB
          generalize hcl : (chain (levels l) i).length = cl
          have HCl := Lib.hid hcl; clear hcl
          clear hA
          go_wp2_with fail
          obtain ⟨wo, rfl⟩ : ∃ wo : World, wo = wr := ⟨_, rfl⟩
          go_loopw [7] (fun t7 w2 => ∃ (m q : Nat) (Aq : Option Addr) (cq : Nat), m ≤ i ∧ t7 = .slice Aq (chain (levels l) m).length cq ∧
              w2 = (wo.alloc (.cells #[.int .i64 n.level, .string n.id, .string n.text] 30)).drewN q ∧
              wo.ownsRow w.heap.size 3 1 (.slice Aq (chain (levels l) m).length cq) (chain (levels l) m).length ((chain (levels l) m).map fun (j : Nat) => Value.int .i64 (j : Int)) ∧
              scanN (levels l) n.level m = scanN (levels l) n.level i ∧ Apart (.slice Ao i co) (.slice Aq (chain (levels l) m).length cq)) (fun t7 _ => sliceLen t7)
          case atStart =>
            exact ⟨i, 0, Ap, cp, Nat.le_refl _, by rw [HCl.out], rfl, HOp.out, rfl, HAp.out⟩
          case round =>
            obtain ⟨m, q, Aq, cq, hm, rfl, rfl, hoq, hsc, haq⟩ := hrel
            have HSc := Lib.hid hsc; clear hsc
            have HOq := Lib.hid hoq; clear hoq
            have HAq := Lib.hid haq; clear haq
            cases m with
            | zero =>
              have e0 : (chain (levels l) 0).length = 0 := by rw [chain_zero]; rfl
              have HE := Lib.hid e0
              rw [e0]
              clear e0
              go_wp2_with fail
              go_quiet (fail)
              have HO := Lib.hid (own_drewN ((HOut.out.alloc (.cells #[.int .i64 n.level, .string n.id, .string n.text] 30)).alloc (.cells #[.int .i64 (-1)] 3)) (q + nq))
              have HQ := Lib.hid (own_drewN ((HOq.out.alloc (.cells #[.int .i64 n.level, .string n.id, .string n.text] 30)).alloc (.cells #[.int .i64 (-1)] 3)) (q + nq))
              have HBx := Lib.hid (Below.drewN' ((HBw.out.alloc HBw.out.size (.cells #[.int .i64 n.level, .string n.id, .string n.text] 30)).alloc (Nat.le_trans HBw.out.size (by simp)) (.cells #[.int .i64 (-1)] 3)) (q + nq))
              go_wp2_with (first
                | (at_builtin; have hh := HO.out; have k1 : (i + 1) * 8 ≤ 140737488355328 := (by omega); have k2 : i + 1 ≤ maxLen := (by unfold maxLen; omega); have k3 := HBx.out.size; have k4 := cell_new (wo.alloc (.cells #[.int .i64 n.level, .string n.id, .string n.text] 30)) [.int .i64 (-1)] 3 (wo.heap.size + 1) (by simp); (refine wpList_push _ rfl (.tmp 58) (.tmp 59) 25 rfl w.heap.size 3 (.int .i64 0) 1 8 Try.underlying25 info_int rfl (by omega) (.slice Ao i co) i _ rfl hh [.int .i64 (-1)] rfl _ rfl k4 (one_int _ _) k1 k2 k3 ?_); clear hh k1 k2 k3 k4; intro g1 c1 w2 h1 hw1 hg1 hb1)
                | (at_builtin; go_loud (have hh := (HQ.out.kept hw1 HAq.out.symm.or).alloc (.cells #[.int .i64 (i : Int)] 3); rw [HE.out] at hh; have k1 : (0 + 1) * 8 ≤ 140737488355328 := (by omega); have k2 : 0 + 1 ≤ maxLen := (by unfold maxLen; omega); have k3 : w.heap.size ≤ (w2.alloc (.cells #[.int .i64 (i : Int)] 3)).heap.size := Nat.le_trans (Nat.le_trans HBx.out.size hb1.size) (by simp); have k4 := cell_new w2 [.int .i64 (i : Int)] 3 w2.heap.size rfl; (refine wpList_push _ rfl (.tmp 70) (.tmp 72) 25 rfl w.heap.size 3 (.int .i64 0) 1 8 Try.underlying25 info_int rfl (by omega) (.slice Aq 0 cq) 0 ((chain (levels l) 0).map fun (j : Nat) => Value.int .i64 (j : Int)) rfl hh [.int .i64 (i : Int)] rfl _ rfl k4 (one_int _ _) k1 k2 k3 ?_); clear hh k1 k2 k3 k4; intro g2 c2 w3 h2 hw2 hg2 hb2)))
              go_roundw
              case rel =>
                have R := nest_round (w0 := w) (w1 := ((wo.alloc (.cells #[.int .i64 n.level, .string n.id, .string n.text] 30)).alloc (.cells #[.int .i64 (-1)] 3)).drewN (q + nq)) (m := 0) (x := -1) HN.out HSc.out.symm rfl HQ.out HAq.out h1 hg1 (by rw [HE.out]; exact h2) (by rw [HE.out]; exact (World.grownBy_alloc _ _ _).trans hw2) (by rw [HE.out]; exact hg2.imp id (fun h => Nat.le_trans (by simp) h)) (HBx.out.trans (hb1.trans (((Below.refl _ _).alloc (Nat.le_trans HBx.out.size hb1.size) _).trans hb2)))
                rw [HE.out] at R
                exact R
              case measure => simp [intOf]; omega
            | succ p =>
              obtain ⟨Cl, hCl, hq⟩ : ∃ Cl, (chain (levels l) (p + 1)).length = Cl + 1 ∧ (chain (levels l) (scanN (levels l) ((levels l).getD p 0) p)).length = Cl := ⟨_, by rw [chain_succ, List.length_append]; rfl, rfl⟩
              obtain ⟨A1, c1, e1, hc1, hl1, hA1⟩ := own_form HOq.out
              cases e1
              obtain ⟨g, rfl, hBg, hgl⟩ := hA1 (by omega)
              have q0 : wo.cell? ⟨g, Cl, none⟩ = some (.int .i64 (p : Int)) := own_cell HOq.out (by rw [chain_succ]; simp [← hq])
              obtain ⟨np, hnp⟩ : ∃ n, l[p]? = some n := ⟨_, List.getElem?_eq_getElem (by omega)⟩
              obtain ⟨r0, _, _, _, _, _⟩ := (HCell.out p np hnp).keep (Keeps.of_below HBw.out)
              have bp := World.block_lt_of_cell? _ _ r0
              simp only at bp
              have hLp := HL.out p np hnp
              have HLp := Lib.hid hLp; clear hLp
              have HNp := Lib.hid hnp; clear hnp
              have hClen := chain_len (levels l) (p + 1)
              rw [hCl] at hl1 hClen ⊢
              unfold maxLen at hc1
              have HCl := Lib.hid hCl; clear hCl
              have Hq := Lib.hid hq; clear hq
              by_cases ht : n.level ≤ np.level
              · have hpop : wo.ownsRow w.heap.size 3 1 (.slice (some ⟨g, 0, none⟩) (chain (levels l) (scanN (levels l) ((levels l).getD p 0) p)).length cq) (chain (levels l) (scanN (levels l) ((levels l).getD p 0) p)).length ((chain (levels l) (scanN (levels l) ((levels l).getD p 0) p)).map fun (j : Nat) => Value.int .i64 (j : Int)) := by
                  have h := HOq.out
                  rw [chain_succ] at h
                  simp only [List.length_append, List.map_append, List.length_singleton] at h
                  exact ownsRow_pop (by simp) h
                have hsk := scanN_pop (levels l) (x := n.level) (k := p) (by rw [HLp.out]; exact ht)
                have HPop := Lib.hid hpop; clear hpop
                have HSk := Lib.hid hsk; clear hsk
                go_wp2_with fail
                go_quiet (fail)
                go_wp2_with fail
                go_roundw
                case rel =>
                  refine ⟨scanN (levels l) ((levels l).getD p 0) p, q + nq, some ⟨g, 0, none⟩, cq, ?_, by rw [Hq.out], rfl, HPop.out, ?_, fun k hk => HAq.out k hk⟩
                  · have := scanN_le (levels l) ((levels l).getD p 0) p
                    omega
                  · rw [← HSk.out]; exact HSc.out
                case measure => simp [sliceLen]
              · have hst := scanN_stop (levels l) (x := n.level) (k := p) (by rw [HLp.out]; exact ht)
                have HSt := Lib.hid hst; clear hst
                go_wp2_with fail
                go_quiet (fail)
                have HO := Lib.hid (own_drewN ((HOut.out.alloc (.cells #[.int .i64 n.level, .string n.id, .string n.text] 30)).alloc (.cells #[.int .i64 (p : Int)] 3)) (q + nq))
                have HQ := Lib.hid (own_drewN ((HOq.out.alloc (.cells #[.int .i64 n.level, .string n.id, .string n.text] 30)).alloc (.cells #[.int .i64 (p : Int)] 3)) (q + nq))
                have HBx := Lib.hid (Below.drewN' ((HBw.out.alloc HBw.out.size (.cells #[.int .i64 n.level, .string n.id, .string n.text] 30)).alloc (Nat.le_trans HBw.out.size (by simp)) (.cells #[.int .i64 (p : Int)] 3)) (q + nq))
                go_wp2_with (first
                  | (at_builtin; have hh := HO.out; have k1 : (i + 1) * 8 ≤ 140737488355328 := (by omega); have k2 : i + 1 ≤ maxLen := (by unfold maxLen; omega); have k3 := HBx.out.size; have k4 := cell_new (wo.alloc (.cells #[.int .i64 n.level, .string n.id, .string n.text] 30)) [.int .i64 (p : Int)] 3 (wo.heap.size + 1) (by simp); (refine wpList_push _ rfl (.tmp 61) (.tmp 68) 25 rfl w.heap.size 3 (.int .i64 0) 1 8 Try.underlying25 info_int rfl (by omega) (.slice Ao i co) i _ rfl hh [.int .i64 (p : Int)] rfl _ rfl k4 (one_int _ _) k1 k2 k3 ?_); clear hh k1 k2 k3 k4; intro g1 c2 w2 h1 hw1 hg1 hb1)
                  | (at_builtin; go_loud (have hh := (HQ.out.kept hw1 HAq.out.symm.or).alloc (.cells #[.int .i64 (i : Int)] 3); rw [HCl.out] at hh; have k1 : ((Cl + 1) + 1) * 8 ≤ 140737488355328 := (by omega); have k2 : (Cl + 1) + 1 ≤ maxLen := (by unfold maxLen; omega); have k3 : w.heap.size ≤ (w2.alloc (.cells #[.int .i64 (i : Int)] 3)).heap.size := Nat.le_trans (Nat.le_trans HBx.out.size hb1.size) (by simp); have k4 := cell_new w2 [.int .i64 (i : Int)] 3 w2.heap.size rfl; (refine wpList_push _ rfl (.tmp 70) (.tmp 72) 25 rfl w.heap.size 3 (.int .i64 0) 1 8 Try.underlying25 info_int rfl (by omega) (.slice (some ⟨g, 0, none⟩) (Cl + 1) cq) (Cl + 1) ((chain (levels l) (p + 1)).map fun (j : Nat) => Value.int .i64 (j : Int)) rfl hh [.int .i64 (i : Int)] rfl _ rfl k4 (one_int _ _) k1 k2 k3 ?_); clear hh k1 k2 k3 k4; intro g2 c3 w3 h2 hw2 hg2 hb2)))
                go_roundw
                case rel =>
                  have R := nest_round (w0 := w) (w1 := ((wo.alloc (.cells #[.int .i64 n.level, .string n.id, .string n.text] 30)).alloc (.cells #[.int .i64 (p : Int)] 3)).drewN (q + nq)) (m := p + 1) (x := (p : Int)) HN.out (HSc.out.symm.trans HSt.out) (by omega) HQ.out HAq.out h1 hg1 (by rw [HCl.out]; exact h2) (by rw [HCl.out]; exact (World.grownBy_alloc _ _ _).trans hw2) (by rw [HCl.out]; exact hg2.imp id (fun h => Nat.le_trans (by simp) h)) (HBx.out.trans (hb1.trans (((Below.refl _ _).alloc (Nat.le_trans HBx.out.size hb1.size) _).trans hb2)))
                  rw [HCl.out] at R
                  exact R
                case measure => simp [intOf]; omega
        · have hie : i = l.length := by omega
          subst hie
          have HOut := Lib.hid hout; clear hout
          have HBw := Lib.hid hB; clear hB
          clear hop hap hcell
          go_wp2_with fail
          go_ret2
          exact ⟨_, rfl, OnesAt.of_own HOut.out, HBw.out⟩

end Go.Proofs.Ytgigdbkaehphiaa
