/-
  The part of a content from a heading on: page.sign, page.Section.
-/
import Derived.Test.YtebhbgamdhjdkaaDoorSectPlain
import Derived.Test.YtebhbgamdhjdkaaDoorShow1
import Derived.Test.YtebhbgamdhjdkaaDoorPageAddr
import Derived.Deep.RegionWith
import Derived.RegionCalls
import Derived.Laws.Strings2
import Derived.Test.YtebhbgamdhjdkaaDoorFacts
import Derived.Lib.ItoaLen
import Derived.Outline
import Derived.Deep.CutRange
namespace Go.Proofs.YtebhbgamdhjdkaaDoor
open Go.RowKit Go.Deep

theorem TabOk.drew {w : World} (h : TabOk w) : TabOk w.drew := h
theorem index_q2 (s p : ByteArray) (v : Int) (w : World) (hm : MaxCell w) (hs : s.size ≤ 1073741824) (h : idxS s p = v) : Calls Tryd.prog 17 #[.string s, .string p] w fun e w' => e = .returned (.int .i64 v) ∧ w = w' := by
  subst h
  obtain ⟨m, hm⟩ := hm
  exact (Tryd.strings_Index s p m w (by omega) hm).mono fun e w' ⟨h1, h2⟩ => ⟨h1, h2.symm⟩
theorem itoa_len (n : Int) (h : I64 n) : (Lib.itoa n).length ≤ 21 := Lib.itoa_length_le n h.1 h.2
theorem tag_size {e : Entry} (h : I64 e.level) (hi : e.id.size ≤ 1048576) : (tagS e).size ≤ 1073741824 := by
  have h1 := itoa_len _ h
  have h2 : (⟨(Lib.itoa e.level).toArray⟩ : ByteArray).size = (Lib.itoa e.level).length := rfl
  have h3 : (⟨#[60, 104]⟩ : ByteArray).size = 2 := rfl
  have h4 : (⟨#[32, 105, 100, 61, 34]⟩ : ByteArray).size = 5 := rfl
  have h5 : (⟨#[34, 62]⟩ : ByteArray).size = 2 := rfl
  unfold tagS
  simp only [ByteArray.size_append]
  omega

set_option maxRecDepth 100000 in
set_option maxHeartbeats 2000000 in
theorem sign_q (e : Entry) (T : ByteArray) (w : World) (hk : I64 e.level) (hi : e.id.size ≤ 1073741824) (ht : TabOk w) (hT : tagS e = T) :
    Calls Tryd.prog 40 #[.agg #[.int .i64 e.level, .string e.id, .string e.text]] w fun e' w' => e' = .returned (.string T) ∧ Below w.heap.size w w' := by
  have HT := Lib.hid hT; clear hT
  have HTab := Lib.hid (ht.keep ((Below.refl _ _).alloc (Nat.le_refl _) (.cells #[.int .i64 e.level, .string e.id, .string e.text] 46))); clear ht
  have HK := Lib.hid hk; clear hk
  have HA := Lib.hid ((Below.refl w.heap.size w).alloc (Nat.le_refl _) (.cells #[.int .i64 e.level, .string e.id, .string e.text] 46))
  obtain ⟨z, hz⟩ : ∃ z : ByteArray, (⟨(Lib.itoa e.level).toArray⟩ : ByteArray) = z := ⟨_, rfl⟩
  have hzs : z.size ≤ 21 := by rw [← hz]; exact itoa_len _ HK.out
  have HZ := Lib.hid hz; clear hz
  go_enter Tryd.func40, Tryd.ntmps40
  go_wp2_with fail
  go_region_with (go_at_call 41; go_must (refine (itoa_any _ _ HK.out HTab.out.drew).mono ?_); go_must (rw [HZ.out]); go_must (rintro e1 w1 ⟨rfl, hb1⟩); have c0 := fun o => (bcell hb1).1 w.heap.size o (by simp); have HB1 := Lib.hid (HA.out.drew.trans (hb1.mono HA.out.size)); clear hb1)
  all_goals
    go_wp2_with fail
    go_ret
    refine ⟨?_, HB1.out⟩
    rw [← HT.out, ← HZ.out]
    rfl

def boxS (html su pl : ByteArray) (A : Option Addr) (n c : Nat) (wd : Int) (A1 : Option Addr) (n1 c1 : Nat) (A2 : Option Addr) (n2 c2 : Nat) : Array Value := #[.string html, .string su, .string pl, .slice A n c, .int .i64 wd, .slice A1 n1 c1, .slice A2 n2 c2]
def entC (e : Entry) : Array Value := #[.int .i64 e.level, .string e.id, .string e.text]
def SecPost (r : ByteArray × Bool) (w : World) (e : Ending) (w' : World) : Prop := e = .returned (.tuple #[.string r.1, .bool r.2]) ∧ Below w.heap.size w w'

set_option maxRecDepth 100000 in
set_option maxHeartbeats 4000000 in
theorem section_q (html su pl : ByteArray) (l : List Entry) (A : Option Addr) (n0 c : Nat) (wd : Int) (A1 : Option Addr) (n1 c1 : Nat) (A2 : Option Addr) (n2 c2 : Nat) (id : ByteArray) (r : ByteArray × Bool) (w : World) (hm : MaxCell w) (ht : TabOk w) (hE : EntriesAt w (.slice A n0 c) l)
    (hs : html.size ≤ 1073741824) (hids : ∀ e ∈ l, e.id.size ≤ 1048576) (hr : secR (secO html l id) = r) :
    Calls Tryd.prog 15 #[.agg (boxS html su pl A n0 c wd A1 n1 c1 A2 n2 c2), .string id] w (SecPost r w) := by
  obtain ⟨A', c', b, o, hv, hlc, hc, hA, hcell⟩ := hE
  cases hv
  unfold maxLen at hc
  have HCell := Lib.hid hcell; clear hcell
  have HM := Lib.hid hm; clear hm
  have HTab := Lib.hid ht; clear ht
  have HIds := Lib.hid hids; clear hids
  have HR := Lib.hid hr; clear hr
  unfold boxS
  go_enter Tryd.func15, Tryd.ntmps15
  go_wp2_with fail
  obtain ⟨W0, hW0⟩ : ∃ W0, w.alloc (.cells #[.string html, .string su, .string pl, .slice A l.length c, .int .i64 wd, .slice A1 n1 c1, .slice A2 n2 c2] 32) = W0 := ⟨_, rfl⟩
  have HB0 := Lib.hid (show Below w.heap.size w W0 by rw [← hW0]; exact (Below.refl _ _).alloc (Nat.le_refl _) _)
  have HBox := Lib.hid (show CB W0 w.heap.size 32 (boxS html su pl A l.length c wd A1 n1 c1 A2 n2 c2) by rw [← hW0]; exact CB.new w _ _)
  rw [hW0]
  clear hW0
  have hw0 : w.heap.size < W0.heap.size := HBox.out.lt
  obtain ⟨nb, hnb⟩ : ∃ nb, w.heap.size = nb := ⟨_, rfl⟩
  have HNb := Lib.hid hnb
  rw [hnb] at HBox hw0
  rw [hnb]
  clear hnb
  have bx3 := HBox.out.c 3
  have bx3 : W0.cell? ⟨nb, 3, none⟩ = some (.slice A l.length c) := bx3
  have bsh := HBox.out.sh
  go_wp2_with fail
  go_loopw [16] (fun t wr => ∃ k : Nat, k ≤ l.length ∧ t = .int .i64 k ∧ Hid (NoId id l k) ∧ Hid (Below W0.heap.size W0 wr)) (fun t _ => l.length - (intOf t).toNat)
  case atStart => exact ⟨0, Nat.zero_le _, rfl, NoId.zero _ _, Below.refl _ _⟩
  case round =>
    clear bx3 bsh
    obtain ⟨k, hk, rfl, hno, hbel⟩ := hrel
    by_cases hlt : k < l.length
    · have hA' := hA (by rintro rfl; simp at hlt)
      subst hA'
      obtain ⟨x, hx⟩ : ∃ x, l[k]? = some x := ⟨_, List.getElem?_eq_getElem hlt⟩
      obtain ⟨p0, p1, p2, hk0, _, _⟩ := (HCell.out k x hx).keep (Keeps.of_below (HB0.out.trans (hbel.out.mono HB0.out.size)))
      have bb := World.block_lt_of_cell? _ _ p0
      simp only at bb
      have hidx := HIds.out x (List.mem_of_getElem? hx)
      have hwr := hbel.out.size
      cases hii : isId id x
      · have t1 : (x.id.toList == id.toList) = false := hii
        have t2 : (x.id.toList != id.toList) = true := by simp [bne, t1]
        have HNo := Lib.hid (hno.out.succ hx hii)
        have HB2 := Lib.hid (hbel.out.alloc hwr (.cells #[.int .i64 x.level, .string x.id, .string x.text] 46))
        clear hx hii hno
        go_wp2_with fail
        go_roundw
        case rel => exact ⟨k + 1, by omega, by go_num, HNo.out, HB2.out⟩
        case measure => simp [intOf]; omega
      · have t1 : (x.id.toList == id.toList) = true := hii
        have t2 : (x.id.toList != id.toList) = false := by simp [bne, t1]
        have HSec := Lib.hid (show r = secR (secAt html x (l.drop (k + 1))) by rw [← HR.out, secO_at hno.out hx hii])
        obtain ⟨T, hT⟩ : ∃ T, tagS x = T := ⟨_, rfl⟩
        have HT := Lib.hid hT
        have hTs : T.size ≤ 1073741824 := by rw [← hT]; exact tag_size hk0 hidx
        have HX := Lib.hid hx
        have HK0 := Lib.hid hk0
        clear hx hii hno hT hk0
        obtain ⟨v, hv⟩ : ∃ v, idxS html T = v := ⟨_, rfl⟩
        have HV := Lib.hid hv
        go_wp2_with fail
        obtain ⟨W1, hW1⟩ : ∃ W1, wr.alloc (.cells #[.int .i64 x.level, .string x.id, .string x.text] 46) = W1 := ⟨_, rfl⟩
        obtain ⟨ne, hne⟩ : ∃ ne, wr.heap.size = ne := ⟨_, rfl⟩
        have HB1 := Lib.hid (show Below W0.heap.size W0 W1 by rw [← hW1]; exact hbel.out.alloc hwr _)
        have HEn1 := Lib.hid (show CB W1 ne 46 (entC x) by rw [← hW1, ← hne]; exact CB.new wr _ _)
        have HBx1 := Lib.hid (HBox.out.below HB1.out)
        have HTab1 := Lib.hid (HTab.out.keep (HB0.out.trans (HB1.out.mono HB0.out.size)))
        have HM1 := Lib.hid (HM.out.keep (Keeps.of_below (HB0.out.trans (HB1.out.mono HB0.out.size))))
        rw [hW1, hne]
        clear hW1 p0 p1 p2 bb
        have hne1 : ne < W1.heap.size := HEn1.out.lt
        have hnb1 : nb < W1.heap.size := HBx1.out.lt
        have en0 := HEn1.out.c 0
        have en1 := HEn1.out.c 1
        have en2 := HEn1.out.c 2
        have esh := HEn1.out.sh
        have bx0 := HBx1.out.c 0
        have bsh := HBx1.out.sh
        simp only [entC, boxS] at en0 en1 en2 esh bx0 bsh
        go_cut [8, 16] from 16 to 73 (fun s t wx => s = .int .i64 v ∧ t = .int .i64 k ∧ Hid (Below W0.heap.size W0 wx) ∧ Hid (CB wx ne 46 (entC x)))
        case first =>
          go_region_with (first
            | (go_at_call 40; go_must (refine (sign_q x T _ HK0.out (by omega) HTab1.out.drew HT.out).mono ?_); rintro e1 w2 ⟨rfl, hb2⟩; have HBx2 := Lib.hid (CB.below (w := W1.drew) HBx1.out hb2); have y0 := HBx2.out.c 0; have ysh := HBx2.out.sh; simp only [boxS] at y0 ysh; have HM2 := Lib.hid (MaxCell.keep (w := W1.drew) HM1.out (Keeps.of_below hb2)); have HB2 := Lib.hid (HB1.out.drew.trans (hb2.mono HB1.out.size)); have HEn2 := Lib.hid (CB.below (w := W1.drew) HEn1.out hb2); clear hb2)
            | (go_at_call 17; go_must (refine (index_q2 html T v _ HM2.out hs HV.out).mono ?_); rintro e1 w3 ⟨rfl, rfl⟩))
          all_goals
            (go_wp2_with fail
             go_meet
             exact ⟨rfl, rfl, HB2.out, HEn2.out⟩)
        case rest =>
          obtain ⟨rfl, rfl, HB2, HEn2⟩ := hcut
          clear en0 en1 en2 esh bx0 bsh
          rcases idxS_cases html T with hi | ⟨f, hi, hf⟩
          · obtain rfl : v = -1 := hv.symm.trans hi
            have HRes := Lib.hid (show r = (⟨#[]⟩, false) by rw [HSec.out, secAt_neg (by rw [HT.out]; exact hi)]; rfl)
            clear hv hi
            go_wp2_with fail
            go_ret2
            rw [HRes.out]
            exact ⟨rfl, HB0.out.trans (HB2.out.mono HB0.out.size)⟩
          · skip
            obtain rfl : v = (f : Int) := hv.symm.trans hi
            rw [show (T.size) = T.size from rfl] at hf
            have HI := Lib.hid hi
            have HSec2 := Lib.hid HSec.out
            clear hv hi
            have HBx2 := Lib.hid (HBox.out.below HB2.out)
            have bx3 := HBx2.out.c 3
            have bsh := HBx2.out.sh
            simp only [boxS] at bx3 bsh
            have hnbw : nb < wc.heap.size := HBx2.out.lt
            have f0 : IntKind.i64.wrap ((k : Int) + 1) = (k : Int) + 1 := by rw [IntKind.wrap_i64]; omega
            have f1 : (k : Int) + 1 ≤ (l.length : Int) := by omega
            have f5 : 0 ≤ (k : Int) + 1 := by omega
            have ff : (f : Int) ≤ (html.size : Int) := by omega
            obtain ⟨bh, hbh⟩ : ∃ bh : Nat, f + T.size = bh := ⟨_, rfl⟩
            have f6 : IntKind.i64.wrap ((f : Int) + (T.size : Int)) = (bh : Int) := by rw [IntKind.wrap_i64]; omega
            have f7 : (bh : Int) ≤ (html.size : Int) := by omega
            have HBh := Lib.hid hbh
            clear hbh
            by_cases hcap : c = k + 1
            · have hll : l.length = k + 1 := by omega
              have HLl := Lib.hid hll
              subst hcap
              clear hll
              go_wp2_with fail
              go_loopw [38] (fun t wq => t = .int .i64 0 ∧ Hid (Below W0.heap.size W0 wq)) (fun t _ => 0)
              case atStart => exact ⟨rfl, HB2.out⟩
              case round =>
                clear bx3 bsh
                obtain ⟨rfl, hbq⟩ := hrel
                have HBx3 := Lib.hid (HBox.out.below hbq.out)
                have bx0 := HBx3.out.c 0
                have bsh := HBx3.out.sh
                simp only [boxS] at bx0 bsh
                have hll : l.length = k + 1 := HLl.out
                have HRes := Lib.hid (show r = (html.extract f html.size, true) by
                  rw [HSec2.out, secAt_all (by rw [HT.out]; exact HI.out) (by rw [HLl.out]; exact Deeper.start _ _ _)]; rfl)
                go_wp2_with fail
                go_ret2
                rw [HRes.out]
                exact ⟨rfl, HB0.out.trans (hbq.out.mono HB0.out.size)⟩
            · go_wp2_with fail
              go_loopw [38] (fun t wq => ∃ j : Nat, k + 1 + j ≤ l.length ∧ t = .int .i64 j ∧ Hid (Deeper x.level l (k + 1) (k + 1 + j)) ∧ Hid (Below W0.heap.size W0 wq) ∧ Hid (CB wq ne 46 (entC x))) (fun t _ => l.length - (k + 1) - (intOf t).toNat)
              case atStart => exact ⟨0, by omega, rfl, Deeper.start _ _ _, HB2.out, HEn2.out⟩
              case round =>
                clear bx3 bsh
                obtain ⟨j, hj, rfl, hdp, hbq, hen⟩ := hrel
                by_cases hlt2 : j < l.length - (k + 1)
                · obtain ⟨y, hy⟩ : ∃ y, l[k + 1 + j]? = some y := ⟨_, List.getElem?_eq_getElem (by omega)⟩
                  obtain ⟨q0, q1, q2, hky, _, _⟩ := (HCell.out (k + 1 + j) y hy).keep (Keeps.of_below (HB0.out.trans (hbq.out.mono HB0.out.size)))
                  rw [show o + (k + 1 + j) * 3 = o + (k + 1) * 3 + j * 3 by omega] at q0 q1 q2
                  have bb := World.block_lt_of_cell? _ _ q0
                  simp only at bb
                  have hidy := HIds.out y (List.mem_of_getElem? hy)
                  have hwq := hbq.out.size
                  have HKy := Lib.hid hky
                  have hnq : ne < wr.heap.size := hen.out.lt
                  have en0 := hen.out.c 0
                  have esh := hen.out.sh
                  simp only [entC] at en0 esh
                  by_cases hgt : x.level < y.level
                  · have HDp := Lib.hid (hdp.out.succ hy hgt)
                    have HEq := Lib.hid (hen.out.alloc (.cells #[.int .i64 y.level, .string y.id, .string y.text] 46))
                    have HBq := Lib.hid (hbq.out.alloc hwq (.cells #[.int .i64 y.level, .string y.id, .string y.text] 46))
                    clear hy hdp
                    go_wp2_with fail
                    go_roundw
                    case rel => exact ⟨j + 1, by omega, by go_num, HDp.out, HBq.out, HEq.out⟩
                    case measure => simp [intOf]; omega
                  · have hle : y.level ≤ x.level := by omega
                    have HTo := secAt_to (h := html) (by rw [HT.out]; exact HI.out) hdp.out (by omega) hy hle
                    obtain ⟨Ty, hTy⟩ : ∃ T, tagS y = T := ⟨_, rfl⟩
                    have hTys : Ty.size ≤ 1073741824 := by rw [← hTy]; exact tag_size hky hidy
                    have HTy := Lib.hid hTy
                    obtain ⟨rs, hrs⟩ : ∃ rs, html.extract bh html.size = rs := ⟨_, rfl⟩
                    have HRs := Lib.hid hrs
                    have hrsz : rs.size = html.size - bh := by rw [← hrs, ByteArray.size_extract]; omega
                    obtain ⟨v2, hv2⟩ : ∃ v, idxS rs Ty = v := ⟨_, rfl⟩
                    have HV2 := Lib.hid hv2
                    rw [HT.out, HBh.out, hrs, hTy, hv2] at HTo
                    have HTo2 := Lib.hid HTo
                    clear hy hdp hTy hrs HTo
                    have en1 := hen.out.c 1
                    have en2 := hen.out.c 2
                    simp only [entC] at en1 en2
                    go_wp2_with fail
                    obtain ⟨W5, hW5⟩ : ∃ W5, wr.alloc (.cells #[.int .i64 y.level, .string y.id, .string y.text] 46) = W5 := ⟨_, rfl⟩
                    obtain ⟨ny, hny⟩ : ∃ ny, wr.heap.size = ny := ⟨_, rfl⟩
                    have HB5 := Lib.hid (show Below W0.heap.size W0 W5 by rw [← hW5]; exact hbq.out.alloc hwq _)
                    have HEy5 := Lib.hid (show CB W5 ny 46 (entC y) by rw [← hW5, ← hny]; exact CB.new wr _ _)
                    have HEx5 := Lib.hid (show CB W5 ne 46 (entC x) by rw [← hW5]; exact hen.out.alloc _)
                    have HTab5 := Lib.hid (HTab.out.keep (HB0.out.trans (HB5.out.mono HB0.out.size)))
                    rw [hW5, hny]
                    clear hW5 q0 q1 q2 bb
                    have nx5 := HEx5.out.lt
                    have ex0 := HEx5.out.c 0
                    have ex1 := HEx5.out.c 1
                    have ex2 := HEx5.out.c 2
                    have exs := HEx5.out.sh
                    simp only [entC] at ex0 ex1 ex2 exs
                    clear en0 en1 en2 esh
                    go_must (refine (sign_q x T _ HK0.out (by omega) HTab5.out HT.out).mono ?_)
                    rintro e1 w6 ⟨rfl, hb6⟩
                    have HB6 := Lib.hid (HB5.out.trans (hb6.mono HB5.out.size))
                    have HEy6 := Lib.hid (HEy5.out.below hb6)
                    have HBx6 := Lib.hid (HBox.out.below HB6.out)
                    have HTab6 := Lib.hid (HTab.out.keep (HB0.out.trans (HB6.out.mono HB0.out.size)))
                    have HM6 := Lib.hid (HM.out.keep (Keeps.of_below (HB0.out.trans (HB6.out.mono HB0.out.size))))
                    clear hb6 ex0 ex1 ex2 exs nx5
                    have hny6 : ny < w6.heap.size := HEy6.out.lt
                    have hnb6 : nb < w6.heap.size := HBx6.out.lt
                    have ey0 := HEy6.out.c 0
                    have ey1 := HEy6.out.c 1
                    have ey2 := HEy6.out.c 2
                    have eys := HEy6.out.sh
                    have bx0 := HBx6.out.c 0
                    have bsh := HBx6.out.sh
                    simp only [entC, boxS] at ey0 ey1 ey2 eys bx0 bsh
                    go_wp2_with fail
                    go_cut [12] from 38 to 68 (fun s wx => s = .int .i64 v2 ∧ Hid (Below W0.heap.size W0 wx))
                    case first =>
                      go_region_with (first
                        | (go_at_call 40; go_must (refine (sign_q y Ty _ HKy.out (by omega) HTab6.out.drew HTy.out).mono ?_); rintro e1 w7 ⟨rfl, hb7⟩; have HBx7 := Lib.hid (CB.below (w := w6.drew) HBx6.out hb7); have y0 := HBx7.out.c 0; have ysh := HBx7.out.sh; simp only [boxS] at y0 ysh; have HM7 := Lib.hid (MaxCell.keep (w := w6.drew) HM6.out (Keeps.of_below hb7)); have HB7 := Lib.hid (HB6.out.drew.trans (hb7.mono HB6.out.size)); clear hb7)
                        | (go_at_call 17; (try rw [HRs.out]); go_must (refine (index_q2 rs Ty v2 _ HM7.out (by omega) HV2.out).mono ?_); rintro e1 w3 ⟨rfl, rfl⟩))
                      all_goals
                        (go_wp2_with fail
                         go_meet
                         exact ⟨rfl, HB7.out⟩)
                    case rest =>
                      obtain ⟨rfl, HB8⟩ := hcut
                      clear ey0 ey1 ey2 eys bx0 bsh
                      rcases idxS_cases rs Ty with hi | ⟨f2, hi, hf2⟩
                      · obtain rfl : v2 = -1 := hv2.symm.trans hi
                        have HRes := Lib.hid (show r = (⟨#[]⟩, false) by rw [HSec2.out, HTo2.out, if_pos (by omega)]; rfl)
                        clear hv2 hi
                        go_wp2_with fail
                        go_ret2
                        rw [HRes.out]
                        exact ⟨rfl, HB0.out.trans (HB8.out.mono HB0.out.size)⟩
                      · obtain rfl : v2 = (f2 : Int) := hv2.symm.trans hi
                        have HBx8 := Lib.hid (HBox.out.below HB8.out)
                        have bx0 := HBx8.out.c 0
                        have bsh := HBx8.out.sh
                        simp only [boxS] at bx0 bsh
                        obtain ⟨b2, hb2⟩ : ∃ b2 : Nat, bh + f2 = b2 := ⟨_, rfl⟩
                        have f8 : IntKind.i64.wrap ((bh : Int) + (f2 : Int)) = (b2 : Int) := by rw [IntKind.wrap_i64]; omega
                        have f9 : (b2 : Int) ≤ (html.size : Int) := by omega
                        have f10 : (f : Int) ≤ (b2 : Int) := by have := HBh.out; omega
                        have HRes := Lib.hid (show r = (html.extract f b2, true) by
                          rw [HSec2.out, HTo2.out, if_neg (by omega)]
                          simp only [Int.toNat_natCast, hb2]
                          rfl)
                        clear hv2 hi hb2
                        go_wp2_with fail
                        go_ret2
                        rw [HRes.out]
                        exact ⟨rfl, HB0.out.trans (HB8.out.mono HB0.out.size)⟩
                · have HRes := Lib.hid (show r = (html.extract f html.size, true) by
                    have hjl : k + 1 + j = l.length := by omega
                    rw [HSec2.out, secAt_all (by rw [HT.out]; exact HI.out) (hjl ▸ hdp.out)]; rfl)
                  have HBx3 := Lib.hid (HBox.out.below hbq.out)
                  have bx0 := HBx3.out.c 0
                  have bsh := HBx3.out.sh
                  simp only [boxS] at bx0 bsh
                  have hnbq : nb < wr.heap.size := HBx3.out.lt
                  go_wp2_with fail
                  go_ret2
                  rw [HRes.out]
                  exact ⟨rfl, HB0.out.trans (hbq.out.mono HB0.out.size)⟩
    · have hkl : k = l.length := by omega
      have HT := Lib.hid (show r = (⟨#[]⟩, false) by rw [← HR.out, secO_none (hkl ▸ hno.out)]; rfl)
      clear hkl
      go_wp2_with fail
      go_ret2
      rw [HT.out]
      exact ⟨rfl, HB0.out.trans (hbel.out.mono HB0.out.size)⟩

end Go.Proofs.YtebhbgamdhjdkaaDoor
