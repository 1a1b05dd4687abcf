/-
  The writer of HTML: a block, blocks.
-/
import Derived.Test.YtikijmjcmpkkdaaGreatDoorHtmlInl
import Derived.Test.YtikijmjcmpkkdaaGreatDoorBox
import Derived.Test.YtikijmjcmpkkdaaGreatDoorPlainOf
namespace Go.Proofs.YtikijmjcmpkkdaaGreatDoor
open Go.RowKit Go.Deep

theorem ids_inv {w : World} {iv : Value} {x : List UInt8} {r : List (List UInt8)} (h : OnesAt w iv (strCells (x :: r))) : ∃ (b o n c : Nat), iv = .slice (some ⟨b, o, none⟩) n c ∧ 1 ≤ n ∧ n ≤ c ∧ c ≤ maxLen ∧ w.cell? ⟨b, o, none⟩ = some (.string ⟨x.toArray⟩) ∧
    OnesAt w (.slice (if c = 1 then some ⟨b, o, none⟩ else some ⟨b, o + 1, none⟩) (n - 1) (c - 1)) (strCells r) := by
  obtain ⟨A, c, b, o, h1, h2, h3, h4, h5⟩ := h
  have hlen : (strCells (x :: r)).length = r.length + 1 := by simp [strCells]
  rw [hlen] at h1 h2
  have hA := h4 (by simp [strCells])
  subst hA
  refine ⟨b, o, _, c, h1, by omega, h2, h3, ?_, ?_⟩
  · have := h5 0 (.string ⟨x.toArray⟩) (by simp [strCells])
    simpa using this
  · have hl2 : (strCells r).length = r.length := by simp [strCells]
    refine ⟨_, c - 1, b, o + 1, by rw [hl2]; rfl, by rw [hl2]; omega, by omega, fun hx => ?_, fun i v hv => ?_⟩
    · rw [if_neg]
      rintro rfl
      have : r = [] := List.eq_nil_of_length_eq_zero (by omega)
      subst this
      exact hx rfl
    · have h6 : (strCells (x :: r))[i + 1]? = some v := by simpa [strCells] using hv
      have := h5 (i + 1) v h6
      rw [show o + 1 + i = o + (i + 1) by omega]; exact this
theorem HW.next {w0 : World} {b : Nat} {full acc : List UInt8} {iv jv : Value} {ids' : List (List UInt8)} {w : World} (hb : Below w0.heap.size w0 w) (hl : Lim acc full) (ha : acc.length ≤ 536870912) (hat : HAt w0.heap.size b acc iv w) (hj : OnesAt w0 jv (strCells ids')) :
    HW w0 b full ids' (w.setCell ⟨b, 2, none⟩ jv) := ⟨hb.setCell (p := ⟨b, 2, none⟩) hat.1 _, acc, jv, hl, ha, hj, hat.ids jv⟩
theorem heads_take_le (l : List Node) (k : Nat) : (headsL (l.take k)).length ≤ (headsL l).length := by
  have h : l = l.take k ++ l.drop k := (List.take_append_drop k l).symm
  have e := congrArg (fun x => (headsL x).length) h
  simp only [headsL_append, List.length_append] at e
  omega
theorem no_kids {l : List Node} {p : Int} (h : nodesErr l p = 0) (hp : p = 3 ∨ p = 7) : l = [] := by
  cases l with
  | nil => rfl
  | cons n r =>
    have h1 := nodeErr_perm (nodesErr_at0 h).1
    unfold permittedB at h1
    rcases hp with rfl | rfl <;> simp at h1
theorem kid_lt {l : List Node} {k : Nat} {x : Node} (h : l[k]? = some x) : SizeOf.sizeOf x.kids < SizeOf.sizeOf l := by
  have h1 := x.kids_lt
  have h2 := List.sizeOf_lt_of_mem (List.mem_of_getElem? h)
  omega
theorem hid_mono {w0 w : World} (ht : TabOk w0) (h : Below w0.heap.size w0 w) : TabOk w := ht.keep h
/-- a list of blocks is written -/
def BlksOk (w0 : World) (b N : Nat) : Prop := ∀ (l : List Node) (v : Value) (full : List UInt8) (ids : List (List UInt8)) (w : World) (p : Int), SizeOf.sizeOf l ≤ N → NodesAt w0 v l → weight l ≤ 1048576 → nodesErr l p = 0 → (p = 0 ∨ p = 4 ∨ p = 6) → Leveled l →
  (headsL l).length ≤ ids.length → (∀ x ∈ ids, x.length ≤ 1048700) → HW w0 b full ids w →
  Calls Tryz.prog 34 #[.pointer (some ⟨b, 0, none⟩), v] w (WPost w0 b (full ++ blkL 0 l ids) (ids.drop (headsL l).length) w)
theorem itoa_w (n : Int) (sk : ByteArray) (w : World) (h : I64 n) (hs : (⟨(Lib.itoa n).toArray⟩ : ByteArray) = sk) (ht : TabOk w) : Calls Tryz.prog 25 #[.int .i64 n] w fun e w' => e = .returned (.string sk) ∧ Below w.heap.size w w' := by
  subst hs; exact itoa_any n w h ht


set_option maxRecDepth 100000 in
set_option maxHeartbeats 4000000 in
theorem list_q {w0 : World} {b N : Nat} {full : List UInt8} {ids : List (List UInt8)} (hB : BlksOk w0 b N) (n : Node) (A : Option Addr) (c : Nat) (w : World) (hN : SizeOf.sizeOf n.kids ≤ N) (hk : NodesAt w0 (.slice A n.kids.length c) n.kids) (hwk0 : weight n.kids ≤ 1048576)
    (he : nodesErr n.kids 5 = 0) (hlv : -1 ≤ n.level ∧ n.level ≤ 9999) (hll : Leveled n.kids) (hid : (headsL n.kids).length ≤ ids.length) (hib : ∀ x ∈ ids, x.length ≤ 1048700) (htab : TabOk w0) (h : HW w0 b full ids w) :
    Calls Tryz.prog 106 #[.pointer (some ⟨b, 0, none⟩), nodeV n (.slice A n.kids.length c)] w (WPost w0 b (full ++ (olH n.level ++ blkL 0 n.kids ids ++ hLs ++ lnH n.level ++ hGt)) (ids.drop (headsL n.kids).length) w) := by
  have H0 := Lib.hid (h.alloc (nodeBox n (.slice A n.kids.length c)))
  have K0 := Lib.hid (KeepB.alloc b w (nodeBox n (.slice A n.kids.length c)))
  have C0 := Lib.hid (show CB (w.alloc (nodeBox n (.slice A n.kids.length c))) w.heap.size 45 (nodeC n (.slice A n.kids.length c)) from CB.new _ _ _)
  have hgne : w.heap.size ≠ b := by have := h.lt; omega
  obtain ⟨An, cx, bl, o, kv, e9, hlc, hc, hA, hcell, hkid⟩ := hk.inv
  cases e9
  unfold maxLen at hc
  have HCell := Lib.hid hcell; clear hcell
  have HKid := Lib.hid hkid; clear hkid
  have HB := Lib.hid hB
  have HN := Lib.hid hN
  have HE := Lib.hid he
  have HLv := Lib.hid hll
  have HId := Lib.hid hid
  have HIb := Lib.hid hib
  have HTab := Lib.hid htab
  obtain ⟨sk, hsk⟩ : ∃ z : ByteArray, (⟨(Lib.itoa n.level).toArray⟩ : ByteArray) = z := ⟨_, rfl⟩
  have hsks : sk.size ≤ 21 := by rw [← hsk]; exact lvB_le hlv
  have HSk := Lib.hid (show lvB n.level = sk.data.toList by rw [← hsk]; rfl)
  have HIt := Lib.hid (fun w ht => itoa_w n.level sk w ⟨by omega, by omega⟩ hsk ht)
  clear h hk hB hN he hll hid hib htab hsk
  have hx : n.level = -1 ∨ n.level = 1 ∨ (n.level ≠ -1 ∧ n.level ≠ 1) := by omega
  have hxr : -1 ≤ n.level := hlv.1
  rcases hx with hx | hx | hx
  · have tm : (n.level == -1) = true := by simp; omega
    have t1 : (n.level == 1) = false := by simp; omega
    have HO := Lib.hid (show olH n.level = hUl1 by unfold olH; rw [if_pos (by omega)])
    have HL := Lib.hid (show lnH n.level = hUl by unfold lnH; rw [if_pos (by omega)])
    clear hx hlv
    go_enter Tryz.func106, Tryz.ntmps106
    go_wp2_with fail
    go_must (refine (put_at [⟨#[60, 117, 108, 62, 10]⟩] 1 rfl (by omega) _ rfl _ H0.out ⟨(by decide), trivial⟩ _ (by first | rfl | simp)).mono ?_)
    rintro e w1 ⟨rfl, hw, hk⟩
    have HW1 := Lib.hid hw
    have HK1 := Lib.hid (K0.out.trans hk)
    have CB1 := Lib.hid (hk _ _ _ C0.out neN5 hgne)
    clear hw hk
    obtain ⟨b10, b11, b12, b13, b14, b15⟩ := CB1.out.six
    have HF := Lib.hid (HW1.out.eq (show _ = full ++ olH n.level by rw [HO.out]; simp [hUl1]))
    go_wp2_with fail
    go_loopw [28] (fun t wr => ∃ (k : Nat), k ≤ n.kids.length ∧ t = .int .i64 k ∧ Hid (HW w0 b (full ++ olH n.level ++ blkL 0 (n.kids.take k) ids) (ids.drop (headsL (n.kids.take k)).length) wr) ∧ Hid (KeepB b w wr)) (fun t _ => n.kids.length - (intOf t).toNat)
    case atStart => exact ⟨0, Nat.zero_le _, rfl, by rw [List.take_zero, blkL_nil, List.append_nil, headsL_nil]; exact HF.out, HK1.out⟩
    case round =>
      obtain ⟨k, hkk, rfl, hW, hKB⟩ := hrel
      by_cases hlt : k < n.kids.length
      · skip
        have hA' := hA (by intro h0; rw [h0] at hlt; simp at hlt)
        subst hA'
        obtain ⟨x, hx⟩ : ∃ x, n.kids[k]? = some x := ⟨_, List.getElem?_eq_getElem hlt⟩
        obtain ⟨p0, p1, p2, p3, p4, p5, _, _, _, _, _⟩ := (HCell.out k x hx).keep hW.out.keeps
        have bb := World.block_lt_of_cell? _ _ p5
        simp only at bb
        have hkx := HKid.out k x hx
        obtain ⟨A3, c3, b3, o3, k3, e3, _, _, _, _, _⟩ := hkx.inv
        rw [e3] at hkx p5
        have HKx := Lib.hid hkx; clear hkx
        have hwt := weight_take hx
        have hwk : weight x.kids ≤ 1048576 := by omega
        have HX := Lib.hid hx
        have hwr := hW.out.lt
        have HI1 := Lib.hid (hW.out.alloc (nodeBox x (.slice A3 x.kids.length c3)))
        have KI1 := Lib.hid (hKB.out.trans (KeepB.alloc b wr (nodeBox x (.slice A3 x.kids.length c3))))
        obtain ⟨e1, e2⟩ := nodesErr_mem HE.out hx
        have hx6 := item_kind e1
        have HLx := Lib.hid (HLv.out.at_ hx).2.2
        have hcx : hcN x = (headsL x.kids).length := hc_deep (by omega)
        have hct := hc_take hx
        have hcl := heads_take_le n.kids (k + 1)
        have hdl : (headsL x.kids).length ≤ (ids.drop (headsL (n.kids.take k)).length).length := by rw [List.length_drop]; have := HId.out; omega
        have HDb := Lib.hid (show ∀ y ∈ ids.drop (headsL (n.kids.take k)).length, y.length ≤ 1048700 from fun y hy => HIb.out y (List.mem_of_mem_drop hy))
        have HDr := Lib.hid (show (ids.drop (headsL (n.kids.take k)).length).drop (headsL x.kids).length = ids.drop (headsL (n.kids.take (k + 1))).length by rw [List.drop_drop, hct, hcx])
        have HTk := Lib.hid (show blkL 0 (n.kids.take (k + 1)) ids = blkL 0 (n.kids.take k) ids ++ (hLi1 ++ blkL 0 x.kids (ids.drop (headsL (n.kids.take k)).length) ++ hLi2) by rw [blkL_take ids hx]; unfold blk1 blkN; rw [if_pos hx6])
        have HSx := Lib.hid (show SizeOf.sizeOf x.kids ≤ N by have h8 := HN.out; have h9 := kid_lt hx; omega)
        have HE2 := Lib.hid (show nodesErr x.kids 6 = 0 by rw [← hx6]; exact e2)
        have HBx := Lib.hid (fun full w h => HB.out x.kids (.slice A3 x.kids.length c3) full _ w 6 HSx.out HKx.out hwk HE2.out (Or.inr (Or.inr rfl)) HLx.out hdl HDb.out h)
        have CI1 := Lib.hid (show CB (wr.alloc (nodeBox x (.slice A3 x.kids.length c3))) wr.heap.size 45 (nodeC x (.slice A3 x.kids.length c3)) from CB.new _ _ _)
        clear hx e1 e2 hct hcl hA e3 hwt hx6 hcx
        have hgne2 := Nat.ne_of_gt hwr
        go_wp2_with fail
        go_must (refine (put_at [⟨#[60, 108, 105, 62, 10]⟩] 1 rfl (by omega) _ rfl _ HI1.out ⟨(by decide), trivial⟩ _ (by first | rfl | simp)).mono ?_)
        rintro e w21 ⟨rfl, hw, hk⟩
        have HW21 := Lib.hid hw
        have HK21 := Lib.hid (KI1.out.trans hk)
        have CB21 := Lib.hid (hk _ _ _ CI1.out neN5 hgne2)
        clear hw hk
        obtain ⟨b210, b211, b212, b213, b214, b215⟩ := CB21.out.six
        go_wp2_with fail
        go_must (refine (HBx.out _ _ HW21.out).mono ?_)
        rintro e w22 ⟨rfl, hw, hk⟩
        have HW22 := Lib.hid hw
        have HK22 := Lib.hid (HK21.out.trans hk)
        have CB22 := Lib.hid (hk _ _ _ CB21.out neN5 hgne2)
        clear hw hk
        obtain ⟨b220, b221, b222, b223, b224, b225⟩ := CB22.out.six
        go_wp2_with fail
        go_must (refine (put_at [⟨#[60, 47, 108, 105, 62, 10]⟩] 1 rfl (by omega) _ rfl _ HW22.out ⟨(by decide), trivial⟩ _ (by first | rfl | simp)).mono ?_)
        rintro e w23 ⟨rfl, hw, hk⟩
        have HW23 := Lib.hid hw
        have HK23 := Lib.hid (HK22.out.trans hk)
        have CB23 := Lib.hid (hk _ _ _ CB22.out neN5 hgne2)
        clear hw hk
        obtain ⟨b230, b231, b232, b233, b234, b235⟩ := CB23.out.six
        go_wp2_with fail
        go_roundw
        case rel => exact ⟨k + 1, by omega, by go_num, by show HW _ _ _ _ _; rw [← HDr.out]; exact HW23.out.eq (by rw [HTk.out]; simp [hLi1, hLi2]), HK23.out⟩
        case measure => simp [intOf]; omega
      · have hke : k = n.kids.length := by omega
        subst hke
        rw [List.take_length] at hW
        go_wp2_with fail
        go_must (refine (put_at [⟨#[60, 47]⟩, ⟨#[117, 108]⟩, ⟨#[62]⟩] 3 rfl (by omega) _ rfl _ hW.out ⟨(by decide), (by decide), (by decide), trivial⟩ _ (by first | rfl | simp)).mono ?_)
        rintro e w41 ⟨rfl, hw, hk⟩
        have HW41 := Lib.hid hw
        have HK41 := Lib.hid (hKB.out.trans hk)
        clear hw hk
        go_wp2_with fail
        go_end0
        exact ⟨rfl, HW41.out.eq (by rw [HL.out]; simp [hLs, hGt, hUl]), HK41.out⟩
  · have tm : (n.level == -1) = false := by simp; omega
    have t1 : (n.level == 1) = true := by simp; omega
    have HO := Lib.hid (show olH n.level = hOl1 by unfold olH; rw [if_neg (by omega), if_pos (by omega)])
    have HL := Lib.hid (show lnH n.level = hOl by unfold lnH; rw [if_neg (by omega)])
    clear hx hlv
    go_enter Tryz.func106, Tryz.ntmps106
    go_wp2_with fail
    go_must (refine (put_at [⟨#[60, 111, 108, 62, 10]⟩] 1 rfl (by omega) _ rfl _ H0.out ⟨(by decide), trivial⟩ _ (by first | rfl | simp)).mono ?_)
    rintro e w1 ⟨rfl, hw, hk⟩
    have HW1 := Lib.hid hw
    have HK1 := Lib.hid (K0.out.trans hk)
    have CB1 := Lib.hid (hk _ _ _ C0.out neN5 hgne)
    clear hw hk
    obtain ⟨b10, b11, b12, b13, b14, b15⟩ := CB1.out.six
    have HF := Lib.hid (HW1.out.eq (show _ = full ++ olH n.level by rw [HO.out]; simp [hOl1]))
    go_wp2_with fail
    go_loopw [28] (fun t wr => ∃ (k : Nat), k ≤ n.kids.length ∧ t = .int .i64 k ∧ Hid (HW w0 b (full ++ olH n.level ++ blkL 0 (n.kids.take k) ids) (ids.drop (headsL (n.kids.take k)).length) wr) ∧ Hid (KeepB b w wr)) (fun t _ => n.kids.length - (intOf t).toNat)
    case atStart => exact ⟨0, Nat.zero_le _, rfl, by rw [List.take_zero, blkL_nil, List.append_nil, headsL_nil]; exact HF.out, HK1.out⟩
    case round =>
      obtain ⟨k, hkk, rfl, hW, hKB⟩ := hrel
      by_cases hlt : k < n.kids.length
      · skip
        have hA' := hA (by intro h0; rw [h0] at hlt; simp at hlt)
        subst hA'
        obtain ⟨x, hx⟩ : ∃ x, n.kids[k]? = some x := ⟨_, List.getElem?_eq_getElem hlt⟩
        obtain ⟨p0, p1, p2, p3, p4, p5, _, _, _, _, _⟩ := (HCell.out k x hx).keep hW.out.keeps
        have bb := World.block_lt_of_cell? _ _ p5
        simp only at bb
        have hkx := HKid.out k x hx
        obtain ⟨A3, c3, b3, o3, k3, e3, _, _, _, _, _⟩ := hkx.inv
        rw [e3] at hkx p5
        have HKx := Lib.hid hkx; clear hkx
        have hwt := weight_take hx
        have hwk : weight x.kids ≤ 1048576 := by omega
        have HX := Lib.hid hx
        have hwr := hW.out.lt
        have HI1 := Lib.hid (hW.out.alloc (nodeBox x (.slice A3 x.kids.length c3)))
        have KI1 := Lib.hid (hKB.out.trans (KeepB.alloc b wr (nodeBox x (.slice A3 x.kids.length c3))))
        obtain ⟨e1, e2⟩ := nodesErr_mem HE.out hx
        have hx6 := item_kind e1
        have HLx := Lib.hid (HLv.out.at_ hx).2.2
        have hcx : hcN x = (headsL x.kids).length := hc_deep (by omega)
        have hct := hc_take hx
        have hcl := heads_take_le n.kids (k + 1)
        have hdl : (headsL x.kids).length ≤ (ids.drop (headsL (n.kids.take k)).length).length := by rw [List.length_drop]; have := HId.out; omega
        have HDb := Lib.hid (show ∀ y ∈ ids.drop (headsL (n.kids.take k)).length, y.length ≤ 1048700 from fun y hy => HIb.out y (List.mem_of_mem_drop hy))
        have HDr := Lib.hid (show (ids.drop (headsL (n.kids.take k)).length).drop (headsL x.kids).length = ids.drop (headsL (n.kids.take (k + 1))).length by rw [List.drop_drop, hct, hcx])
        have HTk := Lib.hid (show blkL 0 (n.kids.take (k + 1)) ids = blkL 0 (n.kids.take k) ids ++ (hLi1 ++ blkL 0 x.kids (ids.drop (headsL (n.kids.take k)).length) ++ hLi2) by rw [blkL_take ids hx]; unfold blk1 blkN; rw [if_pos hx6])
        have HSx := Lib.hid (show SizeOf.sizeOf x.kids ≤ N by have h8 := HN.out; have h9 := kid_lt hx; omega)
        have HE2 := Lib.hid (show nodesErr x.kids 6 = 0 by rw [← hx6]; exact e2)
        have HBx := Lib.hid (fun full w h => HB.out x.kids (.slice A3 x.kids.length c3) full _ w 6 HSx.out HKx.out hwk HE2.out (Or.inr (Or.inr rfl)) HLx.out hdl HDb.out h)
        have CI1 := Lib.hid (show CB (wr.alloc (nodeBox x (.slice A3 x.kids.length c3))) wr.heap.size 45 (nodeC x (.slice A3 x.kids.length c3)) from CB.new _ _ _)
        clear hx e1 e2 hct hcl hA e3 hwt hx6 hcx
        have hgne2 := Nat.ne_of_gt hwr
        go_wp2_with fail
        go_must (refine (put_at [⟨#[60, 108, 105, 62, 10]⟩] 1 rfl (by omega) _ rfl _ HI1.out ⟨(by decide), trivial⟩ _ (by first | rfl | simp)).mono ?_)
        rintro e w21 ⟨rfl, hw, hk⟩
        have HW21 := Lib.hid hw
        have HK21 := Lib.hid (KI1.out.trans hk)
        have CB21 := Lib.hid (hk _ _ _ CI1.out neN5 hgne2)
        clear hw hk
        obtain ⟨b210, b211, b212, b213, b214, b215⟩ := CB21.out.six
        go_wp2_with fail
        go_must (refine (HBx.out _ _ HW21.out).mono ?_)
        rintro e w22 ⟨rfl, hw, hk⟩
        have HW22 := Lib.hid hw
        have HK22 := Lib.hid (HK21.out.trans hk)
        have CB22 := Lib.hid (hk _ _ _ CB21.out neN5 hgne2)
        clear hw hk
        obtain ⟨b220, b221, b222, b223, b224, b225⟩ := CB22.out.six
        go_wp2_with fail
        go_must (refine (put_at [⟨#[60, 47, 108, 105, 62, 10]⟩] 1 rfl (by omega) _ rfl _ HW22.out ⟨(by decide), trivial⟩ _ (by first | rfl | simp)).mono ?_)
        rintro e w23 ⟨rfl, hw, hk⟩
        have HW23 := Lib.hid hw
        have HK23 := Lib.hid (HK22.out.trans hk)
        have CB23 := Lib.hid (hk _ _ _ CB22.out neN5 hgne2)
        clear hw hk
        obtain ⟨b230, b231, b232, b233, b234, b235⟩ := CB23.out.six
        go_wp2_with fail
        go_roundw
        case rel => exact ⟨k + 1, by omega, by go_num, by show HW _ _ _ _ _; rw [← HDr.out]; exact HW23.out.eq (by rw [HTk.out]; simp [hLi1, hLi2]), HK23.out⟩
        case measure => simp [intOf]; omega
      · have hke : k = n.kids.length := by omega
        subst hke
        rw [List.take_length] at hW
        go_wp2_with fail
        go_must (refine (put_at [⟨#[60, 47]⟩, ⟨#[111, 108]⟩, ⟨#[62]⟩] 3 rfl (by omega) _ rfl _ hW.out ⟨(by decide), (by decide), (by decide), trivial⟩ _ (by first | rfl | simp)).mono ?_)
        rintro e w41 ⟨rfl, hw, hk⟩
        have HW41 := Lib.hid hw
        have HK41 := Lib.hid (hKB.out.trans hk)
        clear hw hk
        go_wp2_with fail
        go_end0
        exact ⟨rfl, HW41.out.eq (by rw [HL.out]; simp [hLs, hGt, hOl]), HK41.out⟩
  · have tm : (n.level == -1) = false := by simp; omega
    have t1 : (n.level == 1) = false := by simp; omega
    have HO := Lib.hid (show olH n.level = hOs ++ sk.data.toList ++ hQgn by unfold olH; rw [if_neg (by omega), if_neg (by omega), HSk.out])
    have HL := Lib.hid (show lnH n.level = hOl by unfold lnH; rw [if_neg (by omega)])
    clear hx hlv
    go_enter Tryz.func106, Tryz.ntmps106
    go_wp2_with fail
    go_must (refine (HIt.out _ (hid_mono HTab.out H0.out.below)).mono ?_)
    rintro e w1 ⟨rfl, hb⟩
    have HW1 := Lib.hid (H0.out.more hb)
    have HK1 := Lib.hid (K0.out.trans (KeepB.of_below hb))
    have CB1 := Lib.hid (C0.out.below hb)
    clear hb
    obtain ⟨b10, b11, b12, b13, b14, b15⟩ := CB1.out.six
    go_wp2_with fail
    go_must (refine (put_at [⟨#[60, 111, 108, 32, 115, 116, 97, 114, 116, 61, 34]⟩, sk, ⟨#[34, 62, 10]⟩] 3 rfl (by omega) _ rfl _ HW1.out ⟨(by decide), (by omega), (by decide), trivial⟩ _ (by first | rfl | simp)).mono ?_)
    rintro e w2 ⟨rfl, hw, hk⟩
    have HW2 := Lib.hid hw
    have HK2 := Lib.hid (HK1.out.trans hk)
    have CB2 := Lib.hid (hk _ _ _ CB1.out neN5 hgne)
    clear hw hk
    obtain ⟨b20, b21, b22, b23, b24, b25⟩ := CB2.out.six
    have HF := Lib.hid (HW2.out.eq (show _ = full ++ olH n.level by rw [HO.out]; simp [hOs, hQgn]))
    go_wp2_with fail
    go_loopw [28] (fun t wr => ∃ (k : Nat), k ≤ n.kids.length ∧ t = .int .i64 k ∧ Hid (HW w0 b (full ++ olH n.level ++ blkL 0 (n.kids.take k) ids) (ids.drop (headsL (n.kids.take k)).length) wr) ∧ Hid (KeepB b w wr)) (fun t _ => n.kids.length - (intOf t).toNat)
    case atStart => exact ⟨0, Nat.zero_le _, rfl, by rw [List.take_zero, blkL_nil, List.append_nil, headsL_nil]; exact HF.out, HK2.out⟩
    case round =>
      obtain ⟨k, hkk, rfl, hW, hKB⟩ := hrel
      by_cases hlt : k < n.kids.length
      · skip
        have hA' := hA (by intro h0; rw [h0] at hlt; simp at hlt)
        subst hA'
        obtain ⟨x, hx⟩ : ∃ x, n.kids[k]? = some x := ⟨_, List.getElem?_eq_getElem hlt⟩
        obtain ⟨p0, p1, p2, p3, p4, p5, _, _, _, _, _⟩ := (HCell.out k x hx).keep hW.out.keeps
        have bb := World.block_lt_of_cell? _ _ p5
        simp only at bb
        have hkx := HKid.out k x hx
        obtain ⟨A3, c3, b3, o3, k3, e3, _, _, _, _, _⟩ := hkx.inv
        rw [e3] at hkx p5
        have HKx := Lib.hid hkx; clear hkx
        have hwt := weight_take hx
        have hwk : weight x.kids ≤ 1048576 := by omega
        have HX := Lib.hid hx
        have hwr := hW.out.lt
        have HI1 := Lib.hid (hW.out.alloc (nodeBox x (.slice A3 x.kids.length c3)))
        have KI1 := Lib.hid (hKB.out.trans (KeepB.alloc b wr (nodeBox x (.slice A3 x.kids.length c3))))
        obtain ⟨e1, e2⟩ := nodesErr_mem HE.out hx
        have hx6 := item_kind e1
        have HLx := Lib.hid (HLv.out.at_ hx).2.2
        have hcx : hcN x = (headsL x.kids).length := hc_deep (by omega)
        have hct := hc_take hx
        have hcl := heads_take_le n.kids (k + 1)
        have hdl : (headsL x.kids).length ≤ (ids.drop (headsL (n.kids.take k)).length).length := by rw [List.length_drop]; have := HId.out; omega
        have HDb := Lib.hid (show ∀ y ∈ ids.drop (headsL (n.kids.take k)).length, y.length ≤ 1048700 from fun y hy => HIb.out y (List.mem_of_mem_drop hy))
        have HDr := Lib.hid (show (ids.drop (headsL (n.kids.take k)).length).drop (headsL x.kids).length = ids.drop (headsL (n.kids.take (k + 1))).length by rw [List.drop_drop, hct, hcx])
        have HTk := Lib.hid (show blkL 0 (n.kids.take (k + 1)) ids = blkL 0 (n.kids.take k) ids ++ (hLi1 ++ blkL 0 x.kids (ids.drop (headsL (n.kids.take k)).length) ++ hLi2) by rw [blkL_take ids hx]; unfold blk1 blkN; rw [if_pos hx6])
        have HSx := Lib.hid (show SizeOf.sizeOf x.kids ≤ N by have h8 := HN.out; have h9 := kid_lt hx; omega)
        have HE2 := Lib.hid (show nodesErr x.kids 6 = 0 by rw [← hx6]; exact e2)
        have HBx := Lib.hid (fun full w h => HB.out x.kids (.slice A3 x.kids.length c3) full _ w 6 HSx.out HKx.out hwk HE2.out (Or.inr (Or.inr rfl)) HLx.out hdl HDb.out h)
        have CI1 := Lib.hid (show CB (wr.alloc (nodeBox x (.slice A3 x.kids.length c3))) wr.heap.size 45 (nodeC x (.slice A3 x.kids.length c3)) from CB.new _ _ _)
        clear hx e1 e2 hct hcl hA e3 hwt hx6 hcx
        have hgne2 := Nat.ne_of_gt hwr
        go_wp2_with fail
        go_must (refine (put_at [⟨#[60, 108, 105, 62, 10]⟩] 1 rfl (by omega) _ rfl _ HI1.out ⟨(by decide), trivial⟩ _ (by first | rfl | simp)).mono ?_)
        rintro e w21 ⟨rfl, hw, hk⟩
        have HW21 := Lib.hid hw
        have HK21 := Lib.hid (KI1.out.trans hk)
        have CB21 := Lib.hid (hk _ _ _ CI1.out neN5 hgne2)
        clear hw hk
        obtain ⟨b210, b211, b212, b213, b214, b215⟩ := CB21.out.six
        go_wp2_with fail
        go_must (refine (HBx.out _ _ HW21.out).mono ?_)
        rintro e w22 ⟨rfl, hw, hk⟩
        have HW22 := Lib.hid hw
        have HK22 := Lib.hid (HK21.out.trans hk)
        have CB22 := Lib.hid (hk _ _ _ CB21.out neN5 hgne2)
        clear hw hk
        obtain ⟨b220, b221, b222, b223, b224, b225⟩ := CB22.out.six
        go_wp2_with fail
        go_must (refine (put_at [⟨#[60, 47, 108, 105, 62, 10]⟩] 1 rfl (by omega) _ rfl _ HW22.out ⟨(by decide), trivial⟩ _ (by first | rfl | simp)).mono ?_)
        rintro e w23 ⟨rfl, hw, hk⟩
        have HW23 := Lib.hid hw
        have HK23 := Lib.hid (HK22.out.trans hk)
        have CB23 := Lib.hid (hk _ _ _ CB22.out neN5 hgne2)
        clear hw hk
        obtain ⟨b230, b231, b232, b233, b234, b235⟩ := CB23.out.six
        go_wp2_with fail
        go_roundw
        case rel => exact ⟨k + 1, by omega, by go_num, by show HW _ _ _ _ _; rw [← HDr.out]; exact HW23.out.eq (by rw [HTk.out]; simp [hLi1, hLi2]), HK23.out⟩
        case measure => simp [intOf]; omega
      · have hke : k = n.kids.length := by omega
        subst hke
        rw [List.take_length] at hW
        go_wp2_with fail
        go_must (refine (put_at [⟨#[60, 47]⟩, ⟨#[111, 108]⟩, ⟨#[62]⟩] 3 rfl (by omega) _ rfl _ hW.out ⟨(by decide), (by decide), (by decide), trivial⟩ _ (by first | rfl | simp)).mono ?_)
        rintro e w41 ⟨rfl, hw, hk⟩
        have HW41 := Lib.hid hw
        have HK41 := Lib.hid (hKB.out.trans hk)
        clear hw hk
        go_wp2_with fail
        go_end0
        exact ⟨rfl, HW41.out.eq (by rw [HL.out]; simp [hLs, hGt, hOl]), HK41.out⟩

set_option maxRecDepth 100000 in
set_option maxHeartbeats 4000000 in
theorem table_q {w0 : World} {b : Nat} {full : List UInt8} {ids : List (List UInt8)} (n : Node) (A : Option Addr) (c : Nat) (w : World) (hk : NodesAt w0 (.slice A n.kids.length c) n.kids) (hwk0 : weight n.kids ≤ 1048576)
    (he : nodesErr n.kids 8 = 0) (h : HW w0 b full ids w) :
    Calls Tryz.prog 107 #[.pointer (some ⟨b, 0, none⟩), nodeV n (.slice A n.kids.length c)] w (WPost w0 b (full ++ (hTb1 ++ blkL 0 n.kids ids ++ hTb2)) ids w) := by
  have H0 := Lib.hid (h.alloc (nodeBox n (.slice A n.kids.length c)))
  have K0 := Lib.hid (KeepB.alloc b w (nodeBox n (.slice A n.kids.length c)))
  have C0 := Lib.hid (show CB (w.alloc (nodeBox n (.slice A n.kids.length c))) w.heap.size 45 (nodeC n (.slice A n.kids.length c)) from CB.new _ _ _)
  have hgne : w.heap.size ≠ b := by have := h.lt; omega
  obtain ⟨An, cx, bl, o, kv, e9, hlc, hc, hA, hcell, hkid⟩ := hk.inv
  cases e9
  unfold maxLen at hc
  have HCell := Lib.hid hcell; clear hcell
  have HKid := Lib.hid hkid; clear hkid
  have HE := Lib.hid he
  clear h hk he
  go_enter Tryz.func107, Tryz.ntmps107
  go_wp2_with fail
  go_must (refine (put_at [⟨#[60, 116, 97, 98, 108, 101, 62, 10]⟩] 1 rfl (by omega) _ rfl _ H0.out ⟨(by decide), trivial⟩ _ (by first | rfl | simp)).mono ?_)
  rintro e w1 ⟨rfl, hw, hk⟩
  have HW1 := Lib.hid hw
  have HK1 := Lib.hid (K0.out.trans hk)
  have CB1 := Lib.hid (hk _ _ _ C0.out neN5 hgne)
  clear hw hk
  obtain ⟨b10, b11, b12, b13, b14, b15⟩ := CB1.out.six
  have HF := Lib.hid (HW1.out.eq (show _ = full ++ hTb1 by simp [hTb1]))
  go_wp2_with fail
  go_loopw [15] (fun t wr => ∃ (k : Nat), k ≤ n.kids.length ∧ t = .int .i64 k ∧ Hid (HW w0 b (full ++ hTb1 ++ blkL 0 (n.kids.take k) ids) ids wr) ∧ Hid (KeepB b w wr)) (fun t _ => n.kids.length - (intOf t).toNat)
  case atStart => exact ⟨0, Nat.zero_le _, rfl, by rw [List.take_zero, blkL_nil, List.append_nil]; exact HF.out, HK1.out⟩
  case round =>
    obtain ⟨k, hkk, rfl, hW, hKB⟩ := hrel
    by_cases hlt : k < n.kids.length
    · skip
      have hA' := hA (by intro h0; rw [h0] at hlt; simp at hlt)
      subst hA'
      obtain ⟨x, hx⟩ : ∃ x, n.kids[k]? = some x := ⟨_, List.getElem?_eq_getElem hlt⟩
      obtain ⟨p0, p1, p2, p3, p4, p5, _, _, _, _, _⟩ := (HCell.out k x hx).keep hW.out.keeps
      have bb := World.block_lt_of_cell? _ _ p5
      simp only at bb
      have hkx := HKid.out k x hx
      obtain ⟨A3, c3, b3, o3, k3, e3, _, _, _, _, _⟩ := hkx.inv
      rw [e3] at hkx p5
      have HKx := Lib.hid hkx; clear hkx
      have hwt := weight_take hx
      have hwk : weight x.kids ≤ 1048576 := by omega
      have HX := Lib.hid hx
      have hwr := hW.out.lt
      have HI1 := Lib.hid (hW.out.alloc (nodeBox x (.slice A3 x.kids.length c3)))
      have KI1 := Lib.hid (hKB.out.trans (KeepB.alloc b wr (nodeBox x (.slice A3 x.kids.length c3))))
      have CI1 := Lib.hid (show CB (wr.alloc (nodeBox x (.slice A3 x.kids.length c3))) wr.heap.size 45 (nodeC x (.slice A3 x.kids.length c3)) from CB.new _ _ _)
      obtain ⟨e1, e2⟩ := nodesErr_mem HE.out hx
      have hx9 := row_kind e1
      have hd0 : (headsL (n.kids.take k)).length = 0 := by
        have h1 := heads_take_le n.kids k
        rw [heads_rows n.kids HE.out] at h1; simpa using h1
      obtain ⟨nm, hnm⟩ : ∃ z : ByteArray, (⟨(tdH k).toArray⟩ : ByteArray) = z := ⟨_, rfl⟩
      have hnms : nm.size ≤ 2 := by rw [← hnm]; exact tdH_le k
      have hnml : nm.data.toList = tdH k := by rw [← hnm]
      have HNm := Lib.hid hnml
      have HTk := Lib.hid (show blkL 0 (n.kids.take (k + 1)) ids = blkL 0 (n.kids.take k) ids ++ (hTr1 ++ cellsH (tdH k) x.kids ++ hTr2) by rw [blkL_take ids hx]; unfold blk1 blkN; rw [if_neg (by omega), if_pos hx9])
      have hgne2 := Nat.ne_of_gt hwr
      obtain ⟨An2, cx2, bl2, o2, kv2, e92, hlc2, hc2, hA2, hcell2, hkid2⟩ := HKx.out.inv
      cases e92
      unfold maxLen at hc2
      have HCell2 := Lib.hid hcell2; clear hcell2
      have HKid2 := Lib.hid hkid2; clear hkid2
      clear hx e1 e2 hd0 hA e3 hwt hnml HE hx9
      have hcase : (k = 0 ∧ nm = ⟨#[116, 104]⟩) ∨ (0 < k ∧ nm = ⟨#[116, 100]⟩) := by
        by_cases h0 : k = 0
        · left; refine ⟨h0, ?_⟩; rw [← hnm, h0]; rfl
        · right; refine ⟨by omega, ?_⟩; rw [← hnm]; unfold tdH; rw [if_neg h0]; rfl
      clear hnm
      rcases hcase with ⟨h0, hnm⟩ | ⟨h0, hnm⟩
      · have t0 : (k == 0) = true := by simp; omega
        have HNm2 := Lib.hid hnm; clear hnm h0
        go_wp2_with fail
        go_must (refine (put_at [⟨#[60, 116, 114, 62]⟩] 1 rfl (by omega) _ rfl _ HI1.out ⟨(by decide), trivial⟩ _ (by first | rfl | simp)).mono ?_)
        rintro e w21 ⟨rfl, hw, hk⟩
        have HW21 := Lib.hid hw
        have HK21 := Lib.hid (KI1.out.trans hk)
        have CB21 := Lib.hid (hk _ _ _ CI1.out neN5 hgne2)
        clear hw hk
        obtain ⟨b210, b211, b212, b213, b214, b215⟩ := CB21.out.six
        go_wp2_with fail
        rw [← HNm2.out]
        go_loopw [28] (fun t wr2 => ∃ (q : Nat), q ≤ x.kids.length ∧ t = .int .i64 q ∧ Hid (HW w0 b (full ++ hTb1 ++ blkL 0 (n.kids.take k) ids ++ hTr1 ++ cellsH (tdH k) (x.kids.take q)) ids wr2) ∧ Hid (KeepB b w wr2)) (fun t _ => x.kids.length - (intOf t).toNat)
        case atStart => exact ⟨0, Nat.zero_le _, rfl, HW21.out.eq (by simp [hTr1, cellsH]), HK21.out⟩
        case round =>
          obtain ⟨q, hq, rfl, hW2, hKB2⟩ := hrel
          by_cases hlt2 : q < x.kids.length
          · have hA'2 := hA2 (by intro h0; rw [h0] at hlt2; simp at hlt2)
            subst hA'2
            obtain ⟨y, hy⟩ : ∃ y, x.kids[q]? = some y := ⟨_, List.getElem?_eq_getElem hlt2⟩
            obtain ⟨r0, r1, r2, r3, r4, r5, _, _, _, _, _⟩ := (HCell2.out q y hy).keep hW2.out.keeps
            have bb2 := World.block_lt_of_cell? _ _ r5
            simp only at bb2
            have hky := HKid2.out q y hy
            obtain ⟨A4, c4, b4, o4, k4, e4, _, _, _, _, _⟩ := hky.inv
            rw [e4] at hky r5
            have HKy := Lib.hid hky; clear hky
            have hwt2 := weight_take hy
            have hwy : weight y.kids ≤ 1048576 := by omega
            have HCt := Lib.hid (show cellsH (tdH k) (x.kids.take (q + 1)) = cellsH (tdH k) (x.kids.take q) ++ cellH nm.data.toList y by rw [cellsH_take hy, HNm.out])
            have HJ := Lib.hid (hW2.out.alloc (nodeBox y (.slice A4 y.kids.length c4)))
            have KJ := Lib.hid (hKB2.out.trans (KeepB.alloc b _ (nodeBox y (.slice A4 y.kids.length c4))))
            have HIn := Lib.hid (fun full w h => inlines_any w0 b _ y.kids (.slice A4 y.kids.length c4) full ids w (Nat.le_refl _) HKy.out hwy h)
            clear hy hA2 e4 hwt2
            go_wp2_with fail
            go_must (refine (element_q y nm A4 c4 _ HJ.out (by omega) HIn.out).mono ?_)
            rintro e w50 ⟨rfl, hw, hk⟩
            have HW50 := Lib.hid hw
            have HK50 := Lib.hid (KJ.out.trans hk)
            clear hw hk
            go_wp2_with fail
            go_roundw
            case rel => exact ⟨q + 1, by omega, by go_num, HW50.out.eq (by rw [HCt.out]; simp), HK50.out⟩
            case measure => simp [intOf]; omega
          · have hqe : q = x.kids.length := by omega
            subst hqe
            rw [List.take_length] at hW2
            go_wp2_with fail
            go_must (refine (put_at [⟨#[60, 47, 116, 114, 62, 10]⟩] 1 rfl (by omega) _ rfl _ hW2.out ⟨(by decide), trivial⟩ _ (by first | rfl | simp)).mono ?_)
            rintro e w61 ⟨rfl, hw, hk⟩
            have HW61 := Lib.hid hw
            have HK61 := Lib.hid (hKB2.out.trans hk)
            clear hw hk
            go_wp2_with fail
            go_roundw
            case rel => exact ⟨k + 1, by omega, by go_num, HW61.out.eq (by rw [HTk.out]; simp [hTr2]), HK61.out⟩
            case measure => simp [intOf]; omega
      · have t0 : (k == 0) = false := by simp; omega
        have HNm2 := Lib.hid hnm; clear hnm h0
        go_wp2_with fail
        go_must (refine (put_at [⟨#[60, 116, 114, 62]⟩] 1 rfl (by omega) _ rfl _ HI1.out ⟨(by decide), trivial⟩ _ (by first | rfl | simp)).mono ?_)
        rintro e w21 ⟨rfl, hw, hk⟩
        have HW21 := Lib.hid hw
        have HK21 := Lib.hid (KI1.out.trans hk)
        have CB21 := Lib.hid (hk _ _ _ CI1.out neN5 hgne2)
        clear hw hk
        obtain ⟨b210, b211, b212, b213, b214, b215⟩ := CB21.out.six
        go_wp2_with fail
        rw [← HNm2.out]
        go_loopw [28] (fun t wr2 => ∃ (q : Nat), q ≤ x.kids.length ∧ t = .int .i64 q ∧ Hid (HW w0 b (full ++ hTb1 ++ blkL 0 (n.kids.take k) ids ++ hTr1 ++ cellsH (tdH k) (x.kids.take q)) ids wr2) ∧ Hid (KeepB b w wr2)) (fun t _ => x.kids.length - (intOf t).toNat)
        case atStart => exact ⟨0, Nat.zero_le _, rfl, HW21.out.eq (by simp [hTr1, cellsH]), HK21.out⟩
        case round =>
          obtain ⟨q, hq, rfl, hW2, hKB2⟩ := hrel
          by_cases hlt2 : q < x.kids.length
          · have hA'2 := hA2 (by intro h0; rw [h0] at hlt2; simp at hlt2)
            subst hA'2
            obtain ⟨y, hy⟩ : ∃ y, x.kids[q]? = some y := ⟨_, List.getElem?_eq_getElem hlt2⟩
            obtain ⟨r0, r1, r2, r3, r4, r5, _, _, _, _, _⟩ := (HCell2.out q y hy).keep hW2.out.keeps
            have bb2 := World.block_lt_of_cell? _ _ r5
            simp only at bb2
            have hky := HKid2.out q y hy
            obtain ⟨A4, c4, b4, o4, k4, e4, _, _, _, _, _⟩ := hky.inv
            rw [e4] at hky r5
            have HKy := Lib.hid hky; clear hky
            have hwt2 := weight_take hy
            have hwy : weight y.kids ≤ 1048576 := by omega
            have HCt := Lib.hid (show cellsH (tdH k) (x.kids.take (q + 1)) = cellsH (tdH k) (x.kids.take q) ++ cellH nm.data.toList y by rw [cellsH_take hy, HNm.out])
            have HJ := Lib.hid (hW2.out.alloc (nodeBox y (.slice A4 y.kids.length c4)))
            have KJ := Lib.hid (hKB2.out.trans (KeepB.alloc b _ (nodeBox y (.slice A4 y.kids.length c4))))
            have HIn := Lib.hid (fun full w h => inlines_any w0 b _ y.kids (.slice A4 y.kids.length c4) full ids w (Nat.le_refl _) HKy.out hwy h)
            clear hy hA2 e4 hwt2
            go_wp2_with fail
            go_must (refine (element_q y nm A4 c4 _ HJ.out (by omega) HIn.out).mono ?_)
            rintro e w50 ⟨rfl, hw, hk⟩
            have HW50 := Lib.hid hw
            have HK50 := Lib.hid (KJ.out.trans hk)
            clear hw hk
            go_wp2_with fail
            go_roundw
            case rel => exact ⟨q + 1, by omega, by go_num, HW50.out.eq (by rw [HCt.out]; simp), HK50.out⟩
            case measure => simp [intOf]; omega
          · have hqe : q = x.kids.length := by omega
            subst hqe
            rw [List.take_length] at hW2
            go_wp2_with fail
            go_must (refine (put_at [⟨#[60, 47, 116, 114, 62, 10]⟩] 1 rfl (by omega) _ rfl _ hW2.out ⟨(by decide), trivial⟩ _ (by first | rfl | simp)).mono ?_)
            rintro e w61 ⟨rfl, hw, hk⟩
            have HW61 := Lib.hid hw
            have HK61 := Lib.hid (hKB2.out.trans hk)
            clear hw hk
            go_wp2_with fail
            go_roundw
            case rel => exact ⟨k + 1, by omega, by go_num, HW61.out.eq (by rw [HTk.out]; simp [hTr2]), HK61.out⟩
            case measure => simp [intOf]; omega
    · have hke : k = n.kids.length := by omega
      subst hke
      rw [List.take_length] at hW
      go_wp2_with fail
      go_must (refine (put_at [⟨#[60, 47, 116, 97, 98, 108, 101, 62]⟩] 1 rfl (by omega) _ rfl _ hW.out ⟨(by decide), trivial⟩ _ (by first | rfl | simp)).mono ?_)
      rintro e w41 ⟨rfl, hw, hk⟩
      have HW41 := Lib.hid hw
      have HK41 := Lib.hid (hKB.out.trans hk)
      clear hw hk
      go_wp2_with fail
      go_end0
      exact ⟨rfl, HW41.out.eq (by simp [hTb2]), HK41.out⟩

end Go.Proofs.YtikijmjcmpkkdaaGreatDoor

namespace Go.Proofs.YtikijmjcmpkkdaaGreatDoor
open Go.RowKit Go.Deep

theorem blk_1 {n : Node} {t d : List UInt8} {ids : List (List UInt8)} {ks : List Node} {bk : List UInt8} (h : n.kind = 1) : blkC n.kind n.level t d ids ks bk = hH1 ++ lvB n.level ++ hId ++ escL (headId ids) ++ hQg ++ inlL ks ++ hH2 ++ lvB n.level ++ hGt := by rw [h]; simp [blkC]
theorem blk_2 {n : Node} {t d : List UInt8} {ids : List (List UInt8)} {ks : List Node} {bk : List UInt8} (h : n.kind = 2) : blkC n.kind n.level t d ids ks bk = hP1 ++ inlL ks ++ hP2 := by rw [h]; simp [blkC]
theorem blk_3 {n : Node} {t d : List UInt8} {ids : List (List UInt8)} {ks : List Node} {bk : List UInt8} (h : n.kind = 3) : blkC n.kind n.level t d ids ks bk = infoH d ++ escL t ++ hPre2 := by rw [h]; simp [blkC]
theorem blk_4 {n : Node} {t d : List UInt8} {ids : List (List UInt8)} {ks : List Node} {bk : List UInt8} (h : n.kind = 4) : blkC n.kind n.level t d ids ks bk = hBq1 ++ bk ++ hBq2 := by rw [h]; simp [blkC]
theorem blk_5 {n : Node} {t d : List UInt8} {ids : List (List UInt8)} {ks : List Node} {bk : List UInt8} (h : n.kind = 5) : blkC n.kind n.level t d ids ks bk = olH n.level ++ bk ++ hLs ++ lnH n.level ++ hGt := by rw [h]; simp [blkC]
theorem blk_7 {n : Node} {t d : List UInt8} {ids : List (List UInt8)} {ks : List Node} {bk : List UInt8} (h : n.kind = 7) : blkC n.kind n.level t d ids ks bk = hHr := by rw [h]; simp [blkC]
theorem blk_8 {n : Node} {t d : List UInt8} {ids : List (List UInt8)} {ks : List Node} {bk : List UInt8} (h : n.kind = 8) : blkC n.kind n.level t d ids ks bk = hTb1 ++ bk ++ hTb2 := by rw [h]; simp [blkC]
theorem bcell_keep {w0 w : World} (h : Below w0.heap.size w0 w) {a : Addr} {v : Value} (hc : w0.cell? a = some v) : w.cell? a = some v := Keeps.of_below h _ _ hc

set_option maxRecDepth 100000 in
set_option maxHeartbeats 8000000 in
theorem block_q {w0 : World} {b N : Nat} {full : List UInt8} {ids : List (List UInt8)} (hB : BlksOk w0 b N) (n : Node) (A : Option Addr) (c : Nat) (p : Int) (w : World) (hN : SizeOf.sizeOf n.kids ≤ N) (hk : NodesAt w0 (.slice A n.kids.length c) n.kids)
    (hts : n.text.size ≤ 1048576) (hds : n.dest.size ≤ 1048576) (hwk : weight n.kids ≤ 1048576)
    (he1 : nodeErr n p = 0) (hp : p = 0 ∨ p = 4 ∨ p = 6) (he : nodesErr n.kids n.kind = 0) (hlv : -1 ≤ n.level ∧ n.level ≤ 9999) (hll : Leveled n.kids) (hid : hcN n ≤ ids.length) (hib : ∀ x ∈ ids, x.length ≤ 1048700) (htab : TabOk w0) (h : HW w0 b full ids w) :
    Calls Tryz.prog 62 #[.pointer (some ⟨b, 0, none⟩), nodeV n (.slice A n.kids.length c)] w (WPost w0 b (full ++ blkC n.kind n.level n.text.data.toList n.dest.data.toList ids n.kids (blkL 0 n.kids ids)) (ids.drop (hcN n)) w) := by
  have H0 := Lib.hid (h.alloc (nodeBox n (.slice A n.kids.length c)))
  have K0 := Lib.hid (KeepB.alloc b w (nodeBox n (.slice A n.kids.length c)))
  have C0 := Lib.hid (show CB (w.alloc (nodeBox n (.slice A n.kids.length c))) w.heap.size 45 (nodeC n (.slice A n.kids.length c)) from CB.new _ _ _)
  have hgne : w.heap.size ≠ b := by have := h.lt; omega
  have HKd := Lib.hid hk
  have HTab := Lib.hid htab
  have HIb := Lib.hid hib
  have HLv := Lib.hid hll
  have HB := Lib.hid hB
  have HN := Lib.hid hN
  have HE := Lib.hid he
  have HLv2 := Lib.hid hlv
  have HId := Lib.hid hid
  have HIn := Lib.hid (fun full ids w h => inlines_any w0 b _ n.kids (.slice A n.kids.length c) full ids w (Nat.le_refl _) HKd.out hwk h)
  obtain ⟨zt, hzt⟩ : ∃ z : ByteArray, (⟨(escL n.text.data.toList).toArray⟩ : ByteArray) = z := ⟨_, rfl⟩
  have hzts := esc_size n.text zt hzt
  have HZt := Lib.hid (show escL n.text.data.toList = zt.data.toList by rw [← hzt])
  have HEt := Lib.hid (fun w => escape_q n.text zt w hzt (by omega))
  have hx := blk_kind he1 hp
  clear h hk htab hib hll hB hN he hid hzt he1 hp
  rcases hx with hx | hx | hx | hx | hx | hx | hx
  · have HPN := Lib.hid (blk_1 (t := n.text.data.toList) (d := n.dest.data.toList) (ids := ids) (ks := n.kids) (bk := blkL 0 n.kids ids) hx)
    have t1 : (n.kind == 1) = true := by simp; omega
    have t2 : (n.kind == 2) = false := by simp; omega
    have t3 : (n.kind == 3) = false := by simp; omega
    have t4 : (n.kind == 4) = false := by simp; omega
    have t5 : (n.kind == 5) = false := by simp; omega
    have t7 : (n.kind == 7) = false := by simp; omega
    have t8 : (n.kind == 8) = false := by simp; omega
    have HHc := Lib.hid (hc_head HE.out hx)
    clear hx
    have hne : 1 ≤ ids.length := by have := HId.out; rw [HHc.out] at this; exact this
    obtain ⟨x, r, rfl⟩ : ∃ x r, ids = x :: r := by
      cases ids with
      | nil => simp at hne
      | cons x r => exact ⟨x, r, rfl⟩
    have hxs := HIb.out x (by simp)
    obtain ⟨xs, hxs2⟩ : ∃ z : ByteArray, (⟨x.toArray⟩ : ByteArray) = z := ⟨_, rfl⟩
    have hxl : xs.data.toList = x := by rw [← hxs2]
    have hxz : xs.size ≤ 1048700 := by rw [← size_toList, hxl]; exact hxs
    obtain ⟨zi, hzi⟩ : ∃ z : ByteArray, (⟨(escL xs.data.toList).toArray⟩ : ByteArray) = z := ⟨_, rfl⟩
    have hzis := esc_size xs zi hzi
    have HZi := Lib.hid (show escL (headId (x :: r)) = zi.data.toList by rw [← hzi, hxl]; rfl)
    have HEi := Lib.hid (fun w => escape_q xs zi w hzi (by omega))
    obtain ⟨sk, hsk⟩ : ∃ z : ByteArray, (⟨(Lib.itoa n.level).toArray⟩ : ByteArray) = z := ⟨_, rfl⟩
    have hsks : sk.size ≤ 21 := by rw [← hsk]; exact lvB_le HLv2.out
    have HSk := Lib.hid (show lvB n.level = sk.data.toList by rw [← hsk]; rfl)
    have HIt := Lib.hid (fun w ht => itoa_w n.level sk w ⟨by omega, by omega⟩ hsk ht)
    clear hsk hzi hxs hxl hlv hne
    go_enter Tryz.func62, Tryz.ntmps62
    go_wp2_with fail
    go_must (refine (HIt.out _ (hid_mono HTab.out H0.out.below)).mono ?_)
    rintro e w1 ⟨rfl, hb⟩
    have HW1 := Lib.hid (H0.out.more hb)
    have HK1 := Lib.hid (K0.out.trans (KeepB.of_below hb))
    have CB1 := Lib.hid (C0.out.below hb)
    clear hb
    obtain ⟨b10, b11, b12, b13, b14, b15⟩ := CB1.out.six
    obtain ⟨hbel, acc, iv, hlim, hacc, hids, hat⟩ := HW1.out
    obtain ⟨bi, oi, ni, ci, rfl, hn1, hnc, hcm, hci, hdr⟩ := ids_inv hids
    rw [hxs2] at hci
    have e2 : w1.cell? ⟨b, 2, none⟩ = some (.slice (some ⟨bi, oi, none⟩) ni ci) := by obtain ⟨_, _, _, _, h1, _, _⟩ := hat; exact h1.c 2
    have e0 := bcell_keep hbel hci
    unfold maxLen at hcm
    clear hat hdr hids hci hbel hlim hacc
    go_wp2_with fail
    go_must (refine (HEi.out _).mono ?_)
    rintro e w2 ⟨rfl, hb⟩
    have HW2 := Lib.hid (HW1.out.more hb)
    have HK2 := Lib.hid (HK1.out.trans (KeepB.of_below hb))
    have CB2 := Lib.hid (CB1.out.below hb)
    clear hb
    obtain ⟨b20, b21, b22, b23, b24, b25⟩ := CB2.out.six
    go_wp2_with fail
    go_must (refine (put_at [⟨#[60, 104]⟩, sk, ⟨#[32, 105, 100, 61, 34]⟩, zi, ⟨#[34, 62]⟩] 5 rfl (by omega) _ rfl _ HW2.out ⟨(by decide), (by omega), (by decide), (by omega), (by decide), trivial⟩ _ (by first | rfl | simp)).mono ?_)
    rintro e w3 ⟨rfl, hw, hk⟩
    have HW3 := Lib.hid hw
    have HK3 := Lib.hid (HK2.out.trans hk)
    have CB3 := Lib.hid (hk _ _ _ CB2.out neN5 hgne)
    clear hw hk
    obtain ⟨b30, b31, b32, b33, b34, b35⟩ := CB3.out.six
    obtain ⟨hbel, acc, iv, hlim, hacc, hids, hat⟩ := HW3.out
    obtain ⟨bj, oj, nj, cj, rfl, hn2, hnc2, hcm2, hci2, hdr⟩ := ids_inv hids
    have g2 : w3.cell? ⟨b, 2, none⟩ = some (.slice (some ⟨bj, oj, none⟩) nj cj) := by obtain ⟨_, _, _, _, h1, _, _⟩ := hat; exact h1.c 2
    have f2 : w3.frozen? ⟨b, 2, none⟩ = false := by obtain ⟨_, _, _, _, h1, _, _⟩ := hat; exact h1.f 2
    unfold maxLen at hcm2
    have HDr := Lib.hid hdr
    have HNx := Lib.hid (fun jv hj => HW.next hbel hlim hacc hat (ids' := r) (jv := jv) hj)
    have HDrp := Lib.hid (show (x :: r).drop (hcN n) = r by rw [HHc.out]; rfl)
    clear hat hdr hids hci2 hbel hlim hacc e2 e0 hn1 hnc hcm
    by_cases hc1 : cj = 1
    · subst hc1
      have hnj : nj = 1 := by omega
      subst hnj
      have HW9 := Lib.hid (show HW w0 b _ r (w3.setCell ⟨b, 2, none⟩ (.slice (some ⟨bj, oj, none⟩) 0 0)) from by have h9 := HNx.out _ HDr.out; rw [if_pos rfl] at h9; exact h9)
      have HK9 := Lib.hid (HK3.out.trans (KeepB.set w3 b 2 (.slice (some ⟨bj, oj, none⟩) 0 0)))
      have CB9 := Lib.hid (CB3.out.set_other (o := 2) hgne (.slice (some ⟨bj, oj, none⟩) 0 0))
      obtain ⟨b90, b91, b92, b93, b94, b95⟩ := CB9.out.six
      clear HDr HNx
      go_wp2_with fail
      go_must (refine (HIn.out _ r _ HW9.out).mono ?_)
      rintro e w10 ⟨rfl, hw, hk⟩
      have HW10 := Lib.hid hw
      have HK10 := Lib.hid (HK9.out.trans hk)
      have CB10 := Lib.hid (hk _ _ _ CB9.out neN5 hgne)
      clear hw hk
      obtain ⟨b100, b101, b102, b103, b104, b105⟩ := CB10.out.six
      go_wp2_with fail
      go_must (refine (put_at [⟨#[60, 47, 104]⟩, sk, ⟨#[62]⟩] 3 rfl (by omega) _ rfl _ HW10.out ⟨(by decide), (by omega), (by decide), trivial⟩ _ (by first | rfl | simp)).mono ?_)
      rintro e w11 ⟨rfl, hw, hk⟩
      have HW11 := Lib.hid hw
      have HK11 := Lib.hid (HK10.out.trans hk)
      have CB11 := Lib.hid (hk _ _ _ CB10.out neN5 hgne)
      clear hw hk
      obtain ⟨b110, b111, b112, b113, b114, b115⟩ := CB11.out.six
      go_wp2_with fail
      go_end0
      exact ⟨rfl, by rw [HPN.out, HDrp.out]; exact HW11.out.eq (by rw [HSk.out, HZi.out]; simp [hH1, hId, hQg, hH2, hGt]), HK11.out⟩
    · have HW9 := Lib.hid (show HW w0 b _ r (w3.setCell ⟨b, 2, none⟩ (.slice (some ⟨bj, oj + 1, none⟩) (nj - 1) (cj - 1))) from by have h9 := HNx.out _ HDr.out; rw [if_neg hc1] at h9; exact h9)
      have HK9 := Lib.hid (HK3.out.trans (KeepB.set w3 b 2 (.slice (some ⟨bj, oj + 1, none⟩) (nj - 1) (cj - 1))))
      have CB9 := Lib.hid (CB3.out.set_other (o := 2) hgne (.slice (some ⟨bj, oj + 1, none⟩) (nj - 1) (cj - 1)))
      obtain ⟨b90, b91, b92, b93, b94, b95⟩ := CB9.out.six
      clear HDr HNx
      go_wp2_with fail
      go_must (refine (HIn.out _ r _ HW9.out).mono ?_)
      rintro e w10 ⟨rfl, hw, hk⟩
      have HW10 := Lib.hid hw
      have HK10 := Lib.hid (HK9.out.trans hk)
      have CB10 := Lib.hid (hk _ _ _ CB9.out neN5 hgne)
      clear hw hk
      obtain ⟨b100, b101, b102, b103, b104, b105⟩ := CB10.out.six
      go_wp2_with fail
      go_must (refine (put_at [⟨#[60, 47, 104]⟩, sk, ⟨#[62]⟩] 3 rfl (by omega) _ rfl _ HW10.out ⟨(by decide), (by omega), (by decide), trivial⟩ _ (by first | rfl | simp)).mono ?_)
      rintro e w11 ⟨rfl, hw, hk⟩
      have HW11 := Lib.hid hw
      have HK11 := Lib.hid (HK10.out.trans hk)
      have CB11 := Lib.hid (hk _ _ _ CB10.out neN5 hgne)
      clear hw hk
      obtain ⟨b110, b111, b112, b113, b114, b115⟩ := CB11.out.six
      go_wp2_with fail
      go_end0
      exact ⟨rfl, by rw [HPN.out, HDrp.out]; exact HW11.out.eq (by rw [HSk.out, HZi.out]; simp [hH1, hId, hQg, hH2, hGt]), HK11.out⟩
  · have HPN := Lib.hid (blk_2 (t := n.text.data.toList) (d := n.dest.data.toList) (ids := ids) (ks := n.kids) (bk := blkL 0 n.kids ids) hx)
    have t1 : (n.kind == 1) = false := by simp; omega
    have t2 : (n.kind == 2) = true := by simp; omega
    have t3 : (n.kind == 3) = false := by simp; omega
    have t4 : (n.kind == 4) = false := by simp; omega
    have t5 : (n.kind == 5) = false := by simp; omega
    have t7 : (n.kind == 7) = false := by simp; omega
    have t8 : (n.kind == 8) = false := by simp; omega
    have HHc := Lib.hid (hc_inl HE.out (Or.inl hx))
    clear hx
    clear hlv
    go_enter Tryz.func62, Tryz.ntmps62
    go_wp2_with fail
    go_must (refine (element_q n ⟨#[112]⟩ A c _ H0.out (by decide) (fun full w h => HIn.out full ids w h)).mono ?_)
    rintro e w1 ⟨rfl, hw, hk⟩
    have HW1 := Lib.hid hw
    have HK1 := Lib.hid (K0.out.trans hk)
    have CB1 := Lib.hid (hk _ _ _ C0.out neN5 hgne)
    clear hw hk
    obtain ⟨b10, b11, b12, b13, b14, b15⟩ := CB1.out.six
    go_wp2_with fail
    go_end0
    exact ⟨rfl, by rw [HPN.out, HHc.out]; exact HW1.out.eq (by simp [cellH, hLt, hGt, hLs, hP1, hP2]), HK1.out⟩
  · have HPN := Lib.hid (blk_3 (t := n.text.data.toList) (d := n.dest.data.toList) (ids := ids) (ks := n.kids) (bk := blkL 0 n.kids ids) hx)
    have t1 : (n.kind == 1) = false := by simp; omega
    have t2 : (n.kind == 2) = false := by simp; omega
    have t3 : (n.kind == 3) = true := by simp; omega
    have t4 : (n.kind == 4) = false := by simp; omega
    have t5 : (n.kind == 5) = false := by simp; omega
    have t7 : (n.kind == 7) = false := by simp; omega
    have t8 : (n.kind == 8) = false := by simp; omega
    have HHc := Lib.hid (hc_none (no_kids HE.out (Or.inl hx)) (by omega))
    clear hx
    clear hlv
    by_cases h0 : n.dest.data.toList = []
    · have t0 : n.dest.toList.isEmpty = true := by rw [Go.ByteArray.toList_eq, h0]; rfl
      have HIf := Lib.hid (show infoH n.dest.data.toList = hPre1 ++ hGt by unfold infoH; rw [if_pos h0])
      clear h0
      go_enter Tryz.func62, Tryz.ntmps62
      go_wp2_with fail
      go_must (refine (put_at [⟨#[60, 112, 114, 101, 62, 60, 99, 111, 100, 101]⟩] 1 rfl (by omega) _ rfl _ H0.out ⟨(by decide), trivial⟩ _ (by first | rfl | simp)).mono ?_)
      rintro e w1 ⟨rfl, hw, hk⟩
      have HW1 := Lib.hid hw
      have HK1 := Lib.hid (K0.out.trans hk)
      have CB1 := Lib.hid (hk _ _ _ C0.out neN5 hgne)
      clear hw hk
      obtain ⟨b10, b11, b12, b13, b14, b15⟩ := CB1.out.six
      go_wp2_with fail
      go_must (refine (HEt.out _).mono ?_)
      rintro e w2 ⟨rfl, hb⟩
      have HW2 := Lib.hid (HW1.out.more hb)
      have HK2 := Lib.hid (HK1.out.trans (KeepB.of_below hb))
      have CB2 := Lib.hid (CB1.out.below hb)
      clear hb
      obtain ⟨b20, b21, b22, b23, b24, b25⟩ := CB2.out.six
      go_wp2_with fail
      go_must (refine (put_at [⟨#[62]⟩, zt, ⟨#[60, 47, 99, 111, 100, 101, 62, 60, 47, 112, 114, 101, 62]⟩] 3 rfl (by omega) _ rfl _ HW2.out ⟨(by decide), (by omega), (by decide), trivial⟩ _ (by first | rfl | simp)).mono ?_)
      rintro e w3 ⟨rfl, hw, hk⟩
      have HW3 := Lib.hid hw
      have HK3 := Lib.hid (HK2.out.trans hk)
      have CB3 := Lib.hid (hk _ _ _ CB2.out neN5 hgne)
      clear hw hk
      obtain ⟨b30, b31, b32, b33, b34, b35⟩ := CB3.out.six
      go_wp2_with fail
      go_end0
      exact ⟨rfl, by rw [HPN.out, HHc.out]; exact HW3.out.eq (by simp [hPre1, hGt, hPre2, HIf.out, HZt.out]), HK3.out⟩
    · have t0 : n.dest.toList.isEmpty = false := by rw [Go.ByteArray.toList_eq, List.isEmpty_eq_false_iff]; exact h0
      obtain ⟨y, hy⟩ : ∃ y : ByteArray, (⟨(cutI n.dest.data.toList).toArray⟩ : ByteArray) = y := ⟨_, rfl⟩
      have hyl : y.data.toList = cutI n.dest.data.toList := by rw [← hy]
      obtain ⟨u, hu⟩ : ∃ u : ByteArray, (⟨(escL y.data.toList).toArray⟩ : ByteArray) = u := ⟨_, rfl⟩
      have hys : y.size ≤ n.dest.size := by
        have := cutI_le n.dest.data.toList
        rw [← size_toList, hyl, ← size_toList]; exact this
      have hus := esc_size y u hu
      have HIf := Lib.hid (show infoH n.dest.data.toList = hPre1 ++ (hCls ++ u.data.toList ++ hQ) ++ hGt by unfold infoH; rw [if_neg h0, ← hu, hyl])
      have HEu := Lib.hid (fun w => escape_q y u w hu (by omega))
      clear hu h0
      rcases cutI_cases n.dest.data.toList with ⟨h3, h4⟩ | ⟨k, h3, h4, h5⟩
      · have hye : y = n.dest := bytes_ext (by rw [hyl, h4])
        have HAy := Lib.hid (fun w => any_v n.dest ⟨#[32, 9]⟩ (-1) w hds (by decide) (by decide) asc_blank h3)
        have HEu2 := Lib.hid (fun w => by have h9 := HEu.out w; rw [hye] at h9; exact h9 : ∀ w, Calls Tryz.prog 102 #[.string n.dest] w fun e w' => e = .returned (.string u) ∧ Below w.heap.size w w')
        clear h3 h4 hyl hy hye HEu
        go_enter Tryz.func62, Tryz.ntmps62
        go_wp2_with fail
        go_must (refine (put_at [⟨#[60, 112, 114, 101, 62, 60, 99, 111, 100, 101]⟩] 1 rfl (by omega) _ rfl _ H0.out ⟨(by decide), trivial⟩ _ (by first | rfl | simp)).mono ?_)
        rintro e w1 ⟨rfl, hw, hk⟩
        have HW1 := Lib.hid hw
        have HK1 := Lib.hid (K0.out.trans hk)
        have CB1 := Lib.hid (hk _ _ _ C0.out neN5 hgne)
        clear hw hk
        obtain ⟨b10, b11, b12, b13, b14, b15⟩ := CB1.out.six
        go_wp2_with fail
        go_must (refine (HAy.out _).mono ?_)
        rintro e w2 ⟨rfl, hb⟩
        have HW2 := Lib.hid (HW1.out.more hb)
        have HK2 := Lib.hid (HK1.out.trans (KeepB.of_below hb))
        have CB2 := Lib.hid (CB1.out.below hb)
        clear hb
        obtain ⟨b20, b21, b22, b23, b24, b25⟩ := CB2.out.six
        go_wp2_with fail
        go_must (refine (HEu2.out _).mono ?_)
        rintro e w3 ⟨rfl, hb⟩
        have HW3 := Lib.hid (HW2.out.more hb)
        have HK3 := Lib.hid (HK2.out.trans (KeepB.of_below hb))
        have CB3 := Lib.hid (CB2.out.below hb)
        clear hb
        obtain ⟨b30, b31, b32, b33, b34, b35⟩ := CB3.out.six
        go_wp2_with fail
        go_must (refine (put_at [⟨#[32, 99, 108, 97, 115, 115, 61, 34, 108, 97, 110, 103, 117, 97, 103, 101, 45]⟩, u, ⟨#[34]⟩] 3 rfl (by omega) _ rfl _ HW3.out ⟨(by decide), (by omega), (by decide), trivial⟩ _ (by first | rfl | simp)).mono ?_)
        rintro e w4 ⟨rfl, hw, hk⟩
        have HW4 := Lib.hid hw
        have HK4 := Lib.hid (HK3.out.trans hk)
        have CB4 := Lib.hid (hk _ _ _ CB3.out neN5 hgne)
        clear hw hk
        obtain ⟨b40, b41, b42, b43, b44, b45⟩ := CB4.out.six
        go_wp2_with fail
        go_must (refine (HEt.out _).mono ?_)
        rintro e w5 ⟨rfl, hb⟩
        have HW5 := Lib.hid (HW4.out.more hb)
        have HK5 := Lib.hid (HK4.out.trans (KeepB.of_below hb))
        have CB5 := Lib.hid (CB4.out.below hb)
        clear hb
        obtain ⟨b50, b51, b52, b53, b54, b55⟩ := CB5.out.six
        go_wp2_with fail
        go_must (refine (put_at [⟨#[62]⟩, zt, ⟨#[60, 47, 99, 111, 100, 101, 62, 60, 47, 112, 114, 101, 62]⟩] 3 rfl (by omega) _ rfl _ HW5.out ⟨(by decide), (by omega), (by decide), trivial⟩ _ (by first | rfl | simp)).mono ?_)
        rintro e w6 ⟨rfl, hw, hk⟩
        have HW6 := Lib.hid hw
        have HK6 := Lib.hid (HK5.out.trans hk)
        have CB6 := Lib.hid (hk _ _ _ CB5.out neN5 hgne)
        clear hw hk
        obtain ⟨b60, b61, b62, b63, b64, b65⟩ := CB6.out.six
        go_wp2_with fail
        go_end0
        exact ⟨rfl, by rw [HPN.out, HHc.out]; exact HW6.out.eq (by simp [hPre1, hGt, hPre2, hCls, hQ, HIf.out, HZt.out]), HK6.out⟩
      · have hye : n.dest.extract 0 k = y := bytes_ext (by rw [cut_list, hyl, h5])
        have hks : k ≤ n.dest.size := by rw [← size_toList]; exact h4
        have HAy := Lib.hid (fun w => any_v n.dest ⟨#[32, 9]⟩ (k : Int) w hds (by decide) (by decide) asc_blank h3)
        have HEu2 := HEu
        clear h3 h4 h5 hyl hy
        go_enter Tryz.func62, Tryz.ntmps62
        go_wp2_with fail
        go_must (refine (put_at [⟨#[60, 112, 114, 101, 62, 60, 99, 111, 100, 101]⟩] 1 rfl (by omega) _ rfl _ H0.out ⟨(by decide), trivial⟩ _ (by first | rfl | simp)).mono ?_)
        rintro e w1 ⟨rfl, hw, hk⟩
        have HW1 := Lib.hid hw
        have HK1 := Lib.hid (K0.out.trans hk)
        have CB1 := Lib.hid (hk _ _ _ C0.out neN5 hgne)
        clear hw hk
        obtain ⟨b10, b11, b12, b13, b14, b15⟩ := CB1.out.six
        go_wp2_with fail
        go_must (refine (HAy.out _).mono ?_)
        rintro e w2 ⟨rfl, hb⟩
        have HW2 := Lib.hid (HW1.out.more hb)
        have HK2 := Lib.hid (HK1.out.trans (KeepB.of_below hb))
        have CB2 := Lib.hid (CB1.out.below hb)
        clear hb
        obtain ⟨b20, b21, b22, b23, b24, b25⟩ := CB2.out.six
        go_wp2_with fail
        go_must (refine (HEu2.out _).mono ?_)
        rintro e w3 ⟨rfl, hb⟩
        have HW3 := Lib.hid (HW2.out.more hb)
        have HK3 := Lib.hid (HK2.out.trans (KeepB.of_below hb))
        have CB3 := Lib.hid (CB2.out.below hb)
        clear hb
        obtain ⟨b30, b31, b32, b33, b34, b35⟩ := CB3.out.six
        go_wp2_with fail
        go_must (refine (put_at [⟨#[32, 99, 108, 97, 115, 115, 61, 34, 108, 97, 110, 103, 117, 97, 103, 101, 45]⟩, u, ⟨#[34]⟩] 3 rfl (by omega) _ rfl _ HW3.out ⟨(by decide), (by omega), (by decide), trivial⟩ _ (by first | rfl | simp)).mono ?_)
        rintro e w4 ⟨rfl, hw, hk⟩
        have HW4 := Lib.hid hw
        have HK4 := Lib.hid (HK3.out.trans hk)
        have CB4 := Lib.hid (hk _ _ _ CB3.out neN5 hgne)
        clear hw hk
        obtain ⟨b40, b41, b42, b43, b44, b45⟩ := CB4.out.six
        go_wp2_with fail
        go_must (refine (HEt.out _).mono ?_)
        rintro e w5 ⟨rfl, hb⟩
        have HW5 := Lib.hid (HW4.out.more hb)
        have HK5 := Lib.hid (HK4.out.trans (KeepB.of_below hb))
        have CB5 := Lib.hid (CB4.out.below hb)
        clear hb
        obtain ⟨b50, b51, b52, b53, b54, b55⟩ := CB5.out.six
        go_wp2_with fail
        go_must (refine (put_at [⟨#[62]⟩, zt, ⟨#[60, 47, 99, 111, 100, 101, 62, 60, 47, 112, 114, 101, 62]⟩] 3 rfl (by omega) _ rfl _ HW5.out ⟨(by decide), (by omega), (by decide), trivial⟩ _ (by first | rfl | simp)).mono ?_)
        rintro e w6 ⟨rfl, hw, hk⟩
        have HW6 := Lib.hid hw
        have HK6 := Lib.hid (HK5.out.trans hk)
        have CB6 := Lib.hid (hk _ _ _ CB5.out neN5 hgne)
        clear hw hk
        obtain ⟨b60, b61, b62, b63, b64, b65⟩ := CB6.out.six
        go_wp2_with fail
        go_end0
        exact ⟨rfl, by rw [HPN.out, HHc.out]; exact HW6.out.eq (by simp [hPre1, hGt, hPre2, hCls, hQ, HIf.out, HZt.out]), HK6.out⟩
  · have HPN := Lib.hid (blk_4 (t := n.text.data.toList) (d := n.dest.data.toList) (ids := ids) (ks := n.kids) (bk := blkL 0 n.kids ids) hx)
    have t1 : (n.kind == 1) = false := by simp; omega
    have t2 : (n.kind == 2) = false := by simp; omega
    have t3 : (n.kind == 3) = false := by simp; omega
    have t4 : (n.kind == 4) = true := by simp; omega
    have t5 : (n.kind == 5) = false := by simp; omega
    have t7 : (n.kind == 7) = false := by simp; omega
    have t8 : (n.kind == 8) = false := by simp; omega
    have HHc := Lib.hid (hc_deep (n := n) (by omega))
    have HE4 := Lib.hid (show nodesErr n.kids 4 = 0 by rw [← hx]; exact HE.out)
    clear hx
    have hdl : (headsL n.kids).length ≤ ids.length := by have := HId.out; rw [HHc.out] at this; exact this
    clear hlv
    go_enter Tryz.func62, Tryz.ntmps62
    go_wp2_with fail
    go_must (refine (put_at [⟨#[60, 98, 108, 111, 99, 107, 113, 117, 111, 116, 101, 62, 10]⟩] 1 rfl (by omega) _ rfl _ H0.out ⟨(by decide), trivial⟩ _ (by first | rfl | simp)).mono ?_)
    rintro e w1 ⟨rfl, hw, hk⟩
    have HW1 := Lib.hid hw
    have HK1 := Lib.hid (K0.out.trans hk)
    have CB1 := Lib.hid (hk _ _ _ C0.out neN5 hgne)
    clear hw hk
    obtain ⟨b10, b11, b12, b13, b14, b15⟩ := CB1.out.six
    go_wp2_with fail
    go_must (refine (HB.out n.kids (.slice A n.kids.length c) _ ids _ 4 HN.out HKd.out hwk HE4.out (Or.inr (Or.inl rfl)) HLv.out hdl HIb.out HW1.out).mono ?_)
    rintro e w2 ⟨rfl, hw, hk⟩
    have HW2 := Lib.hid hw
    have HK2 := Lib.hid (HK1.out.trans hk)
    have CB2 := Lib.hid (hk _ _ _ CB1.out neN5 hgne)
    clear hw hk
    obtain ⟨b20, b21, b22, b23, b24, b25⟩ := CB2.out.six
    go_wp2_with fail
    go_must (refine (put_at [⟨#[60, 47, 98, 108, 111, 99, 107, 113, 117, 111, 116, 101, 62]⟩] 1 rfl (by omega) _ rfl _ HW2.out ⟨(by decide), trivial⟩ _ (by first | rfl | simp)).mono ?_)
    rintro e w3 ⟨rfl, hw, hk⟩
    have HW3 := Lib.hid hw
    have HK3 := Lib.hid (HK2.out.trans hk)
    have CB3 := Lib.hid (hk _ _ _ CB2.out neN5 hgne)
    clear hw hk
    obtain ⟨b30, b31, b32, b33, b34, b35⟩ := CB3.out.six
    go_wp2_with fail
    go_end0
    exact ⟨rfl, by rw [HPN.out, HHc.out]; exact HW3.out.eq (by simp [hBq1, hBq2]), HK3.out⟩
  · have HPN := Lib.hid (blk_5 (t := n.text.data.toList) (d := n.dest.data.toList) (ids := ids) (ks := n.kids) (bk := blkL 0 n.kids ids) hx)
    have t1 : (n.kind == 1) = false := by simp; omega
    have t2 : (n.kind == 2) = false := by simp; omega
    have t3 : (n.kind == 3) = false := by simp; omega
    have t4 : (n.kind == 4) = false := by simp; omega
    have t5 : (n.kind == 5) = true := by simp; omega
    have t7 : (n.kind == 7) = false := by simp; omega
    have t8 : (n.kind == 8) = false := by simp; omega
    have HHc := Lib.hid (hc_deep (n := n) (by omega))
    have HE5 := Lib.hid (show nodesErr n.kids 5 = 0 by rw [← hx]; exact HE.out)
    clear hx
    have hdl : (headsL n.kids).length ≤ ids.length := by have := HId.out; rw [HHc.out] at this; exact this
    clear hlv
    go_enter Tryz.func62, Tryz.ntmps62
    go_wp2_with fail
    go_must (refine (list_q HB.out n A c _ HN.out HKd.out hwk HE5.out HLv2.out HLv.out hdl HIb.out HTab.out H0.out).mono ?_)
    rintro e w1 ⟨rfl, hw, hk⟩
    have HW1 := Lib.hid hw
    have HK1 := Lib.hid (K0.out.trans hk)
    have CB1 := Lib.hid (hk _ _ _ C0.out neN5 hgne)
    clear hw hk
    obtain ⟨b10, b11, b12, b13, b14, b15⟩ := CB1.out.six
    go_wp2_with fail
    go_end0
    exact ⟨rfl, by rw [HPN.out, HHc.out]; exact HW1.out.eq (by simp), HK1.out⟩
  · have HPN := Lib.hid (blk_7 (t := n.text.data.toList) (d := n.dest.data.toList) (ids := ids) (ks := n.kids) (bk := blkL 0 n.kids ids) hx)
    have t1 : (n.kind == 1) = false := by simp; omega
    have t2 : (n.kind == 2) = false := by simp; omega
    have t3 : (n.kind == 3) = false := by simp; omega
    have t4 : (n.kind == 4) = false := by simp; omega
    have t5 : (n.kind == 5) = false := by simp; omega
    have t7 : (n.kind == 7) = true := by simp; omega
    have t8 : (n.kind == 8) = false := by simp; omega
    have HHc := Lib.hid (hc_none (no_kids HE.out (Or.inr hx)) (by omega))
    clear hx
    clear hlv
    go_enter Tryz.func62, Tryz.ntmps62
    go_wp2_with fail
    go_must (refine (put_at [⟨#[60, 104, 114, 62]⟩] 1 rfl (by omega) _ rfl _ H0.out ⟨(by decide), trivial⟩ _ (by first | rfl | simp)).mono ?_)
    rintro e w1 ⟨rfl, hw, hk⟩
    have HW1 := Lib.hid hw
    have HK1 := Lib.hid (K0.out.trans hk)
    have CB1 := Lib.hid (hk _ _ _ C0.out neN5 hgne)
    clear hw hk
    obtain ⟨b10, b11, b12, b13, b14, b15⟩ := CB1.out.six
    go_wp2_with fail
    go_end0
    exact ⟨rfl, by rw [HPN.out, HHc.out]; exact HW1.out.eq (by simp [hHr]), HK1.out⟩
  · have HPN := Lib.hid (blk_8 (t := n.text.data.toList) (d := n.dest.data.toList) (ids := ids) (ks := n.kids) (bk := blkL 0 n.kids ids) hx)
    have t1 : (n.kind == 1) = false := by simp; omega
    have t2 : (n.kind == 2) = false := by simp; omega
    have t3 : (n.kind == 3) = false := by simp; omega
    have t4 : (n.kind == 4) = false := by simp; omega
    have t5 : (n.kind == 5) = false := by simp; omega
    have t7 : (n.kind == 7) = false := by simp; omega
    have t8 : (n.kind == 8) = true := by simp; omega
    have HHc := Lib.hid (hc_table HE.out hx)
    have HE8 := Lib.hid (show nodesErr n.kids 8 = 0 by rw [← hx]; exact HE.out)
    clear hx
    clear hlv
    go_enter Tryz.func62, Tryz.ntmps62
    go_wp2_with fail
    go_must (refine (table_q n A c _ HKd.out hwk HE8.out H0.out).mono ?_)
    rintro e w1 ⟨rfl, hw, hk⟩
    have HW1 := Lib.hid hw
    have HK1 := Lib.hid (K0.out.trans hk)
    have CB1 := Lib.hid (hk _ _ _ C0.out neN5 hgne)
    clear hw hk
    obtain ⟨b10, b11, b12, b13, b14, b15⟩ := CB1.out.six
    go_wp2_with fail
    go_end0
    exact ⟨rfl, by rw [HPN.out, HHc.out]; exact HW1.out.eq (by simp), HK1.out⟩

set_option maxRecDepth 100000 in
set_option maxHeartbeats 8000000 in
theorem blocks_any (w0 : World) (b : Nat) (htab : TabOk w0) (N : Nat) : BlksOk w0 b N := by
  induction N with
  | zero =>
    intro l v full ids w p hN
    cases l <;> simp at hN
  | succ N ih =>
    intro l v full ids w p hN h ht he hp hll hid hib hW0
    obtain ⟨An, c, bl, o, kv, rfl, hlc, hc, hA, hcell, hkid⟩ := h.inv
    unfold maxLen at hc
    have HCell := Lib.hid hcell; clear hcell
    have HKid := Lib.hid hkid; clear hkid
    have HN := Lib.hid hN; clear hN
    have HI := Lib.hid ih; clear ih
    have H00 := Lib.hid hW0; clear hW0
    have HE := Lib.hid he
    have HP := Lib.hid hp
    have HLv := Lib.hid hll
    have HId := Lib.hid hid
    have HIb := Lib.hid hib
    have HTab := Lib.hid htab
    clear h he hp hll hid hib htab
    go_enter Tryz.func34, Tryz.ntmps34
    go_wp2_with fail
    go_loopw [8] (fun t wr => ∃ (k : Nat), k ≤ l.length ∧ t = .int .i64 k ∧ Hid (HW w0 b (full ++ blkL 0 (l.take k) ids) (ids.drop (headsL (l.take k)).length) wr) ∧ Hid (KeepB b w wr)) (fun t _ => l.length - (intOf t).toNat)
    case atStart => exact ⟨0, Nat.zero_le _, rfl, by rw [List.take_zero, blkL_nil, List.append_nil, headsL_nil]; exact H00.out, KeepB.refl _ _⟩
    case round =>
      obtain ⟨k, hk, rfl, hW, hKB⟩ := hrel
      by_cases hlt : k < l.length
      · have hA' := hA (by rintro rfl; simp at hlt)
        subst hA'
        obtain ⟨n, hn⟩ : ∃ n, l[k]? = some n := ⟨_, List.getElem?_eq_getElem hlt⟩
        obtain ⟨p0, p1, p2, p3, p4, p5, _, _, _, _, _⟩ := (HCell.out k n hn).keep hW.out.keeps
        have bb := World.block_lt_of_cell? _ _ p5
        simp only at bb
        have hkid := HKid.out k n hn
        obtain ⟨A3, c3, b3, o3, k3, e3, _, _, _, _, _⟩ := hkid.inv
        rw [e3] at hkid p5
        have HKd := Lib.hid hkid; clear hkid
        have HSz := Lib.hid (size_at HN.out hn)
        have hwt := weight_take hn
        have hwk : weight n.kids ≤ 1048576 := by omega
        have hts : n.text.size ≤ 1048576 := by omega
        have hds : n.dest.size ≤ 1048576 := by omega
        obtain ⟨e1, e2⟩ := nodesErr_mem HE.out hn
        obtain ⟨l1, _, l3⟩ := HLv.out.at_ hn
        have hct := hc_take hn
        have hcl := heads_take_le l (k + 1)
        have hdl : hcN n ≤ (ids.drop (headsL (l.take k)).length).length := by rw [List.length_drop]; have := HId.out; omega
        have HDb := Lib.hid (show ∀ y ∈ ids.drop (headsL (l.take k)).length, y.length ≤ 1048700 from fun y hy => HIb.out y (List.mem_of_mem_drop hy))
        have HDr := Lib.hid (show (ids.drop (headsL (l.take k)).length).drop (hcN n) = ids.drop (headsL (l.take (k + 1))).length by rw [List.drop_drop, hct])
        have hkd := blk_kind e1 HP.out
        have HTk := Lib.hid (show blkL 0 (l.take (k + 1)) ids = blkL 0 (l.take k) ids ++ (blkC n.kind n.level n.text.data.toList n.dest.data.toList (ids.drop (headsL (l.take k)).length) n.kids (blkL 0 n.kids (ids.drop (headsL (l.take k)).length)) ++ hNl) by rw [blkL_take ids hn]; unfold blk1 blkN; rw [if_neg (by omega), if_neg (by omega)])
        have H0 := Lib.hid (hW.out.alloc (nodeBox n (.slice A3 n.kids.length c3)))
        have K0 := Lib.hid (hKB.out.trans (KeepB.alloc b wr (nodeBox n (.slice A3 n.kids.length c3))))
        have C0 := Lib.hid (show CB (wr.alloc (nodeBox n (.slice A3 n.kids.length c3))) wr.heap.size 45 (nodeC n (.slice A3 n.kids.length c3)) from CB.new _ _ _)
        have hgne : wr.heap.size ≠ b := by have := hW.out.lt; omega
        have HBk := Lib.hid (fun full w h => block_q (full := full) HI.out n A3 c3 p w HSz.out HKd.out hts hds hwk e1 HP.out e2 l1 l3 hdl HDb.out HTab.out h)
        clear hn hA e3 hwt e1 e2 l1 l3 hct hcl hkd
        go_wp2_with fail
        go_must (refine (HBk.out _ _ H0.out).mono ?_)
        rintro e w1 ⟨rfl, hw, hk⟩
        have HW1 := Lib.hid hw
        have HK1 := Lib.hid (K0.out.trans hk)
        have CB1 := Lib.hid (hk _ _ _ C0.out neN5 hgne)
        clear hw hk
        obtain ⟨b10, b11, b12, b13, b14, b15⟩ := CB1.out.six
        go_wp2_with fail
        go_must (refine (put_at [⟨#[10]⟩] 1 rfl (by omega) _ rfl _ HW1.out ⟨(by decide), trivial⟩ _ (by first | rfl | simp)).mono ?_)
        rintro e w2 ⟨rfl, hw, hk⟩
        have HW2 := Lib.hid hw
        have HK2 := Lib.hid (HK1.out.trans hk)
        have CB2 := Lib.hid (hk _ _ _ CB1.out neN5 hgne)
        clear hw hk
        obtain ⟨b20, b21, b22, b23, b24, b25⟩ := CB2.out.six
        go_wp2_with fail
        go_roundw
        case rel => exact ⟨k + 1, by omega, by go_num, by show HW _ _ _ _ _; rw [← HDr.out]; exact HW2.out.eq (by rw [HTk.out]; simp [hNl]), HK2.out⟩
        case measure => simp [intOf]; omega
      · have hke : k = l.length := by omega
        subst hke
        rw [List.take_length] at hW
        go_wp2_with fail
        go_end0
        exact ⟨rfl, hW.out, hKB.out⟩

end Go.Proofs.YtikijmjcmpkkdaaGreatDoor
