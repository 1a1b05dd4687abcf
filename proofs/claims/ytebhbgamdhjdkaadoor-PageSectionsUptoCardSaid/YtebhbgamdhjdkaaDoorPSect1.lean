/-
  PageSections is proved, in its second form: for all contents and ids whose reading stays below the given bound, Section is the content's part from the heading of that id on, up to the next heading of the same level or a higher one.
-/
import Derived.Test.YtebhbgamdhjdkaaDoorSect
import Derived.Test.YtebhbgamdhjdkaaDoorLaw
import Derived.Test.YtebhbgamdhjdkaaDoorCards
import Derived.Test.YtebhbgamdhjdkaaDoorTie
import Derived.OpenShut
import Derived.Deep.DeepHandedRow
import Derived.Lib.LaidTab
import Derived.Lay
namespace Go.Proofs.YtebhbgamdhjdkaaDoor
open Go.RowKit Go.ChangeShapes Go.WideShapes Go.ChangeAt Go.Deep

theorem maxLen_at {W : World} (h : W.ShapedOpen Tryd.prog) : ∃ m, W.cell? ⟨0, 0, none⟩ = some (.int .i64 m) := (Tryd.laysM146).s1_3 W h

/-- the three states of the law's own search: none found; the heading found; the next one found -/
def SRel (id : ByteArray) (l : List Entry) (k : Nat) (fr tz : ByteArray) (lv : Int) : Prop :=
  (NoId id l k ∧ fr = ⟨#[]⟩ ∧ tz = ⟨#[]⟩ ∧ lv = 0) ∨
  (∃ (i : Nat) (x : Entry), NoId id l i ∧ l[i]? = some x ∧ isId id x = true ∧ i < k ∧ fr = tagS x ∧ lv = x.level ∧ ((tz = ⟨#[]⟩ ∧ Deeper x.level l (i + 1) k) ∨
    ∃ (m : Nat) (y : Entry), i + 1 ≤ m ∧ Deeper x.level l (i + 1) m ∧ l[m]? = some y ∧ y.level ≤ x.level ∧ m < k ∧ tz = tagS y))

theorem tag_pos (e : Entry) : 0 < (tagS e).size := by
  have h3 : (⟨#[60, 104]⟩ : ByteArray).size = 2 := rfl
  unfold tagS
  simp only [ByteArray.size_append]
  omega
theorem tag_ne (e : Entry) : (tagS e).toList.isEmpty = false := by
  have h := tag_pos e
  rw [Go.ByteArray.toList_eq]
  cases hl : (tagS e).data.toList with
  | nil => exact absurd (by rw [← size_toList, hl]; rfl) (Nat.pos_iff_ne_zero.1 h)
  | cons a r => rfl
/-- what the search ends with -/
theorem SRel.fin {id h : ByteArray} {l : List Entry} {fr tz : ByteArray} {lv : Int} (hr : SRel id l l.length fr tz lv) :
    (fr = ⟨#[]⟩ ∧ secO h l id = none) ∨ (∃ x, fr = tagS x ∧ (idxS h fr = -1 ∧ secO h l id = none ∨ ∃ f : Nat, idxS h fr = (f : Int) ∧ f + fr.size ≤ h.size ∧
      ((tz = ⟨#[]⟩ ∧ secO h l id = some (h.extract f h.size)) ∨ (∃ y, tz = tagS y ∧ secO h l id = if idxS (h.extract (f + fr.size) h.size) tz < 0 then none else some (h.extract f (f + fr.size + (idxS (h.extract (f + fr.size) h.size) tz).toNat)))))) := by
  rcases hr with ⟨h1, h2, _, _⟩ | ⟨i, x, h1, h2, h3, h4, h5, h6, h7⟩
  · exact Or.inl ⟨h2, secO_none h1⟩
  · refine Or.inr ⟨x, h5, ?_⟩
    subst h5
    rw [secO_at h1 h2 h3]
    rcases idxS_cases h (tagS x) with hi | ⟨f, hi, hf⟩
    · exact Or.inl ⟨hi, secAt_neg hi⟩
    · refine Or.inr ⟨f, hi, hf, ?_⟩
      rcases h7 with ⟨h8, h9⟩ | ⟨m, y, h8, h9, h10, h11, _, h12⟩
      · exact Or.inl ⟨h8, secAt_all hi h9⟩
      · exact Or.inr ⟨y, h12, by rw [h12]; exact secAt_to hi h9 h8 h10 h11⟩

theorem told_q (n : Int) (w : World) (h : I64 n) (ht : TabOk w) : Calls Tryd.prog 16 #[.int .i64 n] w fun e w' => e = .returned (.string ⟨(Lib.itoa n).toArray⟩) ∧ Below w.heap.size w w' := by
  have HT := Lib.hid ht; clear ht
  have HK := Lib.hid h; clear h
  obtain ⟨z, hz⟩ : ∃ z : ByteArray, (⟨(Lib.itoa n).toArray⟩ : ByteArray) = z := ⟨_, rfl⟩
  rw [hz]
  have HZ := Lib.hid hz; clear hz
  go_enter Tryd.func16, Tryd.ntmps16
  go_wp2_with (go_at_call 41; go_must (refine (itoa_any _ _ HK.out HT.out).mono ?_); go_must (rw [HZ.out]); go_must (rintro e1 w1 ⟨rfl, hb1⟩))
  go_ret
  exact ⟨rfl, hb1⟩

theorem emptyL {s : ByteArray} (h : s = ⟨#[]⟩) : s.toList.isEmpty = true := by rw [h, Go.ByteArray.toList_eq]; rfl

set_option maxRecDepth 100000 in
set_option maxHeartbeats 4000000 in
theorem pageSections_walk (html su pl : ByteArray) (l : List Entry) (A : Option Addr) (n0 c : Nat) (wd : Int) (A1 : Option Addr) (n1 c1 : Nat) (A2 : Option Addr) (n2 c2 : Nat) (id : ByteArray) (w : World) (hsh : w.ShapedOpen Tryd.checked.prog) (ht : TabOk w) (hE : EntriesAt w (.slice A n0 c) l)
    (hs : html.size ≤ 1073741824) (hids : ∀ e ∈ l, e.id.size ≤ 1048576) :
    Calls Tryd.prog 5 #[.agg (boxS html su pl A n0 c wd A1 n1 c1 A2 n2 c2), .string id] w fun e w' => e = .returned (.bool true) ∧ Below w.heap.size w w' := by
  have HM := Lib.hid (show MaxCell w from maxLen_at hsh); clear hsh
  have HTab := Lib.hid ht; clear ht
  have HE := Lib.hid hE
  have HIds := Lib.hid hids; clear hids
  obtain ⟨A', c', b, o, hv, hlc, hc, hA, hcell⟩ := hE
  cases hv
  unfold maxLen at hc
  have HCell := Lib.hid hcell; clear hcell
  obtain ⟨r, hr⟩ : ∃ r, secR (secO html l id) = r := ⟨_, rfl⟩
  have HR := Lib.hid hr; clear hr
  unfold boxS
  go_enter Tryd.func5, Tryd.ntmps5
  go_wp2_with fail
  obtain ⟨W0, hW0⟩ : ∃ W0, w.alloc (.cells #[.string html, .string su, .string pl, .slice A l.length c, .int .i64 wd, .slice A1 n1 c1, .slice A2 n2 c2] 32) = W0 := ⟨_, rfl⟩
  have HB0 := Lib.hid (show Below w.heap.size w W0 by rw [← hW0]; exact (Below.refl _ _).alloc (Nat.le_refl _) _)
  have HBox := Lib.hid (show CB W0 w.heap.size 32 (boxS html su pl A l.length c wd A1 n1 c1 A2 n2 c2) by rw [← hW0]; exact CB.new w _ _)
  rw [hW0]
  clear hW0
  have hsec := section_q html su pl l A l.length c wd A1 n1 c1 A2 n2 c2 id r W0 (HM.out.keep (Keeps.of_below HB0.out)) (HTab.out.keep HB0.out) (HE.out.keep (Keeps.of_below HB0.out)) hs HIds.out HR.out
  unfold boxS at hsec
  refine hsec.mono ?_
  clear hsec
  rintro e W1 ⟨rfl, hb1⟩
  have HB1 := Lib.hid (HB0.out.trans (hb1.mono HB0.out.size))
  have HBox1 := Lib.hid (HBox.out.below hb1)
  clear hb1
  obtain ⟨r1, r2⟩ := r
  have hw1 : w.heap.size < W1.heap.size := HBox1.out.lt
  have bx3 := HBox1.out.c 3
  have bsh := HBox1.out.sh
  simp only [boxS] at bx3 bsh
  obtain ⟨nb, hnb⟩ : ∃ nb, w.heap.size = nb := ⟨_, rfl⟩
  rw [hnb] at HBox1 bx3 bsh hw1
  have HNb := Lib.hid hnb
  rw [hnb]
  clear hnb
  go_wp2_with fail
  go_loopw [7, 8, 9, 25] (fun s7 s8 s9 t wr => ∃ (k : Nat) (fr tz : ByteArray) (lv : Int), k ≤ l.length ∧ t = .int .i64 k ∧ s7 = .string fr ∧ s8 = .string tz ∧ s9 = .int .i64 lv ∧ Hid (SRel id l k fr tz lv) ∧ Hid (Below W1.heap.size W1 wr)) (fun _ _ _ t _ => l.length - (intOf t).toNat)
  case atStart => exact ⟨0, ⟨#[]⟩, ⟨#[]⟩, 0, Nat.zero_le _, rfl, rfl, rfl, rfl, Or.inl ⟨NoId.zero _ _, rfl, rfl, rfl⟩, Below.refl _ _⟩
  case round =>
    clear bx3 bsh
    obtain ⟨k, fr, tz, lv, hk, rfl, rfl, rfl, rfl, hrel, hbel⟩ := hrel
    have HBx := Lib.hid (HBox1.out.below hbel.out)
    by_cases hlt : k < l.length
    · have hA' := hA (by rintro rfl; simp at hlt)
      subst hA'
      obtain ⟨x, hx⟩ : ∃ x, l[k]? = some x := ⟨_, List.getElem?_eq_getElem hlt⟩
      obtain ⟨p0, p1, p2, hk0, _, _⟩ := (HCell.out k x hx).keep (Keeps.of_below (HB1.out.trans (hbel.out.mono HB1.out.size)))
      have bb := World.block_lt_of_cell? _ _ p0
      simp only at bb
      have hidx := HIds.out x (List.mem_of_getElem? hx)
      have hwr := hbel.out.size
      have HK0 := Lib.hid hk0
      obtain ⟨z, hz⟩ : ∃ z : ByteArray, (⟨(Lib.itoa x.level).toArray⟩ : ByteArray) = z := ⟨_, rfl⟩
      have hzs : z.size ≤ 21 := by rw [← hz]; exact itoa_len _ hk0
      have HZ := Lib.hid hz
      obtain ⟨T, hT⟩ : ∃ T, tagS x = T := ⟨_, rfl⟩
      have HT := Lib.hid (show (⟨#[60, 104]⟩ : ByteArray) ++ z ++ (⟨#[32, 105, 100, 61, 34]⟩ : ByteArray) ++ x.id ++ (⟨#[34, 62]⟩ : ByteArray) = T by rw [← hz]; exact hT)
      have HTx := Lib.hid hT
      clear hz hT hk0
      go_wp2_with fail
      obtain ⟨W5, hW5⟩ : ∃ W5, wr.alloc (.cells #[.int .i64 x.level, .string x.id, .string x.text] 46) = W5 := ⟨_, rfl⟩
      obtain ⟨ne, hne⟩ : ∃ ne, wr.heap.size = ne := ⟨_, rfl⟩
      have HB5 := Lib.hid (show Below W1.heap.size W1 W5 by rw [← hW5]; exact hbel.out.alloc hwr _)
      have HEn5 := Lib.hid (show CB W5 ne 46 (entC x) by rw [← hW5, ← hne]; exact CB.new wr _ _)
      have HTab5 := Lib.hid (HTab.out.keep (HB1.out.trans (HB5.out.mono HB1.out.size)))
      rw [hW5, hne]
      clear hW5 p0 p1 p2 bb
      have hn5 : ne < W5.heap.size := HEn5.out.lt
      have en0 := HEn5.out.c 0
      have en1 := HEn5.out.c 1
      have esh := HEn5.out.sh
      simp only [entC] at en0 en1 esh
      go_cut [7, 8, 9, 12, 25] from 25 to 64 (fun s7 s8 s9 s12 s25 wx => s7 = .string fr ∧ s8 = .string tz ∧ s9 = .int .i64 lv ∧ s12 = .string T ∧ s25 = .int .i64 k ∧ Hid (Below W1.heap.size W1 wx) ∧ Hid (CB wx ne 46 (entC x)))
      case first =>
        go_region_with (go_at_call 16; go_must (refine (told_q _ _ HK0.out HTab5.out.drew).mono ?_); go_must (rw [HZ.out]); go_must (rintro e1 w6 ⟨rfl, hb6⟩); have HEn6 := Lib.hid (CB.below (w := W5.drew) HEn5.out hb6); have c0 := HEn6.out.c 0; have c1 := HEn6.out.c 1; have csh := HEn6.out.sh; simp only [entC] at c0 c1 csh; have HB6 := Lib.hid (HB5.out.drew.trans (hb6.mono HB5.out.size)); clear hb6)
        all_goals
          (go_wp2_with fail
           go_meet
           exact ⟨rfl, rfl, rfl, (by rw [← HT.out]), rfl, HB6.out, HEn6.out⟩)
      case rest =>
        obtain ⟨rfl, rfl, rfl, rfl, rfl, HB7, HEn7⟩ := hcut
        clear en0 en1 esh hn5
        have hn7 : ne < wc.heap.size := HEn7.out.lt
        have en0 := HEn7.out.c 0
        have en1 := HEn7.out.c 1
        have esh := HEn7.out.sh
        simp only [entC] at en0 en1 esh
        rcases hrel.out with ⟨h1, h2, h3, h4⟩ | ⟨i, y, h1, h2, h3, h4, h5, h6, h7⟩
        · have ef : fr.toList.isEmpty = true := emptyL h2
          subst h2 h3 h4
          cases hii : isId id x
          · have t1 : (x.id.toList == id.toList) = false := hii
            have HRel := Lib.hid (show SRel id l (k + 1) ⟨#[]⟩ ⟨#[]⟩ 0 from Or.inl ⟨h1.succ hx hii, rfl, rfl, rfl⟩)
            clear hx hii h1 hrel
            go_wp2_with fail
            go_roundw
            case rel => exact ⟨k + 1, _, _, _, by omega, by go_num, rfl, rfl, rfl, HRel.out, HB7.out⟩
            case measure => simp [intOf]; omega
          · have t1 : (x.id.toList == id.toList) = true := hii
            have HRel := Lib.hid (show SRel id l (k + 1) T ⟨#[]⟩ x.level from Or.inr ⟨k, x, h1, hx, hii, by omega, HTx.out.symm, rfl, Or.inl ⟨rfl, Deeper.start _ _ _⟩⟩)
            clear hx hii h1 hrel
            go_wp2_with fail
            go_quiet (fail)
            go_wp2_with fail
            go_roundw
            case rel => exact ⟨k + 1, _, _, _, by omega, by go_num, rfl, rfl, rfl, HRel.out, Below.drewN' HB7.out _⟩
            case measure => simp [intOf]; omega
        · have ef : fr.toList.isEmpty = false := by rw [h5]; exact tag_ne y
          rcases h7 with ⟨h8, h9⟩ | ⟨m, y2, h8, h9, h10, h11, h12, h13⟩
          · have et : tz.toList.isEmpty = true := emptyL h8
            by_cases hle : x.level ≤ lv
            · have HRel := Lib.hid (show SRel id l (k + 1) fr T lv from Or.inr ⟨i, y, h1, h2, h3, by omega, h5, h6, Or.inr ⟨k, x, by omega, h9, hx, by omega, by omega, HTx.out.symm⟩⟩)
              clear hx h1 h2 h3 h5 h6 h8 h9 hrel
              go_wp2_with fail
              go_roundw
              case rel => exact ⟨k + 1, _, _, _, by omega, by go_num, rfl, rfl, rfl, HRel.out, HB7.out⟩
              case measure => simp [intOf]; omega
            · have HRel := Lib.hid (show SRel id l (k + 1) fr tz lv from Or.inr ⟨i, y, h1, h2, h3, by omega, h5, h6, Or.inl ⟨h8, h9.succ hx (by omega)⟩⟩)
              clear hx h1 h2 h3 h5 h6 h8 h9 hrel
              go_wp2_with fail
              go_roundw
              case rel => exact ⟨k + 1, _, _, _, by omega, by go_num, rfl, rfl, rfl, HRel.out, HB7.out⟩
              case measure => simp [intOf]; omega
          · have et : tz.toList.isEmpty = false := by rw [h13]; exact tag_ne y2
            have HRel := Lib.hid (show SRel id l (k + 1) fr tz lv from Or.inr ⟨i, y, h1, h2, h3, by omega, h5, h6, Or.inr ⟨m, y2, h8, h9, h10, h11, by omega, h13⟩⟩)
            clear hx h1 h2 h3 h5 h6 h8 h9 h10 h11 h13 hrel
            go_wp2_with fail
            go_roundw
            case rel => exact ⟨k + 1, _, _, _, by omega, by go_num, rfl, rfl, rfl, HRel.out, HB7.out⟩
            case measure => simp [intOf]; omega
    · have hkl : k = l.length := by omega
      have hfin := SRel.fin (h := html) (hkl ▸ hrel.out)
      clear hrel hkl
      have HMr := Lib.hid (HM.out.keep (Keeps.of_below (HB1.out.trans (hbel.out.mono HB1.out.size))))
      have HBe := Lib.hid (HB1.out.trans (hbel.out.mono HB1.out.size))
      have bx0 := HBx.out.c 0
      have bsh := HBx.out.sh
      have hnr : nb < wr.heap.size := HBx.out.lt
      simp only [boxS] at bx0 bsh
      rcases hfin with ⟨h1, h2⟩ | ⟨x, h1, h3⟩
      · have HRR := Lib.hid (show (r1, r2) = ((⟨#[]⟩ : ByteArray), false) by rw [← HR.out, h2]; rfl)
        obtain ⟨e1, e2⟩ := Prod.mk.inj HRR.out
        subst e1 e2 h1
        obtain ⟨v, hv⟩ : ∃ v, idxS html (⟨#[]⟩ : ByteArray) = v := ⟨_, rfl⟩
        have HV := Lib.hid hv; clear hv h2
        go_wp2_with (go_at_call 17; go_must (refine (index_q2 html _ v _ HMr.out hs HV.out).mono ?_); rintro e1 w3 ⟨rfl, rfl⟩)
        go_ret
        exact ⟨rfl, HBe.out⟩
      · have ef : fr.toList.isEmpty = false := by rw [h1]; exact tag_ne x
        rcases h3 with ⟨h4, h5⟩ | ⟨f, h4, h5, h6⟩
        · have HV := Lib.hid h4
          have HRR := Lib.hid (show (r1, r2) = ((⟨#[]⟩ : ByteArray), false) by rw [← HR.out, h5]; rfl)
          obtain ⟨e1, e2⟩ := Prod.mk.inj HRR.out
          subst e1 e2
          clear h1 h4 h5
          go_wp2_with (go_at_call 17; go_must (refine (index_q2 html _ (-1) _ HMr.out hs HV.out).mono ?_); rintro e1 w3 ⟨rfl, rfl⟩)
          go_ret
          exact ⟨rfl, HBe.out⟩
        · have HV := Lib.hid h4
          have ff : (f : Int) ≤ (html.size : Int) := by omega
          have hfs : f + fr.size ≤ html.size := h5
          rcases h6 with ⟨h7, h8⟩ | ⟨y, h7, h8⟩
          · have et : tz.toList.isEmpty = true := emptyL h7
            have HRR := Lib.hid (show (r1, r2) = (html.extract f html.size, true) by rw [← HR.out, h8]; rfl)
            obtain ⟨e1, e2⟩ := Prod.mk.inj HRR.out
            obtain ⟨rs, hrs⟩ : ∃ rs, html.extract f html.size = rs := ⟨_, rfl⟩
            have HRs := Lib.hid hrs
            rw [hrs] at e1
            subst e1 e2
            have e5 : (r1.toList == r1.toList) = true := by simp
            clear h1 h4 h5 h7 h8 HRs
            go_wp2_with (go_at_call 17; go_must (refine (index_q2 html _ (f : Int) _ HMr.out hs HV.out).mono ?_); rintro e1 w3 ⟨rfl, rfl⟩)
            go_ret
            exact ⟨rfl, HBe.out⟩
          · have et : tz.toList.isEmpty = false := by rw [h7]; exact tag_ne y
            obtain ⟨hf, hhf⟩ : ∃ hf, html.extract f html.size = hf := ⟨_, rfl⟩
            have HHf := Lib.hid hhf
            have hfz : hf.size = html.size - f := by rw [← hhf, ByteArray.size_extract]; omega
            obtain ⟨rs, hrs⟩ : ∃ rs, html.extract (f + fr.size) html.size = rs := ⟨_, rfl⟩
            have hrsz : rs.size ≤ html.size := by rw [← hrs, ByteArray.size_extract]; omega
            have hrz : rs.size = html.size - (f + fr.size) := by rw [← hrs, ByteArray.size_extract]; omega
            have hrs2 : hf.extract fr.size (html.size - f) = rs := (by
              rw [← hfz, ← hhf, ← hrs]
              apply bytes_ext
              simp only [Lib.extract_data, ByteArray.size_extract]
              rw [List.drop_take, List.take_take, List.drop_drop]
              congr 1
              omega)
            rw [hrs] at h8
            have g1 : (fr.size : Int) ≤ (hf.size : Int) := by omega
            rcases idxS_cases rs tz with hi | ⟨q, hi, hq⟩
            · have HV2 := Lib.hid hi
              have HRR := Lib.hid (show (r1, r2) = ((⟨#[]⟩ : ByteArray), false) by rw [← HR.out, h8, hi]; rfl)
              obtain ⟨e1, e2⟩ := Prod.mk.inj HRR.out
              subst e1 e2
              clear h1 h4 h5 h7 h8 hrs hi HHf
              go_wp2_with (go_at_call 17; first
                | (refine (index_q2 html fr (f : Int) _ HMr.out hs HV.out).mono ?_; rintro e1 w3 ⟨rfl, rfl⟩)
                | (go_must (refine (index_q2 rs tz (-1) _ HMr.out (by omega) HV2.out).mono ?_); rintro e1 w3 ⟨rfl, rfl⟩))
              go_ret
              exact ⟨rfl, HBe.out⟩
            · have HV2 := Lib.hid hi
              obtain ⟨b2, hb2⟩ : ∃ b2 : Nat, fr.size + q = b2 := ⟨_, rfl⟩
              have f8 : IntKind.i64.wrap ((fr.size : Int) + (q : Int)) = (b2 : Int) := by rw [IntKind.wrap_i64]; omega
              have f9 : (b2 : Int) ≤ (hf.size : Int) := by omega
              have HRR := Lib.hid (show (r1, r2) = (html.extract f (f + fr.size + q), true) by
                rw [← HR.out, h8, hi, if_neg (by omega), Int.toNat_natCast]; rfl)
              obtain ⟨e1, e2⟩ := Prod.mk.inj HRR.out
              have e3 : hf.extract 0 b2 = r1 := (by
                rw [e1, ← hhf]
                apply bytes_ext
                simp only [Lib.extract_data]
                rw [List.drop_zero, List.take_take]
                congr 1
                omega)
              clear e1 HRR
              subst e2
              have e5 : (r1.toList == r1.toList) = true := by simp
              clear h1 h4 h5 h7 h8 hrs hi HHf hb2
              go_wp2_with (go_at_call 17; first
                | (refine (index_q2 html fr (f : Int) _ HMr.out hs HV.out).mono ?_; rintro e1 w3 ⟨rfl, rfl⟩)
                | (go_must (refine (index_q2 rs tz (q : Int) _ HMr.out (by omega) HV2.out).mono ?_); rintro e1 w3 ⟨rfl, rfl⟩))
              go_ret
              exact ⟨rfl, HBe.out⟩


end Go.Proofs.YtebhbgamdhjdkaaDoor
