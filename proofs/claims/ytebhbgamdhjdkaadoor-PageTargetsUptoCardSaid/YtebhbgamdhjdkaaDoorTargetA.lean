/-
  Where a Dest of a page leads: page.Target, mastref1.TargetOf.
-/
import Derived.Test.YtebhbgamdhjdkaaDoorItems
import Derived.Test.YtebhbgamdhjdkaaDoorResolved
import Derived.BigQuiet
import Derived.Deep.QuietTactic
import Derived.RegionTactic
import Derived.Outline
import Derived.Deep.CutRange
namespace Go.Proofs.YtebhbgamdhjdkaaDoor
open Go.RowKit Go.Deep

theorem idx_any (l : List UInt8) (c : UInt8) : Lib.indexByte l c = -1 ∨ ∃ j : Nat, Lib.indexByte l c = (j : Int) ∧ j < l.length := by
  induction l with
  | nil => exact Or.inl rfl
  | cons a r ih =>
    unfold Lib.indexByte
    cases hab : (a == c)
    · simp only [Bool.false_eq_true, if_false]
      rcases ih with h1 | ⟨j, h1, h2⟩
      · left
        rw [h1]; rfl
      · right
        refine ⟨j + 1, ?_, by simp; omega⟩
        rw [h1, if_neg (by simp)]
        rfl
    · right
      exact ⟨0, by simp, by simp⟩
theorem index_q (s : ByteArray) (v : Int) (w : World) (h : Lib.indexByte s.data.toList 35 = v) :
    Calls Tryd.prog 24 #[.string s, .int .u8 35] w fun e w' => e = .returned (.int .i64 v) ∧ w = w' := by
  subst h
  exact (Tryd.strings_IndexByte s 35 w).mono fun e w' ⟨h1, h2⟩ => ⟨h1, h2.symm⟩

theorem stepR_len {L : List ByteArray} {p : ByteArray} (h : (addrB L).length ≤ 200) : (addrB (stepR L p).2).length ≤ 200 := by
  unfold stepR
  split
  · exact h
  · split
    · split
      · simp [addrB, joinL]
      · have := addrB_take_le L (L.length - 1)
        rw [← List.dropLast_eq_take] at this
        exact Nat.le_trans this h
    · split
      · simp [addrB, joinL]
      · split
        · simp [addrB, joinL]
        · rename_i hq; exact Nat.le_of_not_lt hq
theorem resF_len {ps : List ByteArray} : ∀ {L : List ByteArray}, (addrB L).length ≤ 200 → (resF L ps).2.length ≤ 200 := by
  induction ps with
  | nil => intro L h; exact h
  | cons p r ih =>
    intro L h
    unfold resF
    split
    · exact ih (stepR_len h)
    · simp
theorem resO_len (f r : ByteArray) : (resO f r).2.length ≤ 200 := by
  unfold resO
  split
  · simp
  · rename_i L hL
    split
    · simp
    · refine resF_len ?_
      split
      · simp [addrB, joinL]
      · rw [(addrOk_addr hL).1, size_toList]; exact (addrOk_addr hL).2.2

theorem pre_len {s p : ByteArray} (h : Lib.hasPrefix s.data.toList p.data.toList = true) : p.size ≤ s.size := by
  have := (List.isPrefixOf_iff_prefix.1 h).length_le
  rw [size_toList, size_toList] at this
  exact this
theorem pre_join {s p : ByteArray} (h : Lib.hasPrefix s.data.toList p.data.toList = true) : p ++ s.extract p.size s.size = s := by
  obtain ⟨t, ht⟩ := List.isPrefixOf_iff_prefix.1 h
  have h2 := size_toList s
  have h3 := size_toList p
  apply bytes_ext
  rw [ByteArray.data_append, Array.toList_append, Lib.extract_data, ← ht]
  rw [← ht, List.length_append] at h2
  rw [← h3, List.drop_left, List.take_of_length_le (by omega)]

/-- a reference and its fragment -/
def cutP (s : ByteArray) : ByteArray × ByteArray := if 0 ≤ Lib.indexByte s.data.toList 35 then (s.extract 0 (Lib.indexByte s.data.toList 35).toNat, s.extract (Lib.indexByte s.data.toList 35).toNat s.size) else (s, ⟨#[]⟩)
theorem cutP_no {s : ByteArray} (h : Lib.indexByte s.data.toList 35 = -1) : cutP s = (s, ⟨#[]⟩) := by unfold cutP; rw [h]; rfl
theorem cutP_at {s : ByteArray} {j : Nat} (h : Lib.indexByte s.data.toList 35 = (j : Int)) : cutP s = (s.extract 0 j, s.extract j s.size) := by unfold cutP; rw [h, if_pos (by omega)]; rfl

/-- the name of a page's fact -/
def pageN (z : ByteArray) : ByteArray := (⟨#[112, 97, 103, 101, 58]⟩ : ByteArray) ++ z
/-- a Dest that is a reference -/
def refT (l : List (ByteArray × Val)) (o : Int × List UInt8) (fr : ByteArray) : ByteArray × ByteArray × Bool :=
  if o.1 ≠ 0 then (⟨#[35]⟩, ⟨#[]⟩, false)
  else if (factO l (pageN ⟨o.2.toArray⟩)).kind = 6 then (⟨o.2.toArray⟩ ++ fr, pageN ⟨o.2.toArray⟩, true) else (⟨#[35]⟩, pageN ⟨o.2.toArray⟩, false)
/-- a Dest that is an asset -/
def assT (l : List (ByteArray × Val)) (d : ByteArray) : ByteArray × ByteArray × Bool :=
  if (factO l d).kind = 6 ∧ (itemV (factO l d) (⟨#[117, 114, 108]⟩ : ByteArray)).kind = 3 then ((itemV (factO l d) (⟨#[117, 114, 108]⟩ : ByteArray)).text, d, true) else (⟨#[35]⟩, d, false)
/-- where a Dest leads -/
noncomputable def targetO (f : ByteArray) (l : List (ByteArray × Val)) (d : ByteArray) : ByteArray × ByteArray × Bool :=
  if Lib.hasPrefix d.data.toList (⟨#[114, 101, 102, 58]⟩ : ByteArray).data.toList = true then refT l (resO f (cutP (d.extract 4 d.size)).1) (cutP (d.extract 4 d.size)).2
  else if Lib.hasPrefix d.data.toList (⟨#[97, 115, 115, 101, 116, 58]⟩ : ByteArray).data.toList = true then assT l d else (d, ⟨#[]⟩, true)

def TgtPost (t : ByteArray × ByteArray × Bool) (w : World) (e : Ending) (w' : World) : Prop := e = .returned (.tuple #[.string t.1, .string t.2.1, .bool t.2.2]) ∧ Below w.heap.size w w'

theorem targetO_ref {f d r1 fr : ByteArray} {l : List (ByteArray × Val)} (h : Lib.hasPrefix d.data.toList (⟨#[114, 101, 102, 58]⟩ : ByteArray).data.toList = true) (hc : cutP (d.extract 4 d.size) = (r1, fr)) : targetO f l d = refT l (resO f r1) fr := by
  unfold targetO; rw [if_pos h, hc]
theorem targetO_ass {f d : ByteArray} {l : List (ByteArray × Val)} (h : Lib.hasPrefix d.data.toList (⟨#[114, 101, 102, 58]⟩ : ByteArray).data.toList = false) (h2 : Lib.hasPrefix d.data.toList (⟨#[97, 115, 115, 101, 116, 58]⟩ : ByteArray).data.toList = true) : targetO f l d = assT l d := by
  unfold targetO; rw [if_neg (by rw [h]; decide), if_pos h2]
theorem targetO_else {f d : ByteArray} {l : List (ByteArray × Val)} (h : Lib.hasPrefix d.data.toList (⟨#[114, 101, 102, 58]⟩ : ByteArray).data.toList = false) (h2 : Lib.hasPrefix d.data.toList (⟨#[97, 115, 115, 101, 116, 58]⟩ : ByteArray).data.toList = false) : targetO f l d = (d, ⟨#[]⟩, true) := by
  unfold targetO; rw [if_neg (by rw [h]; decide), if_neg (by rw [h2]; decide)]

theorem assT_of {l : List (ByteArray × Val)} {d : ByteArray} {v u : Val} (hv : (if (factO l d).kind = 8 then valZ else factO l d) = v ∨ factO l d = v) (hu : itemV v (⟨#[117, 114, 108]⟩ : ByteArray) = u) :
    assT l d = if v.kind = 6 ∧ u.kind = 3 then (u.text, d, true) else (⟨#[35]⟩, d, false) := by
  have key : factO l d = v → assT l d = if v.kind = 6 ∧ u.kind = 3 then (u.text, d, true) else (⟨#[35]⟩, d, false) := by
    intro h
    unfold assT
    rw [h, hu]
  rcases hv with h | h
  · by_cases h8 : (factO l d).kind = 8
    · rw [if_pos h8] at h
      subst h
      rw [if_neg (fun h => absurd h.1 (by decide))]
      unfold assT
      rw [if_neg (fun h => absurd h.1 (by rw [h8]; decide))]
    · rw [if_neg h8] at h
      exact key h
  · exact key h

-- THE WALKS
set_option maxRecDepth 100000 in
set_option maxHeartbeats 4000000 in
theorem target_q (sv fv : Value) (f d : ByteArray) (l : List (ByteArray × Val)) (t : ByteArray × ByteArray × Bool) (w : World) (hm : MaxCell w) (hn : NamedsAt w fv l) (hd : d.size ≤ 2 ^ 62) (ht : targetO f l d = t) :
    Calls Tryd.prog 8 #[.agg #[sv, fv, .string f], .string d] w (TgtPost t w) := by
  have HM := Lib.hid hm; clear hm
  have HN := Lib.hid hn; clear hn
  have HT := Lib.hid ht; clear ht
  cases href : Lib.hasPrefix d.data.toList (⟨#[114, 101, 102, 58]⟩ : ByteArray).data.toList
  · have HRef := Lib.hid href
    cases hass : Lib.hasPrefix d.data.toList (⟨#[97, 115, 115, 101, 116, 58]⟩ : ByteArray).data.toList
    · have HAss := Lib.hid hass
      have HX := Lib.hid (HT.out.symm.trans (targetO_else href hass))
      clear href hass
      go_enter Tryd.func8, Tryd.ntmps8
      go_wp2_with (first
  | (go_at_call 23; refine (hasPrefix_q _ _ false _ HRef.out).mono ?_; rintro e wx ⟨rfl, rfl⟩)
  | (go_at_call 23; refine (hasPrefix_q _ _ false _ HAss.out).mono ?_; rintro e wx ⟨rfl, rfl⟩))
      go_ret3
      rw [HX.out]
      exact ⟨rfl, (Below.refl _ _).alloc (Nat.le_refl _) _⟩
    · have HAss := Lib.hid hass
      have HX := Lib.hid (HT.out.symm.trans (targetO_ass href hass))
      clear href hass
      go_enter Tryd.func8, Tryd.ntmps8
      go_wp2_with (first
  | (go_at_call 23; refine (hasPrefix_q _ _ false _ HRef.out).mono ?_; rintro e wx ⟨rfl, rfl⟩)
  | (go_at_call 23; refine (hasPrefix_q _ _ true _ HAss.out).mono ?_; rintro e wx ⟨rfl, rfl⟩))
      obtain ⟨W0, hW0⟩ : ∃ W0, w.alloc (.cells #[sv, fv, .string f] 25) = W0 := ⟨_, rfl⟩
      have HB0 := Lib.hid (show Below w.heap.size w W0 by rw [← hW0]; exact (Below.refl _ _).alloc (Nat.le_refl _) _)
      rw [hW0]
      clear hW0
      have HN0 := Lib.hid (HN.out.keep (Keeps.of_below HB0.out))
      obtain ⟨v, hv⟩ : ∃ v, (if (factO l d).kind = 8 then valZ else factO l d) = v := ⟨_, rfl⟩
      refine (fact_q l fv d v W0 HN0.out hv).mono ?_
      rintro e w1 ⟨A1, n1, c1, A2, n2, c2, rfl, hvi, hb1⟩
      have HB1 := Lib.hid (HB0.out.trans (hb1.mono HB0.out.size))
      have HV := Lib.hid hvi
      clear hb1 hvi
      have hs1 := HB1.out.size
      unfold valAgg
      have HVU := HV.out
      unfold valAgg at HVU
      go_wp2_with fail
      obtain ⟨W1, hW1⟩ : ∃ W1, w1.alloc (.cells #[.int .i64 v.kind, .bool v.flag, .int .i64 v.num, .string v.text, .slice A1 n1 c1, .slice A2 n2 c2] 35) = W1 := ⟨_, rfl⟩
      have HC1 := Lib.hid (show CB W1 w1.heap.size 35 (valC v (.slice A1 n1 c1) (.slice A2 n2 c2)) by rw [← hW1]; exact CB.new w1 _ _)
      have HB2 := Lib.hid (show Below w.heap.size w W1 by rw [← hW1]; exact HB1.out.alloc hs1 _)
      have HV1 := Lib.hid (show ValIn W1 AnyB (.agg #[.int .i64 v.kind, .bool v.flag, .int .i64 v.num, .string v.text, .slice A1 n1 c1, .slice A2 n2 c2]) v by rw [← hW1]; exact HVU.keeps (Keeps.alloc _ _))
      rw [hW1]
      clear hW1 HVU
      obtain ⟨u, hu⟩ : ∃ u, itemV v (⟨#[117, 114, 108]⟩ : ByteArray) = u := ⟨_, rfl⟩
      refine (item_q v _ (⟨#[117, 114, 108]⟩ : ByteArray) u W1 HV1.out hu).mono ?_
      rintro e w2 ⟨A3, n3, c3, A4, n4, c4, rfl, hui, hb2⟩
      have HC2 := Lib.hid (HC1.out.below (hb2.mono (Nat.le_refl _)))
      have HB3 := Lib.hid (HB2.out.trans (hb2.mono HB2.out.size))
      have hs2 := hb2.size
      have hlt := HC1.out.lt
      clear hb2 hui
      unfold valAgg
      obtain ⟨n, hn⟩ : ∃ n, w1.heap.size = n := ⟨_, rfl⟩
      rw [hn] at HC2 hlt
      rw [hn]
      have hnl : n < w2.heap.size := HC2.out.lt
      have HC3 := Lib.hid (HC2.out.alloc (.cells #[.int .i64 u.kind, .bool u.flag, .int .i64 u.num, .string u.text, .slice A3 n3 c3, .slice A4 n4 c4] 35))
      have vd0 := HC3.out.c 0
      simp only [valC] at vd0
      have vc0 := HC2.out.c 0
      have vsh := HC2.out.sh
      simp only [valC] at vc0 vsh
      by_cases hgood : v.kind = 6 ∧ u.kind = 3
      · have HX2 := Lib.hid (show t = (u.text, d, true) by
          rw [HX.out, assT_of (Or.inl hv) hu, if_pos hgood])
        obtain ⟨k1, k2⟩ := hgood
        clear hv hu
        go_wp2_with fail
        go_ret3
        rw [HX2.out]
        exact ⟨rfl, HB3.out.alloc HB3.out.size _⟩
      · have HX2 := Lib.hid (show t = (⟨#[35]⟩, d, false) by
          rw [HX.out, assT_of (Or.inl hv) hu, if_neg hgood])
        clear hv hu
        by_cases k1 : v.kind = 6
        · have k2 : ¬ u.kind = 3 := fun h => hgood ⟨k1, h⟩
          clear hgood
          go_wp2_with fail
          go_ret3
          rw [HX2.out]
          exact ⟨rfl, HB3.out.alloc HB3.out.size _⟩
        · clear hgood
          go_wp2_with fail
          go_ret3
          rw [HX2.out]
          exact ⟨rfl, HB3.out.alloc HB3.out.size _⟩
  · have HRef := Lib.hid href
    have hd4 : 4 ≤ d.size := pre_len href
    rcases idx_any (d.extract 4 d.size).data.toList 35 with hi | ⟨j, hi, hj⟩
    · have HI := Lib.hid hi
      have HX := Lib.hid (HT.out.symm.trans (targetO_ref href (cutP_no hi)))
      clear hi href
      go_enter Tryd.func8, Tryd.ntmps8
      go_wp2_with (first
        | (go_at_call 23; go_must (refine (hasPrefix_q _ _ true _ HRef.out).mono ?_); rintro e wx ⟨rfl, rfl⟩)
        | (go_at_call 24; go_must (refine (index_q _ _ _ HI.out).mono ?_); rintro e wx ⟨rfl, rfl⟩))
      obtain ⟨W0, hW0⟩ : ∃ W0, (w.alloc (.cells #[sv, fv, .string f] 25)) = W0 := ⟨_, rfl⟩
      have HB0 := Lib.hid (show Below w.heap.size w W0 by rw [← hW0]; exact (Below.refl _ _).alloc (Nat.le_refl _) _)
      have HP0 := Lib.hid (show CB W0 w.heap.size 25 #[sv, fv, .string f] by rw [← hW0]; exact CB.new w _ _)
      rw [hW0]
      clear hW0
      have HM0 := Lib.hid (HM.out.keep (Keeps.of_below HB0.out))
      obtain ⟨r1, hr1⟩ : ∃ r1, d.extract 4 d.size = r1 := ⟨_, rfl⟩
      obtain ⟨o, ho⟩ : ∃ o, resO f r1 = o := ⟨_, rfl⟩
      rw [hr1]
      have HX1 := Lib.hid (show t = refT l o (⟨#[]⟩ : ByteArray) by rw [HX.out, hr1, ho])
      have hol : o.2.length ≤ 200 := by rw [← ho]; exact resO_len f r1
      refine (resolve_q f r1 o W0 HM0.out ho).mono ?_
      rintro e w1 ⟨z, rfl, hz, hb1⟩
      obtain rfl : z = ⟨o.2.toArray⟩ := bytes_ext (by rw [hz])
      obtain ⟨z, hzz⟩ : ∃ z : ByteArray, (⟨o.2.toArray⟩ : ByteArray) = z := ⟨_, rfl⟩
      have hzs : z.size ≤ 200 := by rw [← hzz]; exact hol
      have HP1 := Lib.hid (HP0.out.below (hb1.mono (Nat.le_refl _)))
      have HB1 := Lib.hid (HB0.out.trans (hb1.mono HB0.out.size))
      have HN1 := Lib.hid (HN.out.keep (Keeps.of_below HB1.out))
      rw [hzz]
      clear hz hb1 hr1 ho HX
      have pc1 := HP1.out.c 1
      have pc2 := HP1.out.c 2
      have psh := HP1.out.sh
      obtain ⟨o1, o2⟩ := o
      simp only at hzz hol
      by_cases h0 : o1 = 0
      · subst h0
        obtain ⟨v, hv⟩ : ∃ v, (if (factO l (pageN z)).kind = 8 then valZ else factO l (pageN z)) = v := ⟨_, rfl⟩
        go_wp2_with fail
        refine (fact_q l fv (pageN z) v _ HN1.out hv).mono ?_
        rintro e w2 ⟨A1, n1, c1, A2, n2, c2, rfl, hvi, hb2⟩
        have HB2 := Lib.hid (HB1.out.trans (hb2.mono HB1.out.size))
        clear hvi hb2
        unfold valAgg
        have hfl : ∀ (x : Value) (W : World), Sem.run Tryd.prog (Instr.field 35 (.agg #[x, .bool v.flag, .int .i64 v.num, .string v.text, .slice A1 n1 c1, .slice A2 n2 c2]) 0) W = .ok x W := fun _ _ => rfl
        by_cases hk : v.kind = 6
        · have HX2 := Lib.hid (show t = (z ++ (⟨#[]⟩ : ByteArray), pageN z, true) by
            rw [HX1.out, refT, if_neg (fun h => h rfl), if_pos (by show (factO l (pageN ⟨o2.toArray⟩)).kind = 6; rw [hzz]; split at hv; (subst hv; exact absurd hk (by decide)); (rw [hv]; exact hk))]
            simp only [hzz])
          clear hv hzz hol HX1
          go_wp2_with fail
          go_ret3
          rw [HX2.out]
          exact ⟨rfl, HB2.out⟩
        · have HX2 := Lib.hid (show t = (⟨#[35]⟩, pageN z, false) by
            rw [HX1.out, refT, if_neg (fun h => h rfl), if_neg (by show ¬ (factO l (pageN ⟨o2.toArray⟩)).kind = 6; rw [hzz]; split at hv; (rename_i h8; rw [h8]; decide); (rw [hv]; exact hk))]
            simp only [hzz])
          clear hv hzz hol HX1
          go_wp2_with fail
          go_ret3
          rw [HX2.out]
          exact ⟨rfl, HB2.out⟩
      · have HX2 := Lib.hid (show t = (⟨#[35]⟩, ⟨#[]⟩, false) by rw [HX1.out, refT, if_pos h0])
        clear hzz hol HX1
        go_wp2_with fail
        go_ret3
        rw [HX2.out]
        exact ⟨rfl, HB1.out⟩
    · have HI := Lib.hid hi
      have HX := Lib.hid (HT.out.symm.trans (targetO_ref href (cutP_at hi)))
      rw [size_toList] at hj
      clear hi href
      go_enter Tryd.func8, Tryd.ntmps8
      go_wp2_with (first
        | (go_at_call 23; go_must (refine (hasPrefix_q _ _ true _ HRef.out).mono ?_); rintro e wx ⟨rfl, rfl⟩)
        | (go_at_call 24; go_must (refine (index_q _ _ _ HI.out).mono ?_); rintro e wx ⟨rfl, rfl⟩))
      go_quiet (fail)
      go_wp2_with fail
      obtain ⟨W0, hW0⟩ : ∃ W0, (w.alloc (.cells #[sv, fv, .string f] 25)).drewN nq = W0 := ⟨_, rfl⟩
      have HB0 := Lib.hid (show Below w.heap.size w W0 by rw [← hW0]; exact Below.drewN' ((Below.refl _ _).alloc (Nat.le_refl _) _) _)
      have HP0 := Lib.hid (show CB W0 w.heap.size 25 #[sv, fv, .string f] by rw [← hW0]; exact CB.new w _ _)
      rw [hW0]
      clear hW0
      have HM0 := Lib.hid (HM.out.keep (Keeps.of_below HB0.out))
      obtain ⟨r1, hr1⟩ : ∃ r1, (d.extract 4 d.size).extract 0 j = r1 := ⟨_, rfl⟩
      obtain ⟨o, ho⟩ : ∃ o, resO f r1 = o := ⟨_, rfl⟩
      rw [hr1]
      have HX1 := Lib.hid (show t = refT l o ((d.extract 4 d.size).extract j (d.size - 4)) by rw [HX.out, hr1, ho]; rw [ByteArray.size_extract, Nat.min_self])
      have hol : o.2.length ≤ 200 := by rw [← ho]; exact resO_len f r1
      refine (resolve_q f r1 o W0 HM0.out ho).mono ?_
      rintro e w1 ⟨z, rfl, hz, hb1⟩
      obtain rfl : z = ⟨o.2.toArray⟩ := bytes_ext (by rw [hz])
      obtain ⟨z, hzz⟩ : ∃ z : ByteArray, (⟨o.2.toArray⟩ : ByteArray) = z := ⟨_, rfl⟩
      have hzs : z.size ≤ 200 := by rw [← hzz]; exact hol
      have HP1 := Lib.hid (HP0.out.below (hb1.mono (Nat.le_refl _)))
      have HB1 := Lib.hid (HB0.out.trans (hb1.mono HB0.out.size))
      have HN1 := Lib.hid (HN.out.keep (Keeps.of_below HB1.out))
      rw [hzz]
      clear hz hb1 hr1 ho HX
      have pc1 := HP1.out.c 1
      have pc2 := HP1.out.c 2
      have psh := HP1.out.sh
      obtain ⟨o1, o2⟩ := o
      simp only at hzz hol
      by_cases h0 : o1 = 0
      · subst h0
        obtain ⟨v, hv⟩ : ∃ v, (if (factO l (pageN z)).kind = 8 then valZ else factO l (pageN z)) = v := ⟨_, rfl⟩
        go_wp2_with fail
        refine (fact_q l fv (pageN z) v _ HN1.out hv).mono ?_
        rintro e w2 ⟨A1, n1, c1, A2, n2, c2, rfl, hvi, hb2⟩
        have HB2 := Lib.hid (HB1.out.trans (hb2.mono HB1.out.size))
        clear hvi hb2
        unfold valAgg
        have hfl : ∀ (x : Value) (W : World), Sem.run Tryd.prog (Instr.field 35 (.agg #[x, .bool v.flag, .int .i64 v.num, .string v.text, .slice A1 n1 c1, .slice A2 n2 c2]) 0) W = .ok x W := fun _ _ => rfl
        by_cases hk : v.kind = 6
        · have HX2 := Lib.hid (show t = (z ++ ((d.extract 4 d.size).extract j (d.size - 4)), pageN z, true) by
            rw [HX1.out, refT, if_neg (fun h => h rfl), if_pos (by show (factO l (pageN ⟨o2.toArray⟩)).kind = 6; rw [hzz]; split at hv; (subst hv; exact absurd hk (by decide)); (rw [hv]; exact hk))]
            simp only [hzz])
          clear hv hzz hol HX1
          go_wp2_with fail
          go_ret3
          rw [HX2.out]
          exact ⟨rfl, HB2.out⟩
        · have HX2 := Lib.hid (show t = (⟨#[35]⟩, pageN z, false) by
            rw [HX1.out, refT, if_neg (fun h => h rfl), if_neg (by show ¬ (factO l (pageN ⟨o2.toArray⟩)).kind = 6; rw [hzz]; split at hv; (rename_i h8; rw [h8]; decide); (rw [hv]; exact hk))]
            simp only [hzz])
          clear hv hzz hol HX1
          go_wp2_with fail
          go_ret3
          rw [HX2.out]
          exact ⟨rfl, HB2.out⟩
      · have HX2 := Lib.hid (show t = (⟨#[35]⟩, ⟨#[]⟩, false) by rw [HX1.out, refT, if_pos h0])
        clear hzz hol HX1
        go_wp2_with fail
        go_ret3
        rw [HX2.out]
        exact ⟨rfl, HB1.out⟩

end Go.Proofs.YtebhbgamdhjdkaaDoor
