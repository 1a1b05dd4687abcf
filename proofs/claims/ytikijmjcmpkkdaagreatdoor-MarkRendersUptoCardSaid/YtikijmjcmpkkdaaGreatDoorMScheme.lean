/-
  The scheme of an address: mastref1.SafeScheme.
-/
import Derived.Test.YtikijmjcmpkkdaaGreatDoorRefLower
import Derived.Test.YtikijmjcmpkkdaaGreatDoorMIndexAny
namespace Go.Proofs.YtikijmjcmpkkdaaGreatDoor
open Go.RowKit Go.Deep

/-- where the colon of a scheme stands -/
def colonB : List UInt8 → Option Nat
  | [] => none
  | b :: r => if b = 58 then some 0 else if b = 47 ∨ b = 63 ∨ b = 35 then none else (colonB r).map (· + 1)
def okScheme (l : List UInt8) : Bool := lowerL l == [104, 116, 116, 112] || lowerL l == [104, 116, 116, 112, 115] || lowerL l == [109, 97, 105, 108, 116, 111]
def badB (l : List UInt8) : Bool := match colonB l with | none => false | some k => !okScheme (l.take k)

theorem colon_prog : ∀ l : List UInt8, (colonB l = none ∧ (Lib.indexAny l [58, 47, 63, 35] = -1 ∨ ∃ (k : Nat) (b : UInt8), Lib.indexAny l [58, 47, 63, 35] = k ∧ l[k]? = some b ∧ b ≠ 58)) ∨ ∃ k : Nat, colonB l = some k ∧ Lib.indexAny l [58, 47, 63, 35] = k ∧ l[k]? = some 58
  | [] => Or.inl ⟨rfl, Or.inl rfl⟩
  | b :: r => by
    by_cases h1 : b = 58
    · subst h1
      exact Or.inr ⟨0, by simp [colonB], by simp [Lib.indexAny], rfl⟩
    by_cases h2 : b = 47 ∨ b = 63 ∨ b = 35
    · refine Or.inl ⟨by rw [colonB, if_neg h1, if_pos h2], Or.inr ⟨0, b, ?_, rfl, h1⟩⟩
      rcases h2 with rfl | rfl | rfl <;> simp [Lib.indexAny]
    · have hc : ([58, 47, 63, 35] : List UInt8).contains b = false := by
        simp only [List.contains_cons, List.contains_nil, Bool.or_false, Bool.or_eq_false_iff, beq_eq_false_iff_ne]
        exact ⟨h1, fun h => h2 (Or.inl h), fun h => h2 (Or.inr (Or.inl h)), fun h => h2 (Or.inr (Or.inr h))⟩
      have e : colonB (b :: r) = (colonB r).map (· + 1) := by rw [colonB, if_neg h1, if_neg h2]
      have e2 : Lib.indexAny (b :: r) [58, 47, 63, 35] = if Lib.indexAny r [58, 47, 63, 35] == -1 then -1 else Lib.indexAny r [58, 47, 63, 35] + 1 := by rw [Lib.indexAny, hc]; rfl
      rw [e, e2]
      rcases colon_prog r with ⟨h3, h4 | ⟨k, x, h4, h5, h6⟩⟩ | ⟨k, h3, h4, h5⟩
      · exact Or.inl ⟨by rw [h3]; rfl, Or.inl (by rw [h4]; rfl)⟩
      · refine Or.inl ⟨by rw [h3]; rfl, Or.inr ⟨k + 1, x, ?_, h5, h6⟩⟩
        rw [h4, if_neg (by simp)]; omega
      · refine Or.inr ⟨k + 1, by rw [h3]; rfl, ?_, h5⟩
        rw [h4, if_neg (by simp)]; omega
theorem colon_ref : ∀ l : List UInt8, (colonB l = none ∧ (Lib.indexByte l 58 = -1 ∨ ∃ k j : Nat, Lib.indexByte l 58 = k ∧ Lib.indexAny l [47, 63, 35] = j ∧ j < k)) ∨ ∃ k : Nat, colonB l = some k ∧ Lib.indexByte l 58 = k ∧ l[k]? = some 58 ∧ (Lib.indexAny l [47, 63, 35] = -1 ∨ ∃ j : Nat, Lib.indexAny l [47, 63, 35] = j ∧ k < j)
  | [] => Or.inl ⟨rfl, Or.inl rfl⟩
  | b :: r => by
    by_cases h1 : b = 58
    · subst h1
      refine Or.inr ⟨0, by simp [colonB], by simp [Lib.indexByte], rfl, ?_⟩
      have hc : ([47, 63, 35] : List UInt8).contains 58 = false := by decide
      have e2 : Lib.indexAny (58 :: r) [47, 63, 35] = if Lib.indexAny r [47, 63, 35] == -1 then -1 else Lib.indexAny r [47, 63, 35] + 1 := by rw [Lib.indexAny, hc]; rfl
      rw [e2]
      have h3 := Lib.indexAny_ge [47, 63, 35] r
      by_cases h4 : Lib.indexAny r [47, 63, 35] = -1
      · rw [h4]; exact Or.inl rfl
      · obtain ⟨j, hj⟩ : ∃ j : Nat, Lib.indexAny r [47, 63, 35] = j := ⟨(Lib.indexAny r [47, 63, 35]).toNat, by omega⟩
        refine Or.inr ⟨j + 1, ?_, by omega⟩
        rw [hj, if_neg (by simp)]; omega
    have hb : (b == 58) = false := by simpa using h1
    have e1 : Lib.indexByte (b :: r) 58 = if Lib.indexByte r 58 == -1 then -1 else Lib.indexByte r 58 + 1 := by rw [Lib.indexByte, hb]; rfl
    by_cases h2 : b = 47 ∨ b = 63 ∨ b = 35
    · refine Or.inl ⟨by rw [colonB, if_neg h1, if_pos h2], ?_⟩
      have e2 : Lib.indexAny (b :: r) [47, 63, 35] = 0 := by rcases h2 with rfl | rfl | rfl <;> simp [Lib.indexAny]
      have h3 := Lib.indexByte_ge r 58
      by_cases h4 : Lib.indexByte r 58 = -1
      · exact Or.inl (by rw [e1, h4]; rfl)
      · obtain ⟨j, hj⟩ : ∃ j : Nat, Lib.indexByte r 58 = j := ⟨(Lib.indexByte r 58).toNat, by omega⟩
        refine Or.inr ⟨j + 1, 0, ?_, e2, by omega⟩
        rw [e1, hj, if_neg (by simp)]; omega
    · have hc : ([47, 63, 35] : List UInt8).contains b = false := by
        simp only [List.contains_cons, List.contains_nil, Bool.or_false, Bool.or_eq_false_iff, beq_eq_false_iff_ne]
        exact ⟨fun h => h2 (Or.inl h), fun h => h2 (Or.inr (Or.inl h)), fun h => h2 (Or.inr (Or.inr h))⟩
      have e : colonB (b :: r) = (colonB r).map (· + 1) := by rw [colonB, if_neg h1, if_neg h2]
      have e2 : Lib.indexAny (b :: r) [47, 63, 35] = if Lib.indexAny r [47, 63, 35] == -1 then -1 else Lib.indexAny r [47, 63, 35] + 1 := by rw [Lib.indexAny, hc]; rfl
      rw [e, e1, e2]
      rcases colon_ref r with ⟨h3, h4 | ⟨k, j, h4, h5, h6⟩⟩ | ⟨k, h3, h4, h5, h6⟩
      · exact Or.inl ⟨by rw [h3]; rfl, Or.inl (by rw [h4]; rfl)⟩
      · refine Or.inl ⟨by rw [h3]; rfl, Or.inr ⟨k + 1, j + 1, ?_, ?_, by omega⟩⟩
        · rw [h4, if_neg (by simp)]; omega
        · rw [h5, if_neg (by simp)]; omega
      · refine Or.inr ⟨k + 1, by rw [h3]; rfl, ?_, h5, ?_⟩
        · rw [h4, if_neg (by simp)]; omega
        · rcases h6 with h6 | ⟨j, h6, h7⟩
          · rw [h6]; exact Or.inl rfl
          · refine Or.inr ⟨j + 1, ?_, by omega⟩
            rw [h6, if_neg (by simp)]; omega

theorem bad_none {l : List UInt8} (h : colonB l = none) : badB l = false := by rw [badB, h]
theorem bad_some {l : List UInt8} {k : Nat} (h : colonB l = some k) : badB l = !okScheme (l.take k) := by rw [badB, h]
theorem cut_list (s : ByteArray) (k : Nat) : (s.extract 0 k).data.toList = s.data.toList.take k := by rw [Lib.extract_data]; simp
theorem lower_q2 (s : ByteArray) (x : ByteArray) (w : World) (hs : s.size ≤ 1048576) (hx : x.data.toList = lowerL s.data.toList) :
    Calls Tryz.prog 42 #[.string s] w fun e w' => e = .returned (.string x) ∧ Below w.heap.size w w' :=
  (refLower_any s w (by omega)).mono fun e w' ⟨h1, h2⟩ => ⟨h1.trans (ret_string (by rw [hx])), h2⟩
theorem asc_colon : Asc ⟨#[58, 47, 63, 35]⟩ := by intro b hb; simp at hb; rcases hb with rfl | rfl | rfl | rfl <;> decide
theorem asc_three : Asc ⟨#[47, 63, 35]⟩ := by intro b hb; simp at hb; rcases hb with rfl | rfl | rfl <;> decide
theorem any_v (s chars : ByteArray) (v : Int) (w : World) (hs : s.size ≤ 1048576) (h2 : 2 ≤ chars.size) (hc : chars.size ≤ 1000) (ha : Asc chars) (hv : Lib.indexAny s.data.toList chars.data.toList = v) :
    Calls Tryz.prog 105 #[.string s, .string chars] w fun e w' => e = .returned (.int .i64 v) ∧ Below w.heap.size w w' := by
  subst hv; exact indexAny_q s chars w hs h2 hc ha
theorem byte_v (s : ByteArray) (c : UInt8) (n v : Int) (w : World) (hn : (c.toNat : Int) = n) (hv : Lib.indexByte s.data.toList c = v) :
    Calls Tryz.prog 138 #[.string s, .int .u8 n] w fun e w' => e = .returned (.int .i64 v) ∧ w = w' := by
  subst hn
  have hback : ((c.toNat : Int)).toNat.toUInt8 = c := by simp
  refine (Tryz.strings_IndexByte s (c.toNat : Int) w).mono fun e w' ⟨he, hw⟩ => ⟨?_, hw.symm⟩
  rw [he, hback, hv]
theorem ok_tests (x : ByteArray) (l : List UInt8) (h : x.data.toList = lowerL l) : okScheme l = ((x.toList == [104, 116, 116, 112]) || (x.toList == [104, 116, 116, 112, 115]) || (x.toList == [109, 97, 105, 108, 116, 111])) := by
  rw [okScheme, Go.ByteArray.toList_eq, h]

set_option maxRecDepth 100000 in
set_option maxHeartbeats 2000000 in
theorem safeScheme_q (s : ByteArray) (v : Bool) (w : World) (hs : s.size ≤ 1048576) (h : (!badB s.data.toList) = v) :
    Calls Tryz.prog 157 #[.string s] w fun e w' => e = .returned (.bool v) ∧ Below w.heap.size w w' := by
  have HV := Lib.hid h; clear h
  rcases colon_ref s.data.toList with ⟨h3, h4 | ⟨k, j, h4, h5, h6⟩⟩ | ⟨k, h3, h4, h5, h6⟩
  · have HR := Lib.hid (show v = true by rw [← HV.out, bad_none h3]; rfl)
    have HI := Lib.hid h4; clear h3 h4
    obtain ⟨o, ho⟩ : ∃ o, Lib.indexAny s.data.toList (⟨#[47, 63, 35]⟩ : ByteArray).data.toList = o := ⟨_, rfl⟩
    have HJ := Lib.hid ho; clear ho
    go_enter Tryz.func157, Tryz.ntmps157
    go_wp2_with (first | (go_at_call 138; go_must (refine (byte_v s 58 _ (-1) _ rfl HI.out).mono ?_); rintro e w0 ⟨rfl, rfl⟩) | (go_at_call 105; go_must (refine (any_v s _ o _ hs (by decide) (by decide) asc_three HJ.out).mono ?_); rintro e w1 ⟨rfl, hb⟩; have HB := Lib.hid hb; clear hb))
    go_ret
    exact ⟨ret_bool HR.out.symm, HB.out⟩
  · have HR := Lib.hid (show v = true by rw [← HV.out, bad_none h3]; rfl)
    have HI := Lib.hid h4; clear h3 h4
    have HJ := Lib.hid h5; clear h5
    have hj1 : (j : Int) < (k : Int) := by omega
    go_enter Tryz.func157, Tryz.ntmps157
    go_wp2_with (first | (go_at_call 138; go_must (refine (byte_v s 58 _ (k : Int) _ rfl HI.out).mono ?_); rintro e w0 ⟨rfl, rfl⟩) | (go_at_call 105; go_must (refine (any_v s _ (j : Int) _ hs (by decide) (by decide) asc_three HJ.out).mono ?_); rintro e w1 ⟨rfl, hb⟩; have HB := Lib.hid hb; clear hb))
    go_ret
    exact ⟨ret_bool HR.out.symm, HB.out⟩
  · have hk : k < s.size := by rw [← size_toList]; exact (List.getElem?_eq_some_iff.1 h5).1
    have hbad := congrArg (!·) (bad_some h3)
    simp only [HV.out, Bool.not_not] at hbad
    obtain ⟨x, hx⟩ : ∃ x : ByteArray, x.data.toList = lowerL (s.extract 0 k).data.toList := ⟨⟨(lowerL (s.extract 0 k).data.toList).toArray⟩, rfl⟩
    have hx2 := ok_tests x _ (by rw [hx, cut_list] : x.data.toList = lowerL (s.data.toList.take k))
    have HX := Lib.hid hx; clear hx
    have hcs : (s.extract 0 k).size ≤ 1048576 := by rw [ByteArray.size_extract]; omega
    have HS := Lib.hid hcs; clear hcs
    have HI := Lib.hid h4; clear h3 h4 h5 HV
    rw [hx2] at hbad
    clear hx2
    rcases h6 with h6 | ⟨j, h6, h7⟩
    · have HJ := Lib.hid h6; clear h6
      cases t1 : (x.toList == [104, 116, 116, 112])
      · cases t2 : (x.toList == [104, 116, 116, 112, 115])
        · cases t3 : (x.toList == [109, 97, 105, 108, 116, 111])
          · rw [t1, t2, t3] at hbad
            have HR := Lib.hid (show v = false by have := hbad; simpa using this); clear hbad
            go_enter Tryz.func157, Tryz.ntmps157
            go_wp2_with (first | (go_at_call 138; go_must (refine (byte_v s 58 _ (k : Int) _ rfl HI.out).mono ?_); rintro e w0 ⟨rfl, rfl⟩) | (go_at_call 105; go_must (refine (any_v s _ (-1) _ hs (by decide) (by decide) asc_three HJ.out).mono ?_); rintro e w1 ⟨rfl, hb⟩; have HB := Lib.hid hb; clear hb) | (go_at_call 42; go_must (refine (lower_q2 _ x _ HS.out HX.out).mono ?_); rintro e w2 ⟨rfl, hb⟩; have HB2 := Lib.hid (HB.out.trans (hb.mono HB.out.size)); clear hb))
            go_ret
            exact ⟨ret_bool HR.out.symm, HB2.out⟩
          · rw [t1, t2, t3] at hbad
            have HR := Lib.hid (show v = true by have := hbad; simpa using this); clear hbad
            go_enter Tryz.func157, Tryz.ntmps157
            go_wp2_with (first | (go_at_call 138; go_must (refine (byte_v s 58 _ (k : Int) _ rfl HI.out).mono ?_); rintro e w0 ⟨rfl, rfl⟩) | (go_at_call 105; go_must (refine (any_v s _ (-1) _ hs (by decide) (by decide) asc_three HJ.out).mono ?_); rintro e w1 ⟨rfl, hb⟩; have HB := Lib.hid hb; clear hb) | (go_at_call 42; go_must (refine (lower_q2 _ x _ HS.out HX.out).mono ?_); rintro e w2 ⟨rfl, hb⟩; have HB2 := Lib.hid (HB.out.trans (hb.mono HB.out.size)); clear hb))
            go_ret
            exact ⟨ret_bool HR.out.symm, HB2.out⟩
        · rw [t1, t2] at hbad
          have HR := Lib.hid (show v = true by have := hbad; simpa using this); clear hbad
          go_enter Tryz.func157, Tryz.ntmps157
          go_wp2_with (first | (go_at_call 138; go_must (refine (byte_v s 58 _ (k : Int) _ rfl HI.out).mono ?_); rintro e w0 ⟨rfl, rfl⟩) | (go_at_call 105; go_must (refine (any_v s _ (-1) _ hs (by decide) (by decide) asc_three HJ.out).mono ?_); rintro e w1 ⟨rfl, hb⟩; have HB := Lib.hid hb; clear hb) | (go_at_call 42; go_must (refine (lower_q2 _ x _ HS.out HX.out).mono ?_); rintro e w2 ⟨rfl, hb⟩; have HB2 := Lib.hid (HB.out.trans (hb.mono HB.out.size)); clear hb))
          go_ret
          exact ⟨ret_bool HR.out.symm, HB2.out⟩
      · rw [t1] at hbad
        have HR := Lib.hid (show v = true by have := hbad; simpa using this); clear hbad
        go_enter Tryz.func157, Tryz.ntmps157
        go_wp2_with (first | (go_at_call 138; go_must (refine (byte_v s 58 _ (k : Int) _ rfl HI.out).mono ?_); rintro e w0 ⟨rfl, rfl⟩) | (go_at_call 105; go_must (refine (any_v s _ (-1) _ hs (by decide) (by decide) asc_three HJ.out).mono ?_); rintro e w1 ⟨rfl, hb⟩; have HB := Lib.hid hb; clear hb) | (go_at_call 42; go_must (refine (lower_q2 _ x _ HS.out HX.out).mono ?_); rintro e w2 ⟨rfl, hb⟩; have HB2 := Lib.hid (HB.out.trans (hb.mono HB.out.size)); clear hb))
        go_ret
        exact ⟨ret_bool HR.out.symm, HB2.out⟩
    · have HJ := Lib.hid h6; clear h6
      have hj1 : ¬ (j : Int) < (k : Int) := by omega
      cases t1 : (x.toList == [104, 116, 116, 112])
      · cases t2 : (x.toList == [104, 116, 116, 112, 115])
        · cases t3 : (x.toList == [109, 97, 105, 108, 116, 111])
          · rw [t1, t2, t3] at hbad
            have HR := Lib.hid (show v = false by have := hbad; simpa using this); clear hbad
            go_enter Tryz.func157, Tryz.ntmps157
            go_wp2_with (first | (go_at_call 138; go_must (refine (byte_v s 58 _ (k : Int) _ rfl HI.out).mono ?_); rintro e w0 ⟨rfl, rfl⟩) | (go_at_call 105; go_must (refine (any_v s _ (j : Int) _ hs (by decide) (by decide) asc_three HJ.out).mono ?_); rintro e w1 ⟨rfl, hb⟩; have HB := Lib.hid hb; clear hb) | (go_at_call 42; go_must (refine (lower_q2 _ x _ HS.out HX.out).mono ?_); rintro e w2 ⟨rfl, hb⟩; have HB2 := Lib.hid (HB.out.trans (hb.mono HB.out.size)); clear hb))
            go_ret
            exact ⟨ret_bool HR.out.symm, HB2.out⟩
          · rw [t1, t2, t3] at hbad
            have HR := Lib.hid (show v = true by have := hbad; simpa using this); clear hbad
            go_enter Tryz.func157, Tryz.ntmps157
            go_wp2_with (first | (go_at_call 138; go_must (refine (byte_v s 58 _ (k : Int) _ rfl HI.out).mono ?_); rintro e w0 ⟨rfl, rfl⟩) | (go_at_call 105; go_must (refine (any_v s _ (j : Int) _ hs (by decide) (by decide) asc_three HJ.out).mono ?_); rintro e w1 ⟨rfl, hb⟩; have HB := Lib.hid hb; clear hb) | (go_at_call 42; go_must (refine (lower_q2 _ x _ HS.out HX.out).mono ?_); rintro e w2 ⟨rfl, hb⟩; have HB2 := Lib.hid (HB.out.trans (hb.mono HB.out.size)); clear hb))
            go_ret
            exact ⟨ret_bool HR.out.symm, HB2.out⟩
        · rw [t1, t2] at hbad
          have HR := Lib.hid (show v = true by have := hbad; simpa using this); clear hbad
          go_enter Tryz.func157, Tryz.ntmps157
          go_wp2_with (first | (go_at_call 138; go_must (refine (byte_v s 58 _ (k : Int) _ rfl HI.out).mono ?_); rintro e w0 ⟨rfl, rfl⟩) | (go_at_call 105; go_must (refine (any_v s _ (j : Int) _ hs (by decide) (by decide) asc_three HJ.out).mono ?_); rintro e w1 ⟨rfl, hb⟩; have HB := Lib.hid hb; clear hb) | (go_at_call 42; go_must (refine (lower_q2 _ x _ HS.out HX.out).mono ?_); rintro e w2 ⟨rfl, hb⟩; have HB2 := Lib.hid (HB.out.trans (hb.mono HB.out.size)); clear hb))
          go_ret
          exact ⟨ret_bool HR.out.symm, HB2.out⟩
      · rw [t1] at hbad
        have HR := Lib.hid (show v = true by have := hbad; simpa using this); clear hbad
        go_enter Tryz.func157, Tryz.ntmps157
        go_wp2_with (first | (go_at_call 138; go_must (refine (byte_v s 58 _ (k : Int) _ rfl HI.out).mono ?_); rintro e w0 ⟨rfl, rfl⟩) | (go_at_call 105; go_must (refine (any_v s _ (j : Int) _ hs (by decide) (by decide) asc_three HJ.out).mono ?_); rintro e w1 ⟨rfl, hb⟩; have HB := Lib.hid hb; clear hb) | (go_at_call 42; go_must (refine (lower_q2 _ x _ HS.out HX.out).mono ?_); rintro e w2 ⟨rfl, hb⟩; have HB2 := Lib.hid (HB.out.trans (hb.mono HB.out.size)); clear hb))
        go_ret
        exact ⟨ret_bool HR.out.symm, HB2.out⟩

end Go.Proofs.YtikijmjcmpkkdaaGreatDoor
