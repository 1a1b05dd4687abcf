/-
  Addresses and paths: ship.Address, ship.Path, mastref1.AddressOf, mastref1.PathOf.
-/
import Derived.Test.YtmcelgokchhpfaaGreatDoorPaths
import Derived.Lib.SmallJoins
namespace Go.Proofs.YtmcelgokchhpfaaGreatDoor
open Go.RowKit Go.Deep

/-- index.html -/
def idx : List UInt8 := [105, 110, 100, 101, 120, 46, 104, 116, 109, 108]
def addrL (l : List UInt8) : List UInt8 := if Lib.hasSuffix (47 :: l) (47 :: idx) then (47 :: l).take (l.length - 9) else 47 :: l
def addrS (s : ByteArray) : ByteArray := ⟨(if pathB s then addrL s.data.toList else []).toArray⟩
def errI (b : Bool) : Int := if b then 0 else 3
theorem addrS_no {s : ByteArray} (h : pathB s = false) : addrS s = ⟨#[]⟩ := by rw [addrS, h]; rfl
theorem addrS_yes {s : ByteArray} (h : pathB s = true) : (addrS s).data.toList = addrL s.data.toList := by rw [addrS, h]; rfl
def pathS (s : ByteArray) : ByteArray := if Lib.hasSuffix s.data.toList [47] then s.extract 1 s.size ++ ⟨#[105, 110, 100, 101, 120, 46, 104, 116, 109, 108]⟩ else s.extract 1 s.size

theorem hasSuffix_v (s p : ByteArray) (v : Bool) (w : World) (hs : s.size ≤ 9223372036854775807) (h : Lib.hasSuffix s.data.toList p.data.toList = v) :
    Calls Tryz.prog 23 #[.string s, .string p] w fun e w' => e = .returned (.bool v) ∧ w = w' := by
  subst h
  exact (Tryz.strings_HasSuffix s p w hs).mono fun e w' ⟨h1, h2⟩ => ⟨h1, h2.symm⟩
theorem hasPrefix_v (s p : ByteArray) (v : Bool) (w : World) (h : Lib.hasPrefix s.data.toList p.data.toList = v) :
    Calls Tryz.prog 22 #[.string s, .string p] w fun e w' => e = .returned (.bool v) ∧ w = w' := by
  subst h
  exact (Tryz.strings_HasPrefix s p w).mono fun e w' ⟨h1, h2⟩ => ⟨h1, h2.symm⟩
theorem ret_sp {a a' : ByteArray} {n n' : Int} (h : a.data.toList = a'.data.toList) (hn : n = n') : Ending.returned (.tuple #[.string a, .int .i64 n]) = .returned (.tuple #[.string a', .int .i64 n']) := by
  rw [Go.WideShapes.bytes_inj h, hn]
theorem app_list (a b : ByteArray) : (a ++ b).data.toList = a.data.toList ++ b.data.toList := by simp
theorem path_size {s : ByteArray} (h : pathB s = true) : s.size ≤ 200 := by
  simp only [pathB, Bool.and_eq_true, decide_eq_true_eq] at h
  exact h.1
theorem suf_cons (l : List UInt8) (c : UInt8) (p : List UInt8) : Lib.hasSuffix (c :: l) p = (p == c :: l || Lib.hasSuffix l p) := by
  rw [Bool.eq_iff_iff]
  simp only [Lib.hasSuffix, Bool.or_eq_true, beq_iff_eq, List.isSuffixOf_iff_suffix, List.suffix_cons_iff]
theorem suf_idx {l : List UInt8} (h : Lib.hasSuffix l (47 :: idx) = true) : 11 ≤ l.length := by
  simp only [Lib.hasSuffix, List.isSuffixOf_iff_suffix] at h
  have := h.length_le
  simpa [idx] using this

/-- the path of an address: does it have one, and which -/
def pathV (s : ByteArray) : Bool := Lib.hasPrefix s.data.toList [47] && pathB (pathS s)
def pathR (s : ByteArray) : ByteArray := if pathV s then pathS s else ⟨#[]⟩
theorem pathV_pre {s : ByteArray} (h : Lib.hasPrefix s.data.toList [47] = false) : pathV s = false := by rw [pathV, h]; rfl
theorem pathV_of {s x : ByteArray} {v : Bool} (h : Lib.hasPrefix s.data.toList [47] = true) (hx : pathS s = x) (hv : pathB x = v) : pathV s = v := by rw [pathV, h, hx, hv]; rfl
theorem pathR_no {s : ByteArray} (h : pathV s = false) : pathR s = ⟨#[]⟩ := by rw [pathR, h]; rfl
theorem pathR_yes {s x : ByteArray} (h : pathV s = true) (hx : pathS s = x) : pathR s = x := by rw [pathR, h, ← hx]; rfl
theorem pre_form {s : ByteArray} (h : Lib.hasPrefix s.data.toList [47] = true) : s.data.toList = 47 :: (s.extract 1 s.size).data.toList ∧ 1 ≤ s.size := by
  have h2 : s.data.toList.length = s.size := size_toList s
  rw [Lib.extract_data]
  cases hs : s.data.toList with
  | nil => rw [hs] at h; cases h
  | cons a r =>
    rw [hs] at h h2
    have ha : 47 = a := by simpa [Lib.hasPrefix, List.isPrefixOf] using h
    subst ha
    simp only [List.length_cons] at h2
    refine ⟨?_, by omega⟩
    rw [List.drop_succ_cons, List.drop_zero, List.take_of_length_le (by omega)]
theorem ext1_size {s : ByteArray} : (s.extract 1 s.size).size ≤ s.size := by rw [ByteArray.size_extract]; omega
theorem pathS_suf {s : ByteArray} (h : Lib.hasSuffix s.data.toList [47] = true) : pathS s = s.extract 1 s.size ++ ⟨#[105, 110, 100, 101, 120, 46, 104, 116, 109, 108]⟩ := by rw [pathS, h]; rfl
theorem pathS_not {s : ByteArray} (h : Lib.hasSuffix s.data.toList [47] = false) : pathS s = s.extract 1 s.size := by rw [pathS, h]; rfl
theorem app_size (a b : ByteArray) : (a ++ b).size = a.size + b.size := by simp

set_option maxHeartbeats 1000000 in
theorem shipPathOf_any (s : ByteArray) (v : Bool) (hv : pathV s = v) (m : Int) (w : World) (hs : s.size ≤ 1048576) (hm : w.cell? ⟨1, 0, none⟩ = some (.int .i64 m)) :
    Calls Tryz.prog 7 #[.string s] w fun e w' => e = .returned (.tuple #[.string (pathR s), .int .i64 (errI v)]) ∧ Below w.heap.size w w' := by
  have HM := Lib.hid hm; clear hm
  cases hpre : Lib.hasPrefix s.data.toList [47]
  · obtain rfl : false = v := by rw [← hv, pathV_pre hpre]
    have HPre := Lib.hid (show Lib.hasPrefix s.data.toList (⟨#[47]⟩ : ByteArray).data.toList = false from hpre); clear hpre
    have HV := Lib.hid hv; clear hv
    go_enter Tryz.func7, Tryz.ntmps7
    go_wp2_with (go_at_call 22; go_must (refine (hasPrefix_v _ _ false _ HPre.out).mono ?_); rintro e w1 ⟨rfl, rfl⟩)
    go_ret2
    exact ⟨ret_sp (by rw [pathR_no HV.out]) rfl, Below.refl _ _⟩
  · obtain ⟨hform, h1⟩ := pre_form hpre
    have hsc := suf_cons (s.extract 1 s.size).data.toList 47 [47]
    rw [← hform] at hsc
    have hes : (s.extract 1 s.size).size ≤ s.size := ext1_size
    have HPre := Lib.hid (show Lib.hasPrefix s.data.toList (⟨#[47]⟩ : ByteArray).data.toList = true from hpre)
    have HV := Lib.hid hv; clear hv
    by_cases hnil : (s.extract 1 s.size).data.toList = []
    · have f1 : (s.extract 1 s.size).toList = [] := by rw [Go.ByteArray.toList_eq]; exact hnil
      rw [hnil] at hsc
      have HX := Lib.hid (pathS_suf (s := s) (by rw [hsc, hform, hnil]; rfl))
      clear hsc hform hnil
      cases v
      · have HQ := Lib.hid (show pathB (s.extract 1 s.size ++ ⟨#[105, 110, 100, 101, 120, 46, 104, 116, 109, 108]⟩) = false by have := pathV_of hpre HX.out rfl; rw [← this]; exact HV.out)
        clear hpre
        go_enter Tryz.func7, Tryz.ntmps7
        go_wp2_with (first
          | (go_at_call 22; go_must (refine (hasPrefix_v _ _ true _ HPre.out).mono ?_); rintro e w1 ⟨rfl, rfl⟩)
          | fail
          | (go_at_call 24; go_must (refine (shipPath_any _ false m _ HM.out HQ.out).mono ?_); rintro e w1 ⟨rfl, hb⟩; have HB := Lib.hid hb; clear hb))
        go_ret2
        exact ⟨ret_sp (by rw [pathR_no HV.out]) rfl, HB.out⟩
      · have HQ := Lib.hid (show pathB (s.extract 1 s.size ++ ⟨#[105, 110, 100, 101, 120, 46, 104, 116, 109, 108]⟩) = true by have := pathV_of hpre HX.out rfl; rw [← this]; exact HV.out)
        clear hpre
        go_enter Tryz.func7, Tryz.ntmps7
        go_wp2_with (first
          | (go_at_call 22; go_must (refine (hasPrefix_v _ _ true _ HPre.out).mono ?_); rintro e w1 ⟨rfl, rfl⟩)
          | fail
          | (go_at_call 24; go_must (refine (shipPath_any _ true m _ HM.out HQ.out).mono ?_); rintro e w1 ⟨rfl, hb⟩; have HB := Lib.hid hb; clear hb))
        go_ret2
        exact ⟨ret_sp (by rw [pathR_yes HV.out HX.out]) rfl, HB.out⟩
    have f1 : (s.extract 1 s.size).toList.isEmpty = false := by
      have h2 : ¬ (s.extract 1 s.size).toList = [] := by rw [Go.ByteArray.toList_eq]; exact hnil
      cases hq : (s.extract 1 s.size).toList with | nil => exact absurd hq h2 | cons a r => rfl
    have hne : ([47] == s.data.toList) = false := by
      rw [hform]
      cases hq : (s.extract 1 s.size).data.toList with | nil => exact absurd hq hnil | cons a r => rfl
    rw [hne, Bool.false_or] at hsc
    clear hne hform hnil
    cases hsu : Lib.hasSuffix (s.extract 1 s.size).data.toList [47]
    · have HX := Lib.hid (pathS_not (s := s) (by rw [hsc]; exact hsu))
      have HS := Lib.hid (show Lib.hasSuffix (s.extract 1 s.size).data.toList (⟨#[47]⟩ : ByteArray).data.toList = false from hsu)
      clear hsc hsu
      cases v
      · have HQ := Lib.hid (show pathB (s.extract 1 s.size) = false by have := pathV_of hpre HX.out rfl; rw [← this]; exact HV.out)
        clear hpre
        go_enter Tryz.func7, Tryz.ntmps7
        go_wp2_with (first
          | (go_at_call 22; go_must (refine (hasPrefix_v _ _ true _ HPre.out).mono ?_); rintro e w1 ⟨rfl, rfl⟩)
          | (go_at_call 23; go_must (refine (hasSuffix_v _ _ false _ (by omega) HS.out).mono ?_); rintro e w1 ⟨rfl, rfl⟩)
          | (go_at_call 24; go_must (refine (shipPath_any _ false m _ HM.out HQ.out).mono ?_); rintro e w1 ⟨rfl, hb⟩; have HB := Lib.hid hb; clear hb))
        go_ret2
        exact ⟨ret_sp (by rw [pathR_no HV.out]) rfl, HB.out⟩
      · have HQ := Lib.hid (show pathB (s.extract 1 s.size) = true by have := pathV_of hpre HX.out rfl; rw [← this]; exact HV.out)
        clear hpre
        go_enter Tryz.func7, Tryz.ntmps7
        go_wp2_with (first
          | (go_at_call 22; go_must (refine (hasPrefix_v _ _ true _ HPre.out).mono ?_); rintro e w1 ⟨rfl, rfl⟩)
          | (go_at_call 23; go_must (refine (hasSuffix_v _ _ false _ (by omega) HS.out).mono ?_); rintro e w1 ⟨rfl, rfl⟩)
          | (go_at_call 24; go_must (refine (shipPath_any _ true m _ HM.out HQ.out).mono ?_); rintro e w1 ⟨rfl, hb⟩; have HB := Lib.hid hb; clear hb))
        go_ret2
        exact ⟨ret_sp (by rw [pathR_yes HV.out HX.out]) rfl, HB.out⟩
    · have HX := Lib.hid (pathS_suf (s := s) (by rw [hsc]; exact hsu))
      have HS := Lib.hid (show Lib.hasSuffix (s.extract 1 s.size).data.toList (⟨#[47]⟩ : ByteArray).data.toList = true from hsu)
      clear hsc hsu
      cases v
      · have HQ := Lib.hid (show pathB (s.extract 1 s.size ++ ⟨#[105, 110, 100, 101, 120, 46, 104, 116, 109, 108]⟩) = false by have := pathV_of hpre HX.out rfl; rw [← this]; exact HV.out)
        clear hpre
        go_enter Tryz.func7, Tryz.ntmps7
        go_wp2_with (first
          | (go_at_call 22; go_must (refine (hasPrefix_v _ _ true _ HPre.out).mono ?_); rintro e w1 ⟨rfl, rfl⟩)
          | (go_at_call 23; go_must (refine (hasSuffix_v _ _ true _ (by omega) HS.out).mono ?_); rintro e w1 ⟨rfl, rfl⟩)
          | (go_at_call 24; go_must (refine (shipPath_any _ false m _ HM.out HQ.out).mono ?_); rintro e w1 ⟨rfl, hb⟩; have HB := Lib.hid hb; clear hb))
        go_ret2
        exact ⟨ret_sp (by rw [pathR_no HV.out]) rfl, HB.out⟩
      · have HQ := Lib.hid (show pathB (s.extract 1 s.size ++ ⟨#[105, 110, 100, 101, 120, 46, 104, 116, 109, 108]⟩) = true by have := pathV_of hpre HX.out rfl; rw [← this]; exact HV.out)
        clear hpre
        go_enter Tryz.func7, Tryz.ntmps7
        go_wp2_with (first
          | (go_at_call 22; go_must (refine (hasPrefix_v _ _ true _ HPre.out).mono ?_); rintro e w1 ⟨rfl, rfl⟩)
          | (go_at_call 23; go_must (refine (hasSuffix_v _ _ true _ (by omega) HS.out).mono ?_); rintro e w1 ⟨rfl, rfl⟩)
          | (go_at_call 24; go_must (refine (shipPath_any _ true m _ HM.out HQ.out).mono ?_); rintro e w1 ⟨rfl, hb⟩; have HB := Lib.hid hb; clear hb))
        go_ret2
        exact ⟨ret_sp (by rw [pathR_yes HV.out HX.out]) rfl, HB.out⟩

set_option maxHeartbeats 1000000 in
theorem refPathOf_any (s : ByteArray) (v : Bool) (hv : pathV s = v) (m : Int) (w : World) (hs : s.size ≤ 1048576) (hm : w.cell? ⟨1, 0, none⟩ = some (.int .i64 m)) :
    Calls Tryz.prog 36 #[.string s] w fun e w' => e = .returned (.tuple #[.string (pathR s), .int .i64 (errI v)]) ∧ Below w.heap.size w w' := by
  have HM := Lib.hid hm; clear hm
  cases hpre : Lib.hasPrefix s.data.toList [47]
  · obtain rfl : false = v := by rw [← hv, pathV_pre hpre]
    have HPre := Lib.hid (show Lib.hasPrefix s.data.toList (⟨#[47]⟩ : ByteArray).data.toList = false from hpre); clear hpre
    have HV := Lib.hid hv; clear hv
    go_enter Tryz.func36, Tryz.ntmps36
    go_wp2_with (go_at_call 22; go_must (refine (hasPrefix_v _ _ false _ HPre.out).mono ?_); rintro e w1 ⟨rfl, rfl⟩)
    go_ret2
    exact ⟨ret_sp (by rw [pathR_no HV.out]) rfl, Below.refl _ _⟩
  · obtain ⟨hform, h1⟩ := pre_form hpre
    have hsc := suf_cons (s.extract 1 s.size).data.toList 47 [47]
    rw [← hform] at hsc
    have hes : (s.extract 1 s.size).size ≤ s.size := ext1_size
    have HPre := Lib.hid (show Lib.hasPrefix s.data.toList (⟨#[47]⟩ : ByteArray).data.toList = true from hpre)
    have HV := Lib.hid hv; clear hv
    clear hsc hform
    cases hsu : Lib.hasSuffix s.data.toList [47]
    · have HX := Lib.hid (pathS_not hsu)
      have HS := Lib.hid (show Lib.hasSuffix s.data.toList (⟨#[47]⟩ : ByteArray).data.toList = false from hsu)
      clear hsu
      cases v
      · have HQ := Lib.hid (show pathB (s.extract 1 s.size) = false by have := pathV_of hpre HX.out rfl; rw [← this]; exact HV.out)
        clear hpre
        go_enter Tryz.func36, Tryz.ntmps36
        go_wp2_with (first
          | (go_at_call 22; go_must (refine (hasPrefix_v _ _ true _ HPre.out).mono ?_); rintro e w1 ⟨rfl, rfl⟩)
          | (go_at_call 23; go_must (refine (hasSuffix_v _ _ false _ (by omega) HS.out).mono ?_); rintro e w1 ⟨rfl, rfl⟩)
          | (go_at_call 68; go_must (refine (refPath_any _ false m _ HM.out HQ.out).mono ?_); rintro e w1 ⟨rfl, hb⟩; have HB := Lib.hid hb; clear hb))
        go_ret2
        exact ⟨ret_sp (by rw [pathR_no HV.out]) rfl, HB.out⟩
      · have HQ := Lib.hid (show pathB (s.extract 1 s.size) = true by have := pathV_of hpre HX.out rfl; rw [← this]; exact HV.out)
        clear hpre
        go_enter Tryz.func36, Tryz.ntmps36
        go_wp2_with (first
          | (go_at_call 22; go_must (refine (hasPrefix_v _ _ true _ HPre.out).mono ?_); rintro e w1 ⟨rfl, rfl⟩)
          | (go_at_call 23; go_must (refine (hasSuffix_v _ _ false _ (by omega) HS.out).mono ?_); rintro e w1 ⟨rfl, rfl⟩)
          | (go_at_call 68; go_must (refine (refPath_any _ true m _ HM.out HQ.out).mono ?_); rintro e w1 ⟨rfl, hb⟩; have HB := Lib.hid hb; clear hb))
        go_ret2
        exact ⟨ret_sp (by rw [pathR_yes HV.out HX.out]) rfl, HB.out⟩
    · have HX := Lib.hid (pathS_suf hsu)
      have HS := Lib.hid (show Lib.hasSuffix s.data.toList (⟨#[47]⟩ : ByteArray).data.toList = true from hsu)
      clear hsu
      cases v
      · have HQ := Lib.hid (show pathB (s.extract 1 s.size ++ ⟨#[105, 110, 100, 101, 120, 46, 104, 116, 109, 108]⟩) = false by have := pathV_of hpre HX.out rfl; rw [← this]; exact HV.out)
        clear hpre
        go_enter Tryz.func36, Tryz.ntmps36
        go_wp2_with (first
          | (go_at_call 22; go_must (refine (hasPrefix_v _ _ true _ HPre.out).mono ?_); rintro e w1 ⟨rfl, rfl⟩)
          | (go_at_call 23; go_must (refine (hasSuffix_v _ _ true _ (by omega) HS.out).mono ?_); rintro e w1 ⟨rfl, rfl⟩)
          | (go_at_call 68; go_must (refine (refPath_any _ false m _ HM.out HQ.out).mono ?_); rintro e w1 ⟨rfl, hb⟩; have HB := Lib.hid hb; clear hb))
        go_ret2
        exact ⟨ret_sp (by rw [pathR_no HV.out]) rfl, HB.out⟩
      · have HQ := Lib.hid (show pathB (s.extract 1 s.size ++ ⟨#[105, 110, 100, 101, 120, 46, 104, 116, 109, 108]⟩) = true by have := pathV_of hpre HX.out rfl; rw [← this]; exact HV.out)
        clear hpre
        go_enter Tryz.func36, Tryz.ntmps36
        go_wp2_with (first
          | (go_at_call 22; go_must (refine (hasPrefix_v _ _ true _ HPre.out).mono ?_); rintro e w1 ⟨rfl, rfl⟩)
          | (go_at_call 23; go_must (refine (hasSuffix_v _ _ true _ (by omega) HS.out).mono ?_); rintro e w1 ⟨rfl, rfl⟩)
          | (go_at_call 68; go_must (refine (refPath_any _ true m _ HM.out HQ.out).mono ?_); rintro e w1 ⟨rfl, hb⟩; have HB := Lib.hid hb; clear hb))
        go_ret2
        exact ⟨ret_sp (by rw [pathR_yes HV.out HX.out]) rfl, HB.out⟩

end Go.Proofs.YtmcelgokchhpfaaGreatDoor
