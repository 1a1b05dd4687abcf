/-
  mastref1.SlugOf: an id made of a string, the reference's way.
-/
import Derived.Laws.Strings2
import Derived.Test.YtikijmjcmpkkdaaGreatDoorSlug
import Derived.Test.YtikijmjcmpkkdaaGreatDoorShelf
namespace Go.Proofs.YtikijmjcmpkkdaaGreatDoor
open Go.RowKit Go.Deep

theorem isDigit_r (n : Int) (v : Bool) (w : World) (h : decide (48 ≤ n ∧ n ≤ 57) = v) : Calls Tryz.prog 43 #[.int .u8 n] w fun e w' => e = .returned (.bool v) ∧ w = w' := by
  subst h
  go_enter Tryz.func43, Tryz.ntmps43
  go_wp2_with fail
  all_goals
    go_ret
    refine ⟨ret_bool ?_, rfl⟩
    rw [Bool.eq_iff_iff]
    simp
    try omega

theorem suffix_v (s : ByteArray) (v : Bool) (w : World) (hs : s.size ≤ 1048577) (h : endsD s.data.toList = v) : Calls Tryz.prog 44 #[.string s, .string ⟨#[45]⟩] w fun e w' => e = .returned (.bool v) ∧ w = w' :=
  (Tryz.strings_HasSuffix s ⟨#[45]⟩ w (by omega)).mono fun _ _ ⟨he, hw⟩ => ⟨by rw [he, ← h, ← hasSuffix_one], hw.symm⟩

theorem trim_v (s : ByteArray) (w : World) (hs : s.size ≤ 1048577) : Calls Tryz.prog 45 #[.string s, .string ⟨#[45]⟩] w fun e w' => e = .returned (.string ⟨(Lib.trimB s.data.toList 45).toArray⟩) ∧ Below w.heap.size w w' :=
  (Tryz.strings_Trim_one s 45 (by decide) w (by omega)).mono fun _ _ ⟨he, hw⟩ => ⟨he, by rcases hw with rfl | rfl; exact Below.refl _ _; exact (Below.refl _ _).drew⟩

theorem lower_v (s : ByteArray) (c : UInt8) (w : World) (h : s.data.toList = [c]) : Calls Tryz.prog 42 #[.string s] w fun e w' => ∃ z : ByteArray, e = .returned (.string z) ∧ z.data.toList = [lowerB c] ∧ Below w.heap.size w w' :=
  (refLower_any s w (by rw [← size_toList, h]; simp)).mono fun _ _ ⟨he, hb⟩ => ⟨_, he, by rw [h]; rfl, hb⟩

theorem zero_of {z : ByteArray} {d : UInt8} (h : z.data.toList = [d]) : ∃ h0 : 0 < z.size, z[0] = d := by
  have h0 : 0 < z.size := by rw [← size_toList, h]; simp
  refine ⟨h0, ?_⟩
  have h1 := byteAt' h0
  rw [h] at h1
  simpa using h1.symm

theorem extract_one {s : ByteArray} {k : Nat} (hlt : k < s.size) : (s.extract k (k + 1)).data.toList = [s[k]] := by
  rw [ByteArray.data_extract, Array.toList_extract]
  have h := byteAt' hlt
  obtain ⟨h1, h2⟩ := List.getElem?_eq_some_iff.1 h
  simp only [List.extract]
  rw [List.drop_eq_getElem_cons h1, h2]
  simp

set_option maxRecDepth 100000 in
set_option maxHeartbeats 4000000 in
theorem slugOf_any (s : ByteArray) (w : World) (hs : s.size ≤ 1048576) : Calls Tryz.prog 23 #[.string s] w fun e w' => e = .returned (.string ⟨(Lib.trimB (refF s.data.toList) 45).toArray⟩) ∧ Below w.heap.size w w' := by
  go_enter Tryz.func23, Tryz.ntmps23
  go_wp2_with fail
  go_loopw [3, 4] (fun t3 t wr => ∃ (k : Nat) (u : ByteArray), k ≤ s.size ∧ t = .int .i64 k ∧ t3 = .string u ∧ u.size ≤ k ∧ Hid (u.data.toList = refF (s.data.toList.take k)) ∧ Hid (Below w.heap.size w wr)) (fun _ t _ => s.size - (intOf t).toNat)
  case atStart => exact ⟨0, ⟨#[]⟩, Nat.zero_le _, rfl, rfl, Nat.le_refl _, rfl, Below.refl _ _⟩
  case round =>
    obtain ⟨k, u, hk, rfl, rfl, huk, hu, hbel⟩ := hrel
    by_cases hlt : k < s.size
    · have HTk := Lib.hid (refF_take (byteAt' hlt))
      have hcut1 : (k : Int) + 1 ≤ (s.size : Int) := by omega
      have hcut2 : (k : Int) ≤ (k : Int) + 1 := by omega
      have HEx := Lib.hid (extract_one hlt)
      obtain ⟨d, hd⟩ : ∃ d, lowerB s[k] = d := ⟨_, rfl⟩
      rcases slug_cases s[k] with ⟨h1, h2, hq, hg⟩ | ⟨h1, h2, hq, hg⟩ | ⟨h1, h2, hq, hg⟩ | ⟨h1, hq, hg⟩ | ⟨⟨lo, hi, hlh, h1, h2⟩, hg⟩
      · have HD := Lib.hid hd
        have HSt := Lib.hid (show refStep u.data.toList s[k] = u.data.toList ++ [d] by unfold refStep; rw [if_pos hg, hd])
        rw [hd] at hq
        have f1 : 97 ≤ (d.toNat : Int) := by omega
        have f2 : (d.toNat : Int) ≤ 122 := by omega
        clear hd hg hq h1 h2
        go_wp2_with fail
        go_must (refine (lower_v _ s[k] _ HEx.out).mono ?_)
        rw [HD.out]
        rintro e w1 ⟨z, rfl, hz, hb1⟩
        obtain ⟨hz0, hzd⟩ := zero_of hz
        clear hz
        subst hzd
        have HB1 := Lib.hid (hbel.out.trans (hb1.mono hbel.out.size)); clear hb1
        have hcv := conv_one w1 z[0]
        go_wp2_with fail
        all_goals first
          | (exfalso; omega)
          | (go_roundw
             case rel => exact ⟨k + 1, u ++ ⟨#[z[0]]⟩, by omega, by go_num, rfl, by rw [ByteArray.size_append]; show u.size + 1 ≤ _; omega, (show _ = _ by rw [HTk.out, ← hu.out, HSt.out]; simp), HB1.out.alloc HB1.out.size _⟩
             case measure => simp [intOf]; omega)
      · have HD := Lib.hid hd
        have HSt := Lib.hid (show refStep u.data.toList s[k] = u.data.toList ++ [d] by unfold refStep; rw [if_pos hg, hd])
        rw [hd] at hq
        have f1 : 97 ≤ (d.toNat : Int) := by omega
        have f2 : (d.toNat : Int) ≤ 122 := by omega
        clear hd hg hq h1 h2
        go_wp2_with fail
        go_must (refine (lower_v _ s[k] _ HEx.out).mono ?_)
        rw [HD.out]
        rintro e w1 ⟨z, rfl, hz, hb1⟩
        obtain ⟨hz0, hzd⟩ := zero_of hz
        clear hz
        subst hzd
        have HB1 := Lib.hid (hbel.out.trans (hb1.mono hbel.out.size)); clear hb1
        have hcv := conv_one w1 z[0]
        go_wp2_with fail
        all_goals first
          | (exfalso; omega)
          | (go_roundw
             case rel => exact ⟨k + 1, u ++ ⟨#[z[0]]⟩, by omega, by go_num, rfl, by rw [ByteArray.size_append]; show u.size + 1 ≤ _; omega, (show _ = _ by rw [HTk.out, ← hu.out, HSt.out]; simp), HB1.out.alloc HB1.out.size _⟩
             case measure => simp [intOf]; omega)
      · have HD := Lib.hid hd
        have HSt := Lib.hid (show refStep u.data.toList s[k] = u.data.toList ++ [d] by unfold refStep; rw [if_pos hg, hd])
        rw [hd] at hq
        have f1 : 48 ≤ (d.toNat : Int) := by omega
        have f2 : (d.toNat : Int) ≤ 57 := by omega
        clear hd hg hq h1 h2
        go_wp2_with fail
        go_must (refine (lower_v _ s[k] _ HEx.out).mono ?_)
        rw [HD.out]
        rintro e w1 ⟨z, rfl, hz, hb1⟩
        obtain ⟨hz0, hzd⟩ := zero_of hz
        clear hz
        subst hzd
        have HB1 := Lib.hid (hbel.out.trans (hb1.mono hbel.out.size)); clear hb1
        have hcv := conv_one w1 z[0]
        go_wp2_with (go_at_call 43; go_must (refine (isDigit_r _ true _ (by simp; omega)).mono ?_); rintro e w2 ⟨rfl, rfl⟩)
        all_goals first
          | (exfalso; omega)
          | (go_roundw
             case rel => exact ⟨k + 1, u ++ ⟨#[z[0]]⟩, by omega, by go_num, rfl, by rw [ByteArray.size_append]; show u.size + 1 ≤ _; omega, (show _ = _ by rw [HTk.out, ← hu.out, HSt.out]; simp), HB1.out.alloc HB1.out.size _⟩
             case measure => simp [intOf]; omega)
      · have HD := Lib.hid hd
        have HSt := Lib.hid (show refStep u.data.toList s[k] = u.data.toList ++ [d] by unfold refStep; rw [if_pos hg, hd])
        rw [hd] at hq
        have f1 : 128 ≤ (d.toNat : Int) := by omega
        clear hd hg hq h1
        go_wp2_with fail
        go_must (refine (lower_v _ s[k] _ HEx.out).mono ?_)
        rw [HD.out]
        rintro e w1 ⟨z, rfl, hz, hb1⟩
        obtain ⟨hz0, hzd⟩ := zero_of hz
        clear hz
        subst hzd
        have HB1 := Lib.hid (hbel.out.trans (hb1.mono hbel.out.size)); clear hb1
        have hcv := conv_one w1 z[0]
        go_wp2_with (go_at_call 43; go_must (refine (isDigit_r _ false _ (by simp; omega)).mono ?_); rintro e w2 ⟨rfl, rfl⟩)
        all_goals first
          | (exfalso; omega)
          | (go_roundw
             case rel => exact ⟨k + 1, u ++ ⟨#[z[0]]⟩, by omega, by go_num, rfl, by rw [ByteArray.size_append]; show u.size + 1 ≤ _; omega, (show _ = _ by rw [HTk.out, ← hu.out, HSt.out]; simp), HB1.out.alloc HB1.out.size _⟩
             case measure => simp [intOf]; omega)
      · have hdq : (d.toNat : Int) = (s[k].toNat : Int) := by
          rw [← hd]
          unfold lowerB
          rw [if_neg (by omega)]
        have hf : ∃ lo hi : Int, ((lo = 0 ∧ hi = 47) ∨ (lo = 58 ∧ hi = 64) ∨ (lo = 91 ∧ hi = 96) ∨ (lo = 123 ∧ hi = 127)) ∧ lo ≤ (d.toNat : Int) ∧ (d.toNat : Int) ≤ hi := ⟨lo, hi, hlh, by omega, by omega⟩
        clear hlh h1 h2 hdq
        obtain ⟨lo, hi, hlh, h1, h2⟩ := hf
        have HD := Lib.hid hd; clear hd
        have HG := Lib.hid hg; clear hg
        have husz : u.size ≤ 1048577 := by omega
        cases he : endsD u.data.toList
        · have HSt := Lib.hid (show refStep u.data.toList s[k] = u.data.toList ++ [45] by unfold refStep; rw [if_neg (by rw [HG.out]; simp), he, if_neg (by simp)])
          have HE := Lib.hid he; clear he
          rcases hlh with ⟨rfl, rfl⟩ | ⟨rfl, rfl⟩ | ⟨rfl, rfl⟩ | ⟨rfl, rfl⟩
          all_goals
            go_wp2_with fail
            go_must (refine (lower_v _ s[k] _ HEx.out).mono ?_)
            rw [HD.out]
            rintro e w1 ⟨z, rfl, hz, hb1⟩
            obtain ⟨hz0, hzd⟩ := zero_of hz
            clear hz
            subst hzd
            have HB1 := Lib.hid (hbel.out.trans (hb1.mono hbel.out.size)); clear hb1
            go_wp2_with (first
              | (go_at_call 43; go_must (refine (isDigit_r _ false _ (by simp; omega)).mono ?_); rintro e w2 ⟨rfl, rfl⟩)
              | (go_at_call 44; go_must (refine (suffix_v _ false _ husz HE.out).mono ?_); rintro e w2 ⟨rfl, rfl⟩))
            all_goals first
              | (exfalso; omega)
              | (go_roundw
                 case rel => exact ⟨k + 1, u ++ ⟨#[45]⟩, by omega, by go_num, rfl, by rw [ByteArray.size_append]; show u.size + 1 ≤ _; omega, (show _ = _ by rw [HTk.out, ← hu.out, HSt.out]; simp), HB1⟩
                 case measure => simp [intOf]; omega)
        · have HSt := Lib.hid (show refStep u.data.toList s[k] = u.data.toList by unfold refStep; rw [if_neg (by rw [HG.out]; simp), he, if_pos rfl])
          have HE := Lib.hid he; clear he
          rcases hlh with ⟨rfl, rfl⟩ | ⟨rfl, rfl⟩ | ⟨rfl, rfl⟩ | ⟨rfl, rfl⟩
          all_goals
            go_wp2_with fail
            go_must (refine (lower_v _ s[k] _ HEx.out).mono ?_)
            rw [HD.out]
            rintro e w1 ⟨z, rfl, hz, hb1⟩
            obtain ⟨hz0, hzd⟩ := zero_of hz
            clear hz
            subst hzd
            have HB1 := Lib.hid (hbel.out.trans (hb1.mono hbel.out.size)); clear hb1
            go_wp2_with (first
              | (go_at_call 43; go_must (refine (isDigit_r _ false _ (by simp; omega)).mono ?_); rintro e w2 ⟨rfl, rfl⟩)
              | (go_at_call 44; go_must (refine (suffix_v _ true _ husz HE.out).mono ?_); rintro e w2 ⟨rfl, rfl⟩))
            all_goals first
              | (exfalso; omega)
              | (go_roundw
                 case rel => exact ⟨k + 1, u, by omega, by go_num, rfl, by omega, (show _ = _ by rw [HTk.out, ← hu.out, HSt.out]), HB1⟩
                 case measure => simp [intOf]; omega)
    · have HF := Lib.hid (show u.data.toList = refF s.data.toList by rw [hu.out, List.take_of_length_le (by rw [size_toList]; omega)])
      have husz : u.size ≤ 1048577 := by omega
      go_wp2_with fail
      go_must (refine (trim_v u _ husz).mono ?_)
      rw [HF.out]
      rintro e w1 ⟨rfl, hb1⟩
      have HB1 := Lib.hid (hbel.out.trans (hb1.mono hbel.out.size)); clear hb1
      go_wp2_with fail
      go_ret
      exact ⟨rfl, HB1.out⟩

end Go.Proofs.YtikijmjcmpkkdaaGreatDoor
