/-
  mark.Slug: an id made of a string.
-/
import Derived.Test.YtikijmjcmpkkdaaGreatDoorSlugPlain
import Derived.Test.YtikijmjcmpkkdaaGreatDoorConv
import Derived.BigQuiet
import Derived.Deep.DeepMust
import Derived.Outline
namespace Go.Proofs.YtikijmjcmpkkdaaGreatDoor
open Go.RowKit Go.Deep

theorem isDigit_m (n : Int) (v : Bool) (w : World) (h : decide (48 ≤ n ∧ n ≤ 57) = v) : Calls Tryz.prog 64 #[.int .u8 n] w fun e w' => e = .returned (.bool v) ∧ w = w' := by
  subst h
  go_enter Tryz.func64, Tryz.ntmps64
  go_wp2_with fail
  all_goals
    go_ret
    refine ⟨ret_bool ?_, rfl⟩
    rw [Bool.eq_iff_iff]
    simp
    try omega

theorem ret_arr {a b : List UInt8} (h : a = b) : Ending.returned (.string ⟨a.toArray⟩) = .returned (.string ⟨b.toArray⟩) := by rw [h]

theorem byteAt' {s : ByteArray} {k : Nat} (hlt : k < s.size) : s.data.toList[k]? = some s[k] := by
  rw [List.getElem?_eq_getElem (by rw [size_toList]; exact hlt)]
  rfl

theorem slug_cases (c : UInt8) : (65 ≤ (c.toNat : Int) ∧ (c.toNat : Int) ≤ 90 ∧ ((lowerB c).toNat : Int) = (c.toNat : Int) + 32 ∧ goodB (lowerB c) = true) ∨
    (97 ≤ (c.toNat : Int) ∧ (c.toNat : Int) ≤ 122 ∧ ((lowerB c).toNat : Int) = (c.toNat : Int) ∧ goodB (lowerB c) = true) ∨
    (48 ≤ (c.toNat : Int) ∧ (c.toNat : Int) ≤ 57 ∧ ((lowerB c).toNat : Int) = (c.toNat : Int) ∧ goodB (lowerB c) = true) ∨
    (128 ≤ (c.toNat : Int) ∧ ((lowerB c).toNat : Int) = (c.toNat : Int) ∧ goodB (lowerB c) = true) ∨
    ((∃ lo hi : Int, ((lo = 0 ∧ hi = 47) ∨ (lo = 58 ∧ hi = 64) ∨ (lo = 91 ∧ hi = 96) ∨ (lo = 123 ∧ hi = 127)) ∧ lo ≤ (c.toNat : Int) ∧ (c.toNat : Int) ≤ hi) ∧ goodB (lowerB c) = false) := by
  have hlt := c.toNat_lt
  by_cases hA : 65 ≤ c.toNat ∧ c.toNat ≤ 90
  · have h1 : lowerB c = c + 32 := by unfold lowerB; rw [if_pos hA]
    have h2 : (c + 32).toNat = c.toNat + 32 := by rw [UInt8.toNat_add]; simp; omega
    left
    rw [h1]
    refine ⟨by omega, by omega, by omega, ?_⟩
    unfold goodB
    rw [h2]
    simp
    omega
  · have h1 : lowerB c = c := by unfold lowerB; rw [if_neg hA]
    rw [h1]
    right
    by_cases hB : 97 ≤ c.toNat ∧ c.toNat ≤ 122
    · left; exact ⟨by omega, by omega, rfl, by unfold goodB; simp; omega⟩
    · right
      by_cases hC : 48 ≤ c.toNat ∧ c.toNat ≤ 57
      · left; exact ⟨by omega, by omega, rfl, by unfold goodB; simp; omega⟩
      · right
        by_cases hD : 128 ≤ c.toNat
        · left; exact ⟨by omega, rfl, by unfold goodB; simp; omega⟩
        · right
          refine ⟨?_, by unfold goodB; simp; omega⟩
          by_cases i1 : c.toNat ≤ 47
          · exact ⟨0, 47, by simp, by omega, by omega⟩
          · by_cases i2 : c.toNat ≤ 64
            · exact ⟨58, 64, by simp, by omega, by omega⟩
            · by_cases i3 : c.toNat ≤ 96
              · exact ⟨91, 96, by simp, by omega, by omega⟩
              · exact ⟨123, 127, by simp, by omega, by omega⟩

theorem endsD_concat (P : List UInt8) (y : UInt8) (v : Bool) (h : ((y.toNat : Int) == 45) = v) : endsD (P ++ [y]) = v := by
  rw [ends_append_one, ← h, Bool.eq_iff_iff, decide_eq_true_iff, beq_iff_eq]
  constructor
  · rintro rfl; rfl
  · intro h; apply UInt8.toNat.inj; have : (45 : UInt8).toNat = 45 := rfl; omega

set_option maxRecDepth 100000 in
set_option maxHeartbeats 4000000 in
theorem slug_any (s : ByteArray) (w : World) (hs : s.size ≤ 1048576) : Calls Tryz.prog 37 #[.string s] w fun e w' => e = .returned (.string ⟨(slugEnd (slugF s.data.toList)).toArray⟩) ∧ Below w.heap.size w w' := by
  go_enter Tryz.func37, Tryz.ntmps37
  go_wp2_with fail
  go_loopw [3, 4] (fun t3 t wr => ∃ (k m : Nat) (Ao : Option Addr) (co : Nat) (cs : List UInt8), k ≤ s.size ∧ t = .int .i64 k ∧ t3 = .slice Ao m co ∧ m ≤ k ∧ Hid (cs = slugF (s.data.toList.take k)) ∧ Hid (wr.ownsRow w.heap.size 5 1 (.slice Ao m co) m (byteCells cs)) ∧ Hid (Below w.heap.size w wr)) (fun _ t _ => s.size - (intOf t).toNat)
  case atStart => exact ⟨0, 0, none, 0, [], Nat.zero_le _, rfl, rfl, Nat.le_refl _, rfl, World.ownsRow_nil _ _ _ _, Below.refl _ _⟩
  case round =>
    obtain ⟨k, m, Ao, co, cs, hk, rfl, rfl, hmk, hcs, hown, hbel⟩ := hrel
    by_cases hlt : k < s.size
    · have HTk := Lib.hid (slugF_take (byteAt' hlt))
      have hB := hbel.out.size
      rcases slug_cases s[k] with ⟨h1, h2, hd, hg⟩ | ⟨h1, h2, hd, hg⟩ | ⟨h1, h2, hd, hg⟩ | ⟨h1, hd, hg⟩ | ⟨⟨lo, hi, hlh, h1, h2⟩, hg⟩
      · skip
        have HSt := Lib.hid (show slugStep cs s[k] = cs ++ [lowerB s[k]] by unfold slugStep; rw [if_pos hg])
        have HD := Lib.hid hd; clear hd hg
        go_wp2_with (first
          | (at_builtin; have hh := own_alloc hown.out (.cells #[.int .u8 ((s[k].toNat : Int) + 32)] 5); have k1 : (m + 1) * 1 ≤ 140737488355328 := (by omega); have k2 : m + 1 ≤ maxLen := (by unfold maxLen; omega); have k3 : w.heap.size ≤ (wr.alloc (.cells #[.int .u8 ((s[k].toNat : Int) + 32)] 5)).heap.size := (by simp; omega); have k4 := cell_new wr [.int .u8 ((s[k].toNat : Int) + 32)] 5 wr.heap.size rfl; go_must (refine wpList_push _ rfl (.tmp 37) (.tmp 39) 53 rfl w.heap.size 5 (.int .u8 0) 1 1 Tryz.underlying53 info_byte2 rfl (by omega) (.slice Ao m co) m _ rfl hh [.int .u8 ((s[k].toNat : Int) + 32)] rfl _ rfl k4 (one_int _ _) k1 k2 k3 ?_); clear hh k1 k2 k3 k4; intro g1 c1 w2 own2 hg2 hgg hb2))
        all_goals first
          | (exfalso; omega)
          | (go_roundw
             case rel => exact ⟨k + 1, m + 1, some ⟨g1, 0, none⟩, c1, cs ++ [lowerB s[k]], by omega, by go_num, rfl, by omega, (show _ = _ by rw [HTk.out, ← hcs.out, HSt.out]), row_more _ own2 HD.out, (hbel.out.alloc hB _).trans hb2⟩
             case measure => simp [intOf]; omega)
      · skip
        have HSt := Lib.hid (show slugStep cs s[k] = cs ++ [lowerB s[k]] by unfold slugStep; rw [if_pos hg])
        have HD := Lib.hid hd; clear hd hg
        go_wp2_with (first
          | (at_builtin; have hh := own_alloc hown.out (.cells #[.int .u8 (s[k].toNat : Int)] 5); have k1 : (m + 1) * 1 ≤ 140737488355328 := (by omega); have k2 : m + 1 ≤ maxLen := (by unfold maxLen; omega); have k3 : w.heap.size ≤ (wr.alloc (.cells #[.int .u8 (s[k].toNat : Int)] 5)).heap.size := (by simp; omega); have k4 := cell_new wr [.int .u8 (s[k].toNat : Int)] 5 wr.heap.size rfl; go_must (refine wpList_push _ rfl (.tmp 37) (.tmp 39) 53 rfl w.heap.size 5 (.int .u8 0) 1 1 Tryz.underlying53 info_byte2 rfl (by omega) (.slice Ao m co) m _ rfl hh [.int .u8 (s[k].toNat : Int)] rfl _ rfl k4 (one_int _ _) k1 k2 k3 ?_); clear hh k1 k2 k3 k4; intro g1 c1 w2 own2 hg2 hgg hb2))
        all_goals first
          | (exfalso; omega)
          | (go_roundw
             case rel => exact ⟨k + 1, m + 1, some ⟨g1, 0, none⟩, c1, cs ++ [lowerB s[k]], by omega, by go_num, rfl, by omega, (show _ = _ by rw [HTk.out, ← hcs.out, HSt.out]), row_more _ own2 HD.out, (hbel.out.alloc hB _).trans hb2⟩
             case measure => simp [intOf]; omega)
      · skip
        have HSt := Lib.hid (show slugStep cs s[k] = cs ++ [lowerB s[k]] by unfold slugStep; rw [if_pos hg])
        have HD := Lib.hid hd; clear hd hg
        go_wp2_with (first
          | (go_at_call 64; go_must (refine (isDigit_m _ true _ (by simp; omega)).mono ?_); rintro e w1 ⟨rfl, rfl⟩)
          | (at_builtin; have hh := own_alloc hown.out (.cells #[.int .u8 (s[k].toNat : Int)] 5); have k1 : (m + 1) * 1 ≤ 140737488355328 := (by omega); have k2 : m + 1 ≤ maxLen := (by unfold maxLen; omega); have k3 : w.heap.size ≤ (wr.alloc (.cells #[.int .u8 (s[k].toNat : Int)] 5)).heap.size := (by simp; omega); have k4 := cell_new wr [.int .u8 (s[k].toNat : Int)] 5 wr.heap.size rfl; go_must (refine wpList_push _ rfl (.tmp 37) (.tmp 39) 53 rfl w.heap.size 5 (.int .u8 0) 1 1 Tryz.underlying53 info_byte2 rfl (by omega) (.slice Ao m co) m _ rfl hh [.int .u8 (s[k].toNat : Int)] rfl _ rfl k4 (one_int _ _) k1 k2 k3 ?_); clear hh k1 k2 k3 k4; intro g1 c1 w2 own2 hg2 hgg hb2))
        all_goals first
          | (exfalso; omega)
          | (go_roundw
             case rel => exact ⟨k + 1, m + 1, some ⟨g1, 0, none⟩, c1, cs ++ [lowerB s[k]], by omega, by go_num, rfl, by omega, (show _ = _ by rw [HTk.out, ← hcs.out, HSt.out]), row_more _ own2 HD.out, (hbel.out.alloc hB _).trans hb2⟩
             case measure => simp [intOf]; omega)
      · skip
        have HSt := Lib.hid (show slugStep cs s[k] = cs ++ [lowerB s[k]] by unfold slugStep; rw [if_pos hg])
        have HD := Lib.hid hd; clear hd hg
        go_wp2_with (first
          | (go_at_call 64; go_must (refine (isDigit_m _ false _ (by simp; omega)).mono ?_); rintro e w1 ⟨rfl, rfl⟩)
          | (at_builtin; have hh := own_alloc hown.out (.cells #[.int .u8 (s[k].toNat : Int)] 5); have k1 : (m + 1) * 1 ≤ 140737488355328 := (by omega); have k2 : m + 1 ≤ maxLen := (by unfold maxLen; omega); have k3 : w.heap.size ≤ (wr.alloc (.cells #[.int .u8 (s[k].toNat : Int)] 5)).heap.size := (by simp; omega); have k4 := cell_new wr [.int .u8 (s[k].toNat : Int)] 5 wr.heap.size rfl; go_must (refine wpList_push _ rfl (.tmp 37) (.tmp 39) 53 rfl w.heap.size 5 (.int .u8 0) 1 1 Tryz.underlying53 info_byte2 rfl (by omega) (.slice Ao m co) m _ rfl hh [.int .u8 (s[k].toNat : Int)] rfl _ rfl k4 (one_int _ _) k1 k2 k3 ?_); clear hh k1 k2 k3 k4; intro g1 c1 w2 own2 hg2 hgg hb2))
        all_goals first
          | (exfalso; omega)
          | (go_roundw
             case rel => exact ⟨k + 1, m + 1, some ⟨g1, 0, none⟩, c1, cs ++ [lowerB s[k]], by omega, by go_num, rfl, by omega, (show _ = _ by rw [HTk.out, ← hcs.out, HSt.out]), row_more _ own2 HD.out, (hbel.out.alloc hB _).trans hb2⟩
             case measure => simp [intOf]; omega)
      · rcases hlh with ⟨rfl, rfl⟩ | ⟨rfl, rfl⟩ | ⟨rfl, rfl⟩ | ⟨rfl, rfl⟩
        · have hx1 : decide (48 ≤ (s[k].toNat : Int) ∧ (s[k].toNat : Int) ≤ 57) = false := by simp; omega
          have HX1 := Lib.hid hx1; clear hx1
          rcases List.eq_nil_or_concat cs with hnil | ⟨P, y, hPy⟩
          · have HSt := Lib.hid (show slugStep cs s[k] = cs by unfold slugStep; rw [if_neg (by rw [hg]; simp), if_pos (Or.inl hnil)])
            have hm0 : m = 0 := by have := row_len hown.out; rw [hnil] at this; simpa using this.symm
            subst hm0
            clear hg hnil
            go_wp2_with (go_at_call 64; go_must (refine (isDigit_m _ false _ HX1.out).mono ?_); rintro e w1 ⟨rfl, rfl⟩)
            all_goals first
              | (exfalso; omega)
              | (go_roundw
                 case rel => exact ⟨k + 1, 0, Ao, co, cs, by omega, by go_num, rfl, by omega, (show _ = _ by rw [HTk.out, ← hcs.out, HSt.out]), hown, hbel⟩
                 case measure => simp [intOf]; omega)
          · rw [List.concat_eq_append] at hPy
            have hlen := row_len hown.out
            rw [hPy] at hlen
            simp only [List.length_append, List.length_cons, List.length_nil] at hlen
            obtain ⟨q, hq⟩ : ∃ q, P.length = q := ⟨_, rfl⟩
            have hm1 : m = q + 1 := by omega
            subst hm1
            obtain ⟨A9, c9, hv9, _, _, hA9⟩ := own_form hown.out
            cases hv9
            obtain ⟨g, hg9, hBg, hgl⟩ := hA9 (by omega)
            subst hg9
            have q0 : wr.cell? ⟨g, q, none⟩ = some (.int .u8 (y.toNat : Int)) := own_cell hown.out (byteCells_get (by rw [hPy]; simp [← hq]))
            have hne : cs ≠ [] := by rw [hPy]; simp
            cases hy : ((y.toNat : Int) != 45)
            · have hy2 : ((y.toNat : Int) == 45) = true := by simpa using hy
              have HSt := Lib.hid (show slugStep cs s[k] = cs by unfold slugStep; rw [if_neg (by rw [hg]; simp), if_pos (Or.inr (by rw [hPy]; exact endsD_concat P y true hy2))])
              clear hg hPy hq hlen hy2 hne hA9
              go_wp2_with (go_at_call 64; go_must (refine (isDigit_m _ false _ HX1.out).mono ?_); rintro e w1 ⟨rfl, rfl⟩)
              all_goals first
                | (exfalso; omega)
                | (go_roundw
                   case rel => exact ⟨k + 1, q + 1, _, co, cs, by omega, by go_num, rfl, by omega, (show _ = _ by rw [HTk.out, ← hcs.out, HSt.out]), hown, hbel⟩
                   case measure => simp [intOf]; omega)
            · have hy2 : ((y.toNat : Int) == 45) = false := by simpa using hy
              have HSt := Lib.hid (show slugStep cs s[k] = cs ++ [45] by unfold slugStep; rw [if_neg (by rw [hg]; simp), if_neg (by rw [hPy, endsD_concat P y false hy2]; simp)])
              clear hg hPy hq hlen hy2 hne hA9
              go_wp2_with (first
                | (go_at_call 64; go_must (refine (isDigit_m _ false _ HX1.out).mono ?_); rintro e w1 ⟨rfl, rfl⟩)
                | (at_builtin; have hh := own_alloc hown.out (.cells #[.int .u8 45] 5); have k1 : (q + 1 + 1) * 1 ≤ 140737488355328 := (by omega); have k2 : q + 1 + 1 ≤ maxLen := (by unfold maxLen; omega); have k3 : w.heap.size ≤ (wr.alloc (.cells #[.int .u8 45] 5)).heap.size := (by simp; omega); have k4 := cell_new wr [.int .u8 45] 5 wr.heap.size rfl; go_must (refine wpList_push _ rfl (.tmp 53) (.tmp 54) 53 rfl w.heap.size 5 (.int .u8 0) 1 1 Tryz.underlying53 info_byte2 rfl (by omega) (.slice (some ⟨g, 0, none⟩) (q + 1) co) (q + 1) _ rfl hh [.int .u8 45] rfl _ rfl k4 (one_int _ _) k1 k2 k3 ?_); clear hh k1 k2 k3 k4; intro g1 c1 w2 own2 hg2 hgg hb2))
              all_goals first
                | (exfalso; omega)
                | (go_roundw
                   case rel => exact ⟨k + 1, q + 1 + 1, some ⟨g1, 0, none⟩, c1, cs ++ [45], by omega, by go_num, rfl, by omega, (show _ = _ by rw [HTk.out, ← hcs.out, HSt.out]), row_more 45 own2 rfl, (hbel.out.alloc hB _).trans hb2⟩
                   case measure => simp [intOf]; omega)
        · have hx1 : decide (48 ≤ (s[k].toNat : Int) ∧ (s[k].toNat : Int) ≤ 57) = false := by simp; omega
          have HX1 := Lib.hid hx1; clear hx1
          rcases List.eq_nil_or_concat cs with hnil | ⟨P, y, hPy⟩
          · have HSt := Lib.hid (show slugStep cs s[k] = cs by unfold slugStep; rw [if_neg (by rw [hg]; simp), if_pos (Or.inl hnil)])
            have hm0 : m = 0 := by have := row_len hown.out; rw [hnil] at this; simpa using this.symm
            subst hm0
            clear hg hnil
            go_wp2_with (go_at_call 64; go_must (refine (isDigit_m _ false _ HX1.out).mono ?_); rintro e w1 ⟨rfl, rfl⟩)
            all_goals first
              | (exfalso; omega)
              | (go_roundw
                 case rel => exact ⟨k + 1, 0, Ao, co, cs, by omega, by go_num, rfl, by omega, (show _ = _ by rw [HTk.out, ← hcs.out, HSt.out]), hown, hbel⟩
                 case measure => simp [intOf]; omega)
          · rw [List.concat_eq_append] at hPy
            have hlen := row_len hown.out
            rw [hPy] at hlen
            simp only [List.length_append, List.length_cons, List.length_nil] at hlen
            obtain ⟨q, hq⟩ : ∃ q, P.length = q := ⟨_, rfl⟩
            have hm1 : m = q + 1 := by omega
            subst hm1
            obtain ⟨A9, c9, hv9, _, _, hA9⟩ := own_form hown.out
            cases hv9
            obtain ⟨g, hg9, hBg, hgl⟩ := hA9 (by omega)
            subst hg9
            have q0 : wr.cell? ⟨g, q, none⟩ = some (.int .u8 (y.toNat : Int)) := own_cell hown.out (byteCells_get (by rw [hPy]; simp [← hq]))
            have hne : cs ≠ [] := by rw [hPy]; simp
            cases hy : ((y.toNat : Int) != 45)
            · have hy2 : ((y.toNat : Int) == 45) = true := by simpa using hy
              have HSt := Lib.hid (show slugStep cs s[k] = cs by unfold slugStep; rw [if_neg (by rw [hg]; simp), if_pos (Or.inr (by rw [hPy]; exact endsD_concat P y true hy2))])
              clear hg hPy hq hlen hy2 hne hA9
              go_wp2_with (go_at_call 64; go_must (refine (isDigit_m _ false _ HX1.out).mono ?_); rintro e w1 ⟨rfl, rfl⟩)
              all_goals first
                | (exfalso; omega)
                | (go_roundw
                   case rel => exact ⟨k + 1, q + 1, _, co, cs, by omega, by go_num, rfl, by omega, (show _ = _ by rw [HTk.out, ← hcs.out, HSt.out]), hown, hbel⟩
                   case measure => simp [intOf]; omega)
            · have hy2 : ((y.toNat : Int) == 45) = false := by simpa using hy
              have HSt := Lib.hid (show slugStep cs s[k] = cs ++ [45] by unfold slugStep; rw [if_neg (by rw [hg]; simp), if_neg (by rw [hPy, endsD_concat P y false hy2]; simp)])
              clear hg hPy hq hlen hy2 hne hA9
              go_wp2_with (first
                | (go_at_call 64; go_must (refine (isDigit_m _ false _ HX1.out).mono ?_); rintro e w1 ⟨rfl, rfl⟩)
                | (at_builtin; have hh := own_alloc hown.out (.cells #[.int .u8 45] 5); have k1 : (q + 1 + 1) * 1 ≤ 140737488355328 := (by omega); have k2 : q + 1 + 1 ≤ maxLen := (by unfold maxLen; omega); have k3 : w.heap.size ≤ (wr.alloc (.cells #[.int .u8 45] 5)).heap.size := (by simp; omega); have k4 := cell_new wr [.int .u8 45] 5 wr.heap.size rfl; go_must (refine wpList_push _ rfl (.tmp 53) (.tmp 54) 53 rfl w.heap.size 5 (.int .u8 0) 1 1 Tryz.underlying53 info_byte2 rfl (by omega) (.slice (some ⟨g, 0, none⟩) (q + 1) co) (q + 1) _ rfl hh [.int .u8 45] rfl _ rfl k4 (one_int _ _) k1 k2 k3 ?_); clear hh k1 k2 k3 k4; intro g1 c1 w2 own2 hg2 hgg hb2))
              all_goals first
                | (exfalso; omega)
                | (go_roundw
                   case rel => exact ⟨k + 1, q + 1 + 1, some ⟨g1, 0, none⟩, c1, cs ++ [45], by omega, by go_num, rfl, by omega, (show _ = _ by rw [HTk.out, ← hcs.out, HSt.out]), row_more 45 own2 rfl, (hbel.out.alloc hB _).trans hb2⟩
                   case measure => simp [intOf]; omega)
        · have hx1 : decide (48 ≤ (s[k].toNat : Int) ∧ (s[k].toNat : Int) ≤ 57) = false := by simp; omega
          have HX1 := Lib.hid hx1; clear hx1
          rcases List.eq_nil_or_concat cs with hnil | ⟨P, y, hPy⟩
          · have HSt := Lib.hid (show slugStep cs s[k] = cs by unfold slugStep; rw [if_neg (by rw [hg]; simp), if_pos (Or.inl hnil)])
            have hm0 : m = 0 := by have := row_len hown.out; rw [hnil] at this; simpa using this.symm
            subst hm0
            clear hg hnil
            go_wp2_with (go_at_call 64; go_must (refine (isDigit_m _ false _ HX1.out).mono ?_); rintro e w1 ⟨rfl, rfl⟩)
            all_goals first
              | (exfalso; omega)
              | (go_roundw
                 case rel => exact ⟨k + 1, 0, Ao, co, cs, by omega, by go_num, rfl, by omega, (show _ = _ by rw [HTk.out, ← hcs.out, HSt.out]), hown, hbel⟩
                 case measure => simp [intOf]; omega)
          · rw [List.concat_eq_append] at hPy
            have hlen := row_len hown.out
            rw [hPy] at hlen
            simp only [List.length_append, List.length_cons, List.length_nil] at hlen
            obtain ⟨q, hq⟩ : ∃ q, P.length = q := ⟨_, rfl⟩
            have hm1 : m = q + 1 := by omega
            subst hm1
            obtain ⟨A9, c9, hv9, _, _, hA9⟩ := own_form hown.out
            cases hv9
            obtain ⟨g, hg9, hBg, hgl⟩ := hA9 (by omega)
            subst hg9
            have q0 : wr.cell? ⟨g, q, none⟩ = some (.int .u8 (y.toNat : Int)) := own_cell hown.out (byteCells_get (by rw [hPy]; simp [← hq]))
            have hne : cs ≠ [] := by rw [hPy]; simp
            cases hy : ((y.toNat : Int) != 45)
            · have hy2 : ((y.toNat : Int) == 45) = true := by simpa using hy
              have HSt := Lib.hid (show slugStep cs s[k] = cs by unfold slugStep; rw [if_neg (by rw [hg]; simp), if_pos (Or.inr (by rw [hPy]; exact endsD_concat P y true hy2))])
              clear hg hPy hq hlen hy2 hne hA9
              go_wp2_with (go_at_call 64; go_must (refine (isDigit_m _ false _ HX1.out).mono ?_); rintro e w1 ⟨rfl, rfl⟩)
              all_goals first
                | (exfalso; omega)
                | (go_roundw
                   case rel => exact ⟨k + 1, q + 1, _, co, cs, by omega, by go_num, rfl, by omega, (show _ = _ by rw [HTk.out, ← hcs.out, HSt.out]), hown, hbel⟩
                   case measure => simp [intOf]; omega)
            · have hy2 : ((y.toNat : Int) == 45) = false := by simpa using hy
              have HSt := Lib.hid (show slugStep cs s[k] = cs ++ [45] by unfold slugStep; rw [if_neg (by rw [hg]; simp), if_neg (by rw [hPy, endsD_concat P y false hy2]; simp)])
              clear hg hPy hq hlen hy2 hne hA9
              go_wp2_with (first
                | (go_at_call 64; go_must (refine (isDigit_m _ false _ HX1.out).mono ?_); rintro e w1 ⟨rfl, rfl⟩)
                | (at_builtin; have hh := own_alloc hown.out (.cells #[.int .u8 45] 5); have k1 : (q + 1 + 1) * 1 ≤ 140737488355328 := (by omega); have k2 : q + 1 + 1 ≤ maxLen := (by unfold maxLen; omega); have k3 : w.heap.size ≤ (wr.alloc (.cells #[.int .u8 45] 5)).heap.size := (by simp; omega); have k4 := cell_new wr [.int .u8 45] 5 wr.heap.size rfl; go_must (refine wpList_push _ rfl (.tmp 53) (.tmp 54) 53 rfl w.heap.size 5 (.int .u8 0) 1 1 Tryz.underlying53 info_byte2 rfl (by omega) (.slice (some ⟨g, 0, none⟩) (q + 1) co) (q + 1) _ rfl hh [.int .u8 45] rfl _ rfl k4 (one_int _ _) k1 k2 k3 ?_); clear hh k1 k2 k3 k4; intro g1 c1 w2 own2 hg2 hgg hb2))
              all_goals first
                | (exfalso; omega)
                | (go_roundw
                   case rel => exact ⟨k + 1, q + 1 + 1, some ⟨g1, 0, none⟩, c1, cs ++ [45], by omega, by go_num, rfl, by omega, (show _ = _ by rw [HTk.out, ← hcs.out, HSt.out]), row_more 45 own2 rfl, (hbel.out.alloc hB _).trans hb2⟩
                   case measure => simp [intOf]; omega)
        · have hx1 : decide (48 ≤ (s[k].toNat : Int) ∧ (s[k].toNat : Int) ≤ 57) = false := by simp; omega
          have HX1 := Lib.hid hx1; clear hx1
          rcases List.eq_nil_or_concat cs with hnil | ⟨P, y, hPy⟩
          · have HSt := Lib.hid (show slugStep cs s[k] = cs by unfold slugStep; rw [if_neg (by rw [hg]; simp), if_pos (Or.inl hnil)])
            have hm0 : m = 0 := by have := row_len hown.out; rw [hnil] at this; simpa using this.symm
            subst hm0
            clear hg hnil
            go_wp2_with (go_at_call 64; go_must (refine (isDigit_m _ false _ HX1.out).mono ?_); rintro e w1 ⟨rfl, rfl⟩)
            all_goals first
              | (exfalso; omega)
              | (go_roundw
                 case rel => exact ⟨k + 1, 0, Ao, co, cs, by omega, by go_num, rfl, by omega, (show _ = _ by rw [HTk.out, ← hcs.out, HSt.out]), hown, hbel⟩
                 case measure => simp [intOf]; omega)
          · rw [List.concat_eq_append] at hPy
            have hlen := row_len hown.out
            rw [hPy] at hlen
            simp only [List.length_append, List.length_cons, List.length_nil] at hlen
            obtain ⟨q, hq⟩ : ∃ q, P.length = q := ⟨_, rfl⟩
            have hm1 : m = q + 1 := by omega
            subst hm1
            obtain ⟨A9, c9, hv9, _, _, hA9⟩ := own_form hown.out
            cases hv9
            obtain ⟨g, hg9, hBg, hgl⟩ := hA9 (by omega)
            subst hg9
            have q0 : wr.cell? ⟨g, q, none⟩ = some (.int .u8 (y.toNat : Int)) := own_cell hown.out (byteCells_get (by rw [hPy]; simp [← hq]))
            have hne : cs ≠ [] := by rw [hPy]; simp
            cases hy : ((y.toNat : Int) != 45)
            · have hy2 : ((y.toNat : Int) == 45) = true := by simpa using hy
              have HSt := Lib.hid (show slugStep cs s[k] = cs by unfold slugStep; rw [if_neg (by rw [hg]; simp), if_pos (Or.inr (by rw [hPy]; exact endsD_concat P y true hy2))])
              clear hg hPy hq hlen hy2 hne hA9
              go_wp2_with (go_at_call 64; go_must (refine (isDigit_m _ false _ HX1.out).mono ?_); rintro e w1 ⟨rfl, rfl⟩)
              all_goals first
                | (exfalso; omega)
                | (go_roundw
                   case rel => exact ⟨k + 1, q + 1, _, co, cs, by omega, by go_num, rfl, by omega, (show _ = _ by rw [HTk.out, ← hcs.out, HSt.out]), hown, hbel⟩
                   case measure => simp [intOf]; omega)
            · have hy2 : ((y.toNat : Int) == 45) = false := by simpa using hy
              have HSt := Lib.hid (show slugStep cs s[k] = cs ++ [45] by unfold slugStep; rw [if_neg (by rw [hg]; simp), if_neg (by rw [hPy, endsD_concat P y false hy2]; simp)])
              clear hg hPy hq hlen hy2 hne hA9
              go_wp2_with (first
                | (go_at_call 64; go_must (refine (isDigit_m _ false _ HX1.out).mono ?_); rintro e w1 ⟨rfl, rfl⟩)
                | (at_builtin; have hh := own_alloc hown.out (.cells #[.int .u8 45] 5); have k1 : (q + 1 + 1) * 1 ≤ 140737488355328 := (by omega); have k2 : q + 1 + 1 ≤ maxLen := (by unfold maxLen; omega); have k3 : w.heap.size ≤ (wr.alloc (.cells #[.int .u8 45] 5)).heap.size := (by simp; omega); have k4 := cell_new wr [.int .u8 45] 5 wr.heap.size rfl; go_must (refine wpList_push _ rfl (.tmp 53) (.tmp 54) 53 rfl w.heap.size 5 (.int .u8 0) 1 1 Tryz.underlying53 info_byte2 rfl (by omega) (.slice (some ⟨g, 0, none⟩) (q + 1) co) (q + 1) _ rfl hh [.int .u8 45] rfl _ rfl k4 (one_int _ _) k1 k2 k3 ?_); clear hh k1 k2 k3 k4; intro g1 c1 w2 own2 hg2 hgg hb2))
              all_goals first
                | (exfalso; omega)
                | (go_roundw
                   case rel => exact ⟨k + 1, q + 1 + 1, some ⟨g1, 0, none⟩, c1, cs ++ [45], by omega, by go_num, rfl, by omega, (show _ = _ by rw [HTk.out, ← hcs.out, HSt.out]), row_more 45 own2 rfl, (hbel.out.alloc hB _).trans hb2⟩
                   case measure => simp [intOf]; omega)
    · have hall : s.data.toList.take k = s.data.toList := List.take_of_length_le (by rw [size_toList]; omega)
      have hcs2 := hcs.out
      rw [hall] at hcs2
      clear hall
      rcases List.eq_nil_or_concat cs with hnil | ⟨P, y, hPy⟩
      · have hm0 : m = 0 := by have := row_len hown.out; rw [hnil] at this; simpa using this.symm
        subst hm0
        have hback := conv_row hown.out
        have HR := Lib.hid (show cs = slugEnd (slugF s.data.toList) by rw [← hcs2, hnil]; rfl)
        clear hnil hcs2
        go_wp2_with fail
        go_ret
        exact ⟨ret_arr HR.out, hbel.out⟩
      · rw [List.concat_eq_append] at hPy
        have hlen := row_len hown.out
        rw [hPy] at hlen
        simp only [List.length_append, List.length_cons, List.length_nil] at hlen
        obtain ⟨q, hq⟩ : ∃ q, P.length = q := ⟨_, rfl⟩
        have hm1 : m = q + 1 := by omega
        subst hm1
        obtain ⟨A9, c9, hv9, _, hc9, hA9⟩ := own_form hown.out
        cases hv9
        obtain ⟨g, hg9, hBg, hgl⟩ := hA9 (by omega)
        subst hg9
        have q0 : wr.cell? ⟨g, q, none⟩ = some (.int .u8 (y.toNat : Int)) := own_cell hown.out (byteCells_get (by rw [hPy]; simp [← hq]))
        cases hy : ((y.toNat : Int) == 45)
        · have HR := Lib.hid (show cs = slugEnd (slugF s.data.toList) by rw [← hcs2]; unfold slugEnd; rw [hPy, endsD_concat P y false hy]; simp)
          have hback := conv_row hown.out
          clear hPy hcs2 hq hlen hA9
          go_wp2_with fail
          go_ret
          exact ⟨ret_arr HR.out, hbel.out⟩
        · have HR := Lib.hid (show P = slugEnd (slugF s.data.toList) by rw [← hcs2]; unfold slugEnd; rw [hPy, endsD_concat P y true hy]; simp)
          have hown2 := hown.out
          rw [hPy, show byteCells (P ++ [y]) = byteCells P ++ byteCells [y] by simp [byteCells]] at hown2
          have hback := conv_row (ownsRow_pop (by simp [byteCells, hq]) hown2)
          clear hPy hcs2 hq hlen hA9 hown2
          go_wp2_with fail
          go_ret
          exact ⟨ret_arr HR.out, hbel.out⟩

end Go.Proofs.YtikijmjcmpkkdaaGreatDoor
