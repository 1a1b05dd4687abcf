/-
  The reader of a shortcode's line: its bytes, 'take', 'name' and 'plain'.
-/
import Derived.Test.YtgbmlpidaeefoaaLinePlain
import Derived.Test.YtgbmlpidaeefoaaBytes
import Derived.Test.YtgbmlpidaeefoaaShelf
import Derived.Deep.DeepMust
import Derived.Outline
import Derived.BigGuardPart
namespace Go.Proofs.Ytgbmlpidaeefoaa
open Go.RowKit Go.Deep

/-- the reader's box -/
def RD (w : World) (g : Nat) (s : ByteArray) (b : Bool) : Prop := w.heap[g]? = some (.cells #[.string s, .bool b] 46 (0, 0))

theorem RD.lt {w : World} {g : Nat} {s : ByteArray} {b : Bool} (h : RD w g s b) : g < w.heap.size := (Array.getElem?_eq_some_iff.1 h).1
theorem RD.c0 {w : World} {g : Nat} {s : ByteArray} {b : Bool} (h : RD w g s b) : w.cell? ⟨g, 0, none⟩ = some (.string s) := by simp [World.cell?, show w.heap[g]? = _ from h]
theorem RD.c1 {w : World} {g : Nat} {s : ByteArray} {b : Bool} (h : RD w g s b) : w.cell? ⟨g, 1, none⟩ = some (.bool b) := by simp [World.cell?, show w.heap[g]? = _ from h]
theorem RD.f0 {w : World} {g : Nat} {s : ByteArray} {b : Bool} (h : RD w g s b) : w.frozen? ⟨g, 0, none⟩ = false := by simp [World.frozen?, show w.heap[g]? = _ from h]
theorem RD.f1 {w : World} {g : Nat} {s : ByteArray} {b : Bool} (h : RD w g s b) : w.frozen? ⟨g, 1, none⟩ = false := by simp [World.frozen?, show w.heap[g]? = _ from h]
theorem RD.sh {w : World} {g : Nat} {s : ByteArray} {b : Bool} (h : RD w g s b) : w.shape? g = some (46, 2) := by simp [World.shape?, show w.heap[g]? = _ from h]
theorem RD.set0 {w : World} {g : Nat} {s : ByteArray} {b : Bool} (h : RD w g s b) (z : ByteArray) : RD (w.setCell ⟨g, 0, none⟩ (.string z)) g z b := by
  obtain ⟨hlt, hk⟩ := Array.getElem?_eq_some_iff.1 h
  show (w.heap.modify g _)[g]? = _
  rw [Array.getElem?_eq_getElem (by rw [Array.size_modify]; exact hlt), Array.getElem_modify_self, hk]
  rfl
theorem RD.set1 {w : World} {g : Nat} {s : ByteArray} {b : Bool} (h : RD w g s b) (z : Bool) : RD (w.setCell ⟨g, 1, none⟩ (.bool z)) g s z := by
  obtain ⟨hlt, hk⟩ := Array.getElem?_eq_some_iff.1 h
  show (w.heap.modify g _)[g]? = _
  rw [Array.getElem?_eq_getElem (by rw [Array.size_modify]; exact hlt), Array.getElem_modify_self, hk]
  rfl
theorem RD.other {w w' : World} {g : Nat} {s : ByteArray} {b : Bool} {row : Option Nat} (h : RD w g s b) (hg : w.grownBy w' row) (hne : some g ≠ row) : RD w' g s b := (hg.block g h.lt hne).trans h
theorem grown_set (W : World) (g o : Nat) (v : Value) : W.grownBy (W.setCell ⟨g, o, none⟩ v) (some g) :=
  ⟨rfl, rfl, rfl, by simp [World.setCell], fun k _ hk => Below.heap_setCell _ _ _ k (fun e => hk (by rw [e]))⟩

theorem ext_list (s : ByteArray) (i j : Nat) : (s.extract i j).data.toList = (s.data.toList.take j).drop i := by
  rw [ByteArray.data_extract, Array.toList_extract, List.extract_eq_drop_take']

theorem while_at {p : UInt8 → Bool} {l : List UInt8} {k : Nat} (h1 : ∀ (j : Nat) (c : UInt8), l[j]? = some c → j < k → p c = true) (h2 : ∀ c, l[k]? = some c → p c = false) (_hk : k ≤ l.length) :
    l.takeWhile p = l.take k ∧ l.dropWhile p = l.drop k := by
  have h := takeW (p := p) (u := l.take k) (tl := l.drop k) (fun c hc => by
    obtain ⟨j, hj⟩ := List.getElem?_of_mem hc
    rw [List.getElem?_take] at hj
    split at hj
    · rename_i hlt; exact h1 j c hj hlt
    · cases hj) (fun c r hr => by
    refine h2 c ?_
    have := congrArg (fun l => l[0]?) hr
    simpa using this)
  rwa [List.take_append_drop] at h

theorem byteR {s : ByteArray} {k : Nat} (hlt : k < s.size) : s.data.toList[k]? = some s[k] := by
  rw [List.getElem?_eq_getElem (by rw [size_toList]; exact hlt)]
  rfl

theorem isSmall_p (c : UInt8) (w : World) : Calls Try.prog 50 #[.int .u8 (c.toNat : Int)] w fun e w' => e = .returned (.bool (smallC c)) ∧ w = w' := by
  go_enter Try.func50, Try.ntmps50
  go_wp2_with fail
  all_goals
    go_ret
    refine ⟨ret_bool ?_, rfl⟩
    rw [Bool.eq_iff_iff]
    simp [smallC]
    try omega

theorem isDigit_p (c : UInt8) (w : World) : Calls Try.prog 51 #[.int .u8 (c.toNat : Int)] w fun e w' => e = .returned (.bool (digitC c)) ∧ w = w' := by
  go_enter Try.func51, Try.ntmps51
  go_wp2_with fail
  all_goals
    go_ret
    refine ⟨ret_bool ?_, rfl⟩
    rw [Bool.eq_iff_iff]
    simp [digitC]
    try omega

theorem bareC_eq (c : UInt8) : bareC c = (smallC c || upperC c || digitC c || decide (Lib.indexByte [45, 95, 46, 47, 58] c ≥ 0)) := by
  have : ∀ n : Fin 256, bareC (UInt8.ofNat n.1) = (smallC (UInt8.ofNat n.1) || upperC (UInt8.ofNat n.1) || digitC (UInt8.ofNat n.1) || decide (Lib.indexByte [45, 95, 46, 47, 58] (UInt8.ofNat n.1) ≥ 0)) := by decide +kernel
  have h := this ⟨c.toNat, c.toNat_lt⟩
  simpa using h

theorem isPlain_p (c : UInt8) (w : World) : Calls Try.prog 68 #[.int .u8 (c.toNat : Int)] w fun e w' => e = .returned (.bool (bareC c)) ∧ w = w' := by
  have HE := Lib.hid (bareC_eq c)
  obtain ⟨x, hx⟩ : ∃ x, Lib.indexByte [45, 95, 46, 47, 58] c = x := ⟨_, rfl⟩
  have HX := Lib.hid hx
  go_enter Try.func68, Try.ntmps68
  go_wp2_with (first
    | (go_at_call 50; go_must (refine (isSmall_p _ _).mono ?_); rintro e w1 ⟨rfl, rfl⟩)
    | (go_at_call 51; go_must (refine (isDigit_p _ _).mono ?_); rintro e w1 ⟨rfl, rfl⟩)
    | (go_at_call 28; go_must (refine (Try.strings_IndexByte _ _ _).mono ?_); rintro e w1 ⟨rfl, rfl⟩))
  all_goals
    go_ret
    refine ⟨ret_bool ?_, rfl⟩
    rw [HE.out]
    first
    | (simp_all [upperC]; done)
    | (simp_all [upperC]; omega)
    | (simp_all [upperC]; exact Or.inl (Or.inl (by omega)))

theorem hasPrefix_r (s p : ByteArray) (v : Bool) (w : World) (h : Lib.hasPrefix s.data.toList p.data.toList = v) :
    Calls Try.prog 20 #[.string s, .string p] w fun e w' => e = .returned (.bool v) ∧ w = w' := by
  subst h
  exact (Try.strings_HasPrefix s p w).mono fun e w' ⟨h1, h2⟩ => ⟨h1, h2.symm⟩

theorem take_any (g : Nat) (s : ByteArray) (b : Bool) (x : UInt8) (w : World) (h : RD w g s b) :
    Calls Try.prog 22 #[.pointer (some ⟨g, 0, none⟩), .string ⟨#[x]⟩] w fun e w' =>
      (e = .returned (.bool false) ∧ take1 x s.data.toList = none ∧ w = w') ∨ (∃ z : ByteArray, e = .returned (.bool true) ∧ take1 x s.data.toList = some z.data.toList ∧ w.setCell ⟨g, 0, none⟩ (.string z) = w') := by
  have c0 := h.c0
  have f0 := h.f0
  have sh := h.sh
  clear h
  cases ht : take1 x s.data.toList with
  | none =>
    have HP := Lib.hid (show Lib.hasPrefix s.data.toList (⟨#[x]⟩ : ByteArray).data.toList = false by
      cases hs : s.data.toList with
      | nil => rfl
      | cons c r =>
        rw [hs] at ht
        simp only [take1] at ht
        split at ht
        · cases ht
        · rename_i hne; show ((x == c) && List.isPrefixOf [] r) = false; rw [show (x == c) = false by simpa using fun e => hne e.symm]; rfl)
    have HT := Lib.hid ht; clear ht
    go_enter Try.func22, Try.ntmps22
    go_wp2_with (go_at_call 20; go_must (refine (hasPrefix_r _ _ false _ HP.out).mono ?_); rintro e w1 ⟨rfl, rfl⟩)
    go_ret
    exact Or.inl ⟨rfl, trivial, rfl⟩
  | some r =>
    have hsr := take1_some ht
    have HP := Lib.hid (show Lib.hasPrefix s.data.toList (⟨#[x]⟩ : ByteArray).data.toList = true by rw [hsr]; simp [Lib.hasPrefix])
    have hsz : 1 ≤ s.size := by rw [← size_toList, hsr]; simp
    have HZ := Lib.hid (show (s.extract 1 s.size).data.toList = r by rw [ext_list, List.take_of_length_le (by rw [size_toList]; omega), hsr]; rfl)
    clear ht hsr
    go_enter Try.func22, Try.ntmps22
    go_wp2_with (go_at_call 20; go_must (refine (hasPrefix_r _ _ true _ HP.out).mono ?_); rintro e w1 ⟨rfl, rfl⟩)
    go_ret
    exact Or.inr ⟨_, rfl, by rw [HZ.out], rfl⟩

/-- what is left behind of a string cut at a byte -/
theorem cut_a {s z : ByteArray} {k : Nat} (hk : k ≤ s.size) (h : z = s.extract 0 k ∨ (z = s ∧ k = s.size) ∨ (z = ByteArray.empty ∧ k = 0)) : z.data.toList = s.data.toList.take k ∧ z.size = k := by
  rcases h with rfl | ⟨rfl, rfl⟩ | ⟨rfl, rfl⟩
  · exact ⟨by rw [ext_list]; rfl, by rw [ByteArray.size_extract]; omega⟩
  · exact ⟨by rw [List.take_of_length_le (by rw [size_toList]; omega)], rfl⟩
  · exact ⟨rfl, rfl⟩
theorem cut_b {s z : ByteArray} {k : Nat} (hk : k ≤ s.size) (h : z = s.extract k s.size ∨ (z = s ∧ k = 0) ∨ (z = ByteArray.empty ∧ k = s.size)) : z.data.toList = s.data.toList.drop k := by
  rcases h with rfl | ⟨rfl, rfl⟩ | ⟨rfl, rfl⟩
  · rw [ext_list, List.take_of_length_le (by rw [size_toList]; omega)]
  · rfl
  · rw [List.drop_of_length_le (by rw [size_toList]; omega)]; rfl

/-- a piece taken off the reader -/
def Took (p : UInt8 → Bool) (f : Nat → Bool → Bool) (g : Nat) (s : ByteArray) (b : Bool) (w : World) (e : Ending) (w' : World) : Prop :=
  ∃ z z2 : ByteArray, e = .returned (.string z) ∧ z.data.toList = s.data.toList.takeWhile p ∧ z2.data.toList = s.data.toList.dropWhile p ∧ RD w' g z2 (f z.size b) ∧ w.grownBy w' (some g)

theorem Took.mk {p : UInt8 → Bool} {f : Nat → Bool → Bool} {g : Nat} {s z z2 : ByteArray} {b b' : Bool} {w w' : World} {k : Nat} (hk : k ≤ s.size) (hx : s.data.toList.takeWhile p = s.data.toList.take k ∧ s.data.toList.dropWhile p = s.data.toList.drop k)
    (hz : z = s.extract 0 k ∨ (z = s ∧ k = s.size) ∨ (z = ByteArray.empty ∧ k = 0)) (hz2 : z2 = s.extract k s.size ∨ (z2 = s ∧ k = 0) ∨ (z2 = ByteArray.empty ∧ k = s.size)) (hr : RD w' g z2 b') (hb : b' = f k b) (hg : w.grownBy w' (some g)) : Took p f g s b w (.returned (.string z)) w' := by
  obtain ⟨h1, h2⟩ := cut_a hk hz
  exact ⟨z, z2, rfl, by rw [h1, hx.1], by rw [cut_b hk hz2, hx.2], by rw [h2, ← hb]; exact hr, hg⟩

def nameBad (n : Nat) (b : Bool) : Bool := b || !decide (1 ≤ n ∧ n ≤ 20)
theorem nameBad_t {n : Nat} {b : Bool} (h : ¬ (1 ≤ n ∧ n ≤ 20)) : true = nameBad n b := by simp [nameBad]; right; omega
theorem nameBad_f {n : Nat} {b : Bool} (h : 1 ≤ n ∧ n ≤ 20) : b = nameBad n b := by simp [nameBad]; intro; omega

set_option maxHeartbeats 2000000 in
theorem name_any (g : Nat) (s : ByteArray) (b : Bool) (w : World) (h : RD w g s b) (hs : s.size ≤ 1073741824) :
    Calls Try.prog 21 #[.pointer (some ⟨g, 0, none⟩)] w (Took nameC nameBad g s b w) := by
  have c0 := h.c0
  have f0 := h.f0
  have c1 := h.c1
  have f1 := h.f1
  have sh := h.sh
  have H := Lib.hid h; clear h
  go_enter Try.func21, Try.ntmps21
  go_wp2_with fail
  go_loopw [3] (fun t wr => ∃ k : Nat, k ≤ s.size ∧ t = .int .i64 k ∧ EqW wr w ∧ Hid (∀ (j : Nat) (c : UInt8), s.data.toList[j]? = some c → j < k → nameC c = true)) (fun t _ => s.size - (intOf t).toNat)
  case atStart => exact ⟨0, Nat.zero_le _, rfl, EqW.refl _, fun j c _ h => absurd h (by omega)⟩
  case round =>
    obtain ⟨k, hk, rfl, hww, hall⟩ := hrel
    unfold EqW at hww
    subst hww
    have HX := Lib.hid (fun h2 => while_at (p := nameC) (l := s.data.toList) hall.out h2 (by rw [size_toList]; exact hk))
    by_cases hlt : k < s.size
    · have HB := Lib.hid (byteR hlt)
      have HN := Lib.hid (show nameC s[k] = (smallC s[k] || digitC s[k] || decide ((s[k].toNat : Int) = 45)) by unfold nameC; congr 1; simp; omega)
      go_wp2_with (first
        | (go_at_call 50; go_must (refine (isSmall_p _ _).mono ?_); rintro e w1 ⟨rfl, rfl⟩)
        | (go_at_call 51; go_must (refine (isDigit_p _ _).mono ?_); rintro e w1 ⟨rfl, rfl⟩))
      all_goals first
        | (go_roundw
           case rel =>
             have hn : nameC s[k] = true := by first | assumption | (rw [HN.out]; first | (simp_all; done) | (simp_all; omega))
             refine ⟨k + 1, by omega, by go_num, EqW.refl _, fun j c h3 h4 => ?_⟩
             rcases Nat.lt_succ_iff_lt_or_eq.1 h4 with h5 | rfl
             · exact hall.out j c h3 h5
             · rw [HB.out] at h3
               cases h3
               exact hn
           case measure => simp [intOf]; omega)
        | (go_ret
           have hn : nameC s[k] = false := by first | assumption | (rw [HN.out]; first | (simp_all; done) | (simp_all; omega))
           exact Took.mk hk (HX.out (fun c hc => by rw [HB.out] at hc; cases hc; exact hn)) (by first | exact Or.inl rfl | exact Or.inr (Or.inl ⟨rfl, by omega⟩) | exact Or.inr (Or.inr ⟨rfl, by omega⟩)) (by first | exact Or.inl rfl | exact Or.inr (Or.inl ⟨rfl, by omega⟩) | exact Or.inr (Or.inr ⟨rfl, by omega⟩))
             (by first | exact H.out.set0 _ | exact (H.out.set0 _).set1 _) (by first | rfl | exact nameBad_t (by omega) | exact nameBad_f (by omega)) (by first | exact grown_set _ _ _ _ | exact (grown_set _ _ _ _).trans (grown_set _ _ _ _)))
    · have HB := Lib.hid (show s.data.toList[k]? = none by rw [List.getElem?_eq_none_iff, size_toList]; omega)
      go_wp2_with fail
      all_goals
        go_ret
        exact Took.mk hk (HX.out (fun c hc => by rw [HB.out] at hc; cases hc)) (by first | exact Or.inl rfl | exact Or.inr (Or.inl ⟨rfl, by omega⟩) | exact Or.inr (Or.inr ⟨rfl, by omega⟩)) (by first | exact Or.inl rfl | exact Or.inr (Or.inl ⟨rfl, by omega⟩) | exact Or.inr (Or.inr ⟨rfl, by omega⟩))
          (by first | exact H.out.set0 _ | exact (H.out.set0 _).set1 _) (by first | rfl | exact nameBad_t (by omega) | exact nameBad_f (by omega)) (by first | exact grown_set _ _ _ _ | exact (grown_set _ _ _ _).trans (grown_set _ _ _ _))

set_option maxHeartbeats 2000000 in
theorem plain_any (g : Nat) (s : ByteArray) (b : Bool) (w : World) (h : RD w g s b) (hs : s.size ≤ 1073741824) :
    Calls Try.prog 52 #[.pointer (some ⟨g, 0, none⟩)] w (Took bareC (fun _ b => b) g s b w) := by
  have c0 := h.c0
  have f0 := h.f0
  have c1 := h.c1
  have f1 := h.f1
  have sh := h.sh
  have H := Lib.hid h; clear h
  go_enter Try.func52, Try.ntmps52
  go_wp2_with fail
  go_loopw [3] (fun t wr => ∃ k : Nat, k ≤ s.size ∧ t = .int .i64 k ∧ EqW wr w ∧ Hid (∀ (j : Nat) (c : UInt8), s.data.toList[j]? = some c → j < k → bareC c = true)) (fun t _ => s.size - (intOf t).toNat)
  case atStart => exact ⟨0, Nat.zero_le _, rfl, EqW.refl _, fun j c _ h => absurd h (by omega)⟩
  case round =>
    obtain ⟨k, hk, rfl, hww, hall⟩ := hrel
    unfold EqW at hww
    subst hww
    have HX := Lib.hid (fun h2 => while_at (p := bareC) (l := s.data.toList) hall.out h2 (by rw [size_toList]; exact hk))
    by_cases hlt : k < s.size
    · have HB := Lib.hid (byteR hlt)
      have HN := Lib.hid True.intro
      go_wp2_with (first
        | (go_at_call 68; go_must (refine (isPlain_p _ _).mono ?_); rintro e w1 ⟨rfl, rfl⟩)
        | fail)
      all_goals first
        | (go_roundw
           case rel =>
             have hn : bareC s[k] = true := by first | assumption | (rw [HN.out]; first | (simp_all; done) | (simp_all; omega))
             refine ⟨k + 1, by omega, by go_num, EqW.refl _, fun j c h3 h4 => ?_⟩
             rcases Nat.lt_succ_iff_lt_or_eq.1 h4 with h5 | rfl
             · exact hall.out j c h3 h5
             · rw [HB.out] at h3
               cases h3
               exact hn
           case measure => simp [intOf]; omega)
        | (go_ret
           have hn : bareC s[k] = false := by first | assumption | (rw [HN.out]; first | (simp_all; done) | (simp_all; omega))
           exact Took.mk hk (HX.out (fun c hc => by rw [HB.out] at hc; cases hc; exact hn)) (by first | exact Or.inl rfl | exact Or.inr (Or.inl ⟨rfl, by omega⟩) | exact Or.inr (Or.inr ⟨rfl, by omega⟩)) (by first | exact Or.inl rfl | exact Or.inr (Or.inl ⟨rfl, by omega⟩) | exact Or.inr (Or.inr ⟨rfl, by omega⟩))
             (by first | exact H.out.set0 _ | exact (H.out.set0 _).set1 _) (by first | rfl | exact nameBad_t (by omega) | exact nameBad_f (by omega)) (by first | exact grown_set _ _ _ _ | exact (grown_set _ _ _ _).trans (grown_set _ _ _ _)))
    · have HB := Lib.hid (show s.data.toList[k]? = none by rw [List.getElem?_eq_none_iff, size_toList]; omega)
      go_wp2_with fail
      all_goals
        go_ret
        exact Took.mk hk (HX.out (fun c hc => by rw [HB.out] at hc; cases hc)) (by first | exact Or.inl rfl | exact Or.inr (Or.inl ⟨rfl, by omega⟩) | exact Or.inr (Or.inr ⟨rfl, by omega⟩)) (by first | exact Or.inl rfl | exact Or.inr (Or.inl ⟨rfl, by omega⟩) | exact Or.inr (Or.inr ⟨rfl, by omega⟩))
          (by first | exact H.out.set0 _ | exact (H.out.set0 _).set1 _) (by first | rfl | exact nameBad_t (by omega) | exact nameBad_f (by omega)) (by first | exact grown_set _ _ _ _ | exact (grown_set _ _ _ _).trans (grown_set _ _ _ _))

end Go.Proofs.Ytgbmlpidaeefoaa
