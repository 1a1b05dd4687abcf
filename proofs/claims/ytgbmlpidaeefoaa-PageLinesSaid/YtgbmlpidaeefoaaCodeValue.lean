/-
  The reference's value of an argument, and the words of a line.
-/
import Derived.Test.YtgbmlpidaeefoaaCodeWords
import Derived.Laws.Strings2
namespace Go.Proofs.Ytgbmlpidaeefoaa
open Go.RowKit Go.Deep

/-- a string without its first and its last byte -/
def midL (l : List UInt8) : List UInt8 := (l.drop 1).dropLast

theorem midL_get {l : List UInt8} {i : Nat} (h1 : 1 ≤ i) (h2 : i + 1 < l.length) : (midL l)[i - 1]? = l[i]? := by
  unfold midL
  rw [List.dropLast_eq_take, List.getElem?_take, if_pos (by simp; omega), List.getElem?_drop, show 1 + (i - 1) = i by omega]
theorem midL_len (l : List UInt8) : (midL l).length = l.length - 2 := by simp [midL]; omega
theorem midL_drop {l : List UInt8} {i : Nat} {c : UInt8} (h1 : 1 ≤ i) (h2 : i + 1 < l.length) (hc : l[i]? = some c) : (midL l).drop (i - 1) = c :: (midL l).drop i := by
  have h3 := midL_get h1 h2
  rw [hc] at h3
  obtain ⟨hlt, he⟩ := List.getElem?_eq_some_iff.1 h3
  rw [List.drop_eq_getElem_cons hlt, he, show i - 1 + 1 = i by omega]

/-- how far a value has been read -/
def VRel (l : List UInt8) (i : Nat) (u : List UInt8) : Prop := innerF (midL l) = (innerF ((midL l).drop (i - 1))).map fun x => u ++ x

theorem VRel.bad {l u : List UInt8} {i : Nat} {c : UInt8} (h : VRel l i u) (h1 : 1 ≤ i) (h2 : i + 1 < l.length) (hc : l[i]? = some c) (hb : (c.toNat : Int) < 32 ∨ (c.toNat : Int) = 34) : innerF (midL l) = none := by
  rw [show innerF (midL l) = _ from h, midL_drop h1 h2 hc, innerF_cons]
  by_cases h3 : c.toNat < 32
  · rw [if_pos h3]; rfl
  · rw [if_neg h3, if_pos (toNat_inj (b := 34) (by rcases hb with hb | hb; · omega
                                                   · exact hb))]; rfl
theorem VRel.plain {l u : List UInt8} {i : Nat} {c : UInt8} (h : VRel l i u) (h1 : 1 ≤ i) (h2 : i + 1 < l.length) (hc : l[i]? = some c) (hb : ¬ (c.toNat : Int) < 32) (hb2 : ¬ (c.toNat : Int) = 34) (hb3 : ¬ (c.toNat : Int) = 92) : VRel l (i + 1) (u ++ [c]) := by
  unfold VRel
  rw [show innerF (midL l) = _ from h, midL_drop h1 h2 hc, innerF_cons, if_neg (by omega), if_neg (fun e => hb2 (by rw [e]; rfl)), if_neg (fun e => hb3 (by rw [e]; rfl)), show i + 1 - 1 = i by omega]
  cases innerF ((midL l).drop i) <;> simp
theorem VRel.escEnd {l u : List UInt8} {i : Nat} {c : UInt8} (h : VRel l i u) (h1 : 1 ≤ i) (h2 : i + 1 < l.length) (hc : l[i]? = some c) (hb : (c.toNat : Int) = 92) (he : l.length ≤ i + 2) : innerF (midL l) = none := by
  have h92 : c = 92 := toNat_inj hb
  have hnil : (midL l).drop i = [] := List.drop_of_length_le (by rw [midL_len]; omega)
  rw [show innerF (midL l) = _ from h, midL_drop h1 h2 hc, hnil, innerF_cons, if_neg (by omega), if_neg (by rw [h92]; decide), if_pos h92]
  rfl
theorem VRel.esc {l u : List UInt8} {i : Nat} {c d : UInt8} (h : VRel l i u) (h1 : 1 ≤ i) (h2 : i + 2 < l.length) (hc : l[i]? = some c) (hd : l[i + 1]? = some d) (hb : (c.toNat : Int) = 92) :
    if (d.toNat : Int) = 34 ∨ (d.toNat : Int) = 92 then VRel l (i + 2) (u ++ [d]) else innerF (midL l) = none := by
  have h92 : c = 92 := toNat_inj hb
  have h3 := midL_drop (i := i + 1) (by omega) (by omega) hd
  rw [show i + 1 - 1 = i by omega] at h3
  have key : innerF (midL l) = (if d = 34 ∨ d = 92 then (innerF ((midL l).drop (i + 1))).map (d :: ·) else none).map fun x => u ++ x := by
    rw [show innerF (midL l) = _ from h, midL_drop h1 (by omega) hc, h3, innerF_cons, if_neg (by omega), if_neg (by rw [h92]; decide), if_pos h92]
  by_cases h5 : d = 34 ∨ d = 92
  · rw [if_pos (by rcases h5 with h5 | h5 <;> rw [h5] <;> simp)]
    unfold VRel
    rw [key, if_pos h5, show i + 2 - 1 = i + 1 by omega]
    cases innerF ((midL l).drop (i + 1)) <;> simp
  · rw [if_neg (fun e => h5 (e.elim (fun e => Or.inl (toNat_inj e)) (fun e => Or.inr (toNat_inj e)))), key, if_neg h5]
    rfl
theorem VRel.fin {l u : List UInt8} {i : Nat} (h : VRel l i u) (he : l.length ≤ i + 1) : innerF (midL l) = some u := by
  rw [show innerF (midL l) = _ from h, List.drop_of_length_le (by rw [midL_len]; omega)]
  simp [innerF]

theorem val_none {l : List UInt8} (hb : bareL l = false) (h : ∀ t, l = 34 :: t → ¬ t.getLast? = some 34) : valF l = none := by
  unfold valF
  rw [hb]
  simp only [Bool.false_eq_true, if_false]
  cases ht : take1 34 l with
  | none => rfl
  | some t => simp only; rw [if_neg (h t (take1_some ht))]
theorem val_mid {l : List UInt8} (hb : bareL l = false) (h2 : 2 ≤ l.length) (h0 : l[0]? = some 34) (h1 : l[l.length - 1]? = some 34) : valF l = innerF (midL l) := by
  cases l with
  | nil => simp at h0
  | cons a t =>
    simp at h0
    subst h0
    have ht : t.getLast? = some 34 := by
      rw [List.getLast?_eq_getElem?]
      simp only [List.length_cons] at h2 h1
      rw [show t.length + 1 - 1 = (t.length - 1) + 1 by omega] at h1
      simpa using h1
    unfold valF
    rw [hb]
    simp only [Bool.false_eq_true, if_false, take1, if_true, ht, midL, List.drop_succ_cons, List.drop_zero]
theorem val_short {l : List UInt8} (hb : bareL l = false) (h2 : l.length < 2) : valF l = none := val_none hb (fun t e => by
  subst e
  have : t = [] := List.eq_nil_of_length_eq_zero (by simp at h2; omega)
  subst this
  simp)
theorem val_first {l : List UInt8} {c : UInt8} (hb : bareL l = false) (h0 : l[0]? = some c) (hc : ¬ (c.toNat : Int) = 34) : valF l = none := val_none hb (fun t e => by
  subst e
  simp at h0
  subst h0
  exact absurd rfl hc)
theorem val_last {l : List UInt8} {c : UInt8} (hb : bareL l = false) (h2 : 2 ≤ l.length) (h0 : l[l.length - 1]? = some c) (hc : ¬ (c.toNat : Int) = 34) : valF l = none := val_none hb (fun t e => by
  subst e
  intro h
  rw [List.getLast?_eq_getElem?] at h
  simp only [List.length_cons] at h2 h0
  rw [show t.length + 1 - 1 = (t.length - 1) + 1 by omega] at h0
  simp only [List.getElem?_cons_succ] at h0
  rw [h0] at h
  cases h
  exact hc rfl)

theorem ext_one' {s : ByteArray} {k : Nat} (h : k < s.size) : s.extract k (k + 1) = ⟨#[s[k]]⟩ := by
  refine bytes_ext ?_
  rw [ext_list]
  refine List.ext_getElem? fun i => ?_
  rw [List.getElem?_drop, List.getElem?_take]
  cases i with
  | zero => rw [if_pos (by omega), Nat.add_zero, byteR h]; rfl
  | succ i => rw [if_neg (by omega)]; rfl

/-- a value, or none -/
def ValPost (s : ByteArray) (w : World) (e : Ending) (w' : World) : Prop :=
  ∃ (z : ByteArray) (b : Bool), e = .returned (.tuple #[.string z, .bool b]) ∧ w = w' ∧ ((b = true ∧ valF s.data.toList = some z.data.toList) ∨ (b = false ∧ valF s.data.toList = none))

set_option maxRecDepth 100000 in
set_option maxHeartbeats 4000000 in
theorem valueOf_c (s : ByteArray) (w : World) (hs : s.size ≤ 1048576) : Calls Try.prog 30 #[.string s] w (ValPost s w) := by
  cases hb : bareL s.data.toList
  case true =>
    have HX := Lib.hid (val_bare hb)
    go_enter Try.func30, Try.ntmps30
    go_wp2_with (go_at_call 57; go_must (refine (bare_c _ _ (by omega)).mono ?_); rintro e w1 ⟨rfl, rfl⟩)
    go_ret2
    exact ⟨_, _, rfl, rfl, Or.inl ⟨rfl, HX.out⟩⟩
  have HBr := Lib.hid hb
  by_cases h2 : s.size < 2
  · have HX := Lib.hid (val_short hb (by rw [size_toList]; exact h2))
    go_enter Try.func30, Try.ntmps30
    go_wp2_with (go_at_call 57; go_must (refine (bare_c _ _ (by omega)).mono ?_); rintro e w1 ⟨rfl, rfl⟩)
    all_goals first
      | (exfalso; omega)
      | (go_ret2
         exact ⟨_, _, rfl, rfl, Or.inr ⟨rfl, HX.out⟩⟩)
  obtain ⟨q, hq⟩ : ∃ q, s.size = q + 1 := ⟨s.size - 1, by omega⟩
  have hq1 : 1 ≤ q := by omega
  have h0 : 0 < s.size := by omega
  have hqs : q < s.size := by omega
  have HS := Lib.hid hq
  by_cases hf : (s[0].toNat : Int) = 34
  · by_cases hl : (s[q].toNat : Int) = 34
    · have HV := Lib.hid (val_mid hb (by rw [size_toList]; omega) (by rw [byteR h0]; exact congrArg some (toNat_inj hf)) (by rw [size_toList, hq, show q + 1 - 1 = q by omega, byteR hqs]; exact congrArg some (toNat_inj hl)))
      go_enter Try.func30, Try.ntmps30
      go_wp2_with (go_at_call 57; go_must (refine (bare_c _ _ (by omega)).mono ?_); rintro e w1 ⟨rfl, rfl⟩)
      all_goals first
        | (exfalso; omega)
        | skip
      have hi9 : 2 ≤ s.size := by omega
      clear hl hq hqs hq1 HS
      go_loopw [4, 5] (fun t4 t5 wr => ∃ (i : Nat) (u : ByteArray), 1 ≤ i ∧ i + 1 ≤ s.size ∧ t4 = .string u ∧ t5 = .int .i64 i ∧ u.size ≤ i ∧ EqW wr w ∧ Hid (VRel s.data.toList i u.data.toList)) (fun _ t _ => s.size - (intOf t).toNat)
      case atStart => exact ⟨1, ⟨#[]⟩, Nat.le_refl _, hi9, rfl, rfl, Nat.zero_le _, EqW.refl _, (show innerF _ = _ by cases h : innerF (midL s.data.toList) <;> simp [h])⟩
      case round =>
        obtain ⟨i, u, hi1, hi, rfl, rfl, hui, hww, HQ⟩ := hrel
        unfold EqW at hww
        subst hww
        by_cases hlt : i + 1 < s.size
        · have hi2 : i < s.size := by omega
          have HC := Lib.hid (byteR hi2)
          have HL := Lib.hid (show i + 1 < s.data.toList.length by rw [size_toList]; omega)
          by_cases hlow : (s[i].toNat : Int) < 32
          · have HX := Lib.hid (show valF s.data.toList = none by rw [HV.out]; exact HQ.out.bad hi1 HL.out HC.out (Or.inl hlow))
            go_wp2_with fail
            go_ret2
            exact ⟨_, _, rfl, rfl, Or.inr ⟨rfl, HX.out⟩⟩
          by_cases h34 : (s[i].toNat : Int) = 34
          · have HX := Lib.hid (show valF s.data.toList = none by rw [HV.out]; exact HQ.out.bad hi1 HL.out HC.out (Or.inr h34))
            go_wp2_with fail
            go_ret2
            exact ⟨_, _, rfl, rfl, Or.inr ⟨rfl, HX.out⟩⟩
          by_cases h92 : (s[i].toNat : Int) = 92
          · by_cases hie : s.size ≤ i + 2
            · have HX := Lib.hid (show valF s.data.toList = none by rw [HV.out]; exact HQ.out.escEnd hi1 HL.out HC.out h92 (by rw [size_toList]; omega))
              go_wp2_with fail
              all_goals first
                | (exfalso; omega)
                | skip
              go_ret2
              exact ⟨_, _, rfl, rfl, Or.inr ⟨rfl, HX.out⟩⟩
            have hi3 : i + 1 < s.size := by omega
            have hi4 : i + 2 < s.size := by omega
            have HE := Lib.hid (HQ.out.esc hi1 (by rw [size_toList]; omega) HC.out (byteR hi3) h92)
            by_cases hd : (s[i + 1].toNat : Int) = 34 ∨ (s[i + 1].toNat : Int) = 92
            · have HS2 := Lib.hid (show VRel s.data.toList (i + 2) (u.data.toList ++ [s[i + 1]]) by have := HE.out; rw [if_pos hd] at this; exact this)
              have hex := Lib.hid (ext_one' hi3)
              have hI1 : (i : Int) + 1 ≤ (i : Int) + 1 + 1 := by omega
              have hI2 : (i : Int) + 1 + 1 ≤ (s.size : Int) := by omega
              have hI3 : (0 : Int) ≤ (i : Int) + 1 := by omega
              clear HE
              rcases hd with hd | hd
              all_goals
                go_wp2_with fail
                all_goals first
                  | (exfalso; omega)
                  | skip
                go_roundw
                case rel => exact ⟨i + 2, u ++ ⟨#[s[i + 1]]⟩, by omega, by omega, by rw [← hex.out], by go_num, by rw [ByteArray.size_append]; show u.size + 1 ≤ _; omega, EqW.refl _, Lib.hid (by have := HS2.out; simpa using this)⟩
                case measure => simp [intOf]; omega
            · have HX := Lib.hid (show valF s.data.toList = none by rw [HV.out]; have := HE.out; rw [if_neg hd] at this; exact this)
              have hd1 : ¬ (s[i + 1].toNat : Int) = 34 := fun e => hd (Or.inl e)
              have hd2 : ¬ (s[i + 1].toNat : Int) = 92 := fun e => hd (Or.inr e)
              have hd3 : ((s[i + 1].toNat : Int) != 34) = true := by simpa using hd1
              have hd4 : ((s[i + 1].toNat : Int) != 92) = true := by simpa using hd2
              clear HE hd hd1 hd2
              go_wp2_with fail
              all_goals first
                | (exfalso; omega)
                | skip
              go_ret2
              exact ⟨_, _, rfl, rfl, Or.inr ⟨rfl, HX.out⟩⟩
          · have HS2 := Lib.hid (HQ.out.plain hi1 HL.out HC.out hlow h34 h92)
            have hex := Lib.hid (ext_one' hi2)
            have hI1 : (i : Int) ≤ (i : Int) + 1 := by omega
            have hI2 : (i : Int) + 1 ≤ (s.size : Int) := by omega
            have hb1 : ((s[i].toNat : Int) == 34) = false := by simpa using h34
            have hb2 : ((s[i].toNat : Int) == 92) = false := by simpa using h92
            clear h34 h92
            go_wp2_with fail
            go_roundw
            case rel => exact ⟨i + 1, u ++ ⟨#[s[i]]⟩, by omega, by omega, by rw [← hex.out], by go_num, by rw [ByteArray.size_append]; show u.size + 1 ≤ _; omega, EqW.refl _, Lib.hid (by have := HS2.out; simpa using this)⟩
            case measure => simp [intOf]; omega
        · have HX := Lib.hid (show valF s.data.toList = some u.data.toList by rw [HV.out]; exact HQ.out.fin (by rw [size_toList]; omega))
          go_wp2_with fail
          go_ret2
          exact ⟨_, _, rfl, rfl, Or.inl ⟨rfl, HX.out⟩⟩
    · have HX := Lib.hid (val_last (c := s[q]) hb (by rw [size_toList]; omega) (by rw [size_toList, hq, show q + 1 - 1 = q by omega, byteR hqs]) hl)
      have hl1 : ((s[q].toNat : Int) != 34) = true := by simpa using hl
      clear hl
      go_enter Try.func30, Try.ntmps30
      go_wp2_with (go_at_call 57; go_must (refine (bare_c _ _ (by omega)).mono ?_); rintro e w1 ⟨rfl, rfl⟩)
      all_goals first
        | (exfalso; omega)
        | skip
      go_ret2
      exact ⟨_, _, rfl, rfl, Or.inr ⟨rfl, HX.out⟩⟩
  · have HX := Lib.hid (val_first hb (byteR h0) hf)
    have hf1 : ((s[0].toNat : Int) != 34) = true := by simpa using hf
    clear hf
    go_enter Try.func30, Try.ntmps30
    go_wp2_with (go_at_call 57; go_must (refine (bare_c _ _ (by omega)).mono ?_); rintro e w1 ⟨rfl, rfl⟩)
    all_goals first
      | (exfalso; omega)
      | skip
    go_ret2
    exact ⟨_, _, rfl, rfl, Or.inr ⟨rfl, HX.out⟩⟩

end Go.Proofs.Ytgbmlpidaeefoaa
