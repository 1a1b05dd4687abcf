/-
  mastref1.Resolved.
-/
import Derived.Test.YtebhbgamdhjdkaaDoorResolve
import Derived.Lib.LastIndexByte
namespace Go.Proofs.YtebhbgamdhjdkaaDoor
open Go.RowKit Go.Deep

theorem last_q (s : ByteArray) (v : Int) (w : World) (hs : s.size ≤ 1048576) (h : Lib.lastIndexByte s 47 = v) : Calls Tryd.prog 65 #[.string s, .string ⟨#[47]⟩] w fun e w' => e = .returned (.int .i64 v) ∧ w = w' := by
  subst h
  exact (Tryd.strings_LastIndex_one s ⟨#[47]⟩ rfl (by omega) w).mono fun e w' ⟨h1, h2⟩ => ⟨h1, h2.symm⟩

theorem data_at {s : ByteArray} {i : Nat} {c : UInt8} (h : s.data.toList[i]? = some c) : s.data[i]! = c := by
  obtain ⟨h1, h2⟩ := List.getElem?_eq_some_iff.1 h
  have h3 : i < s.data.size := by simpa using h1
  rw [getElem!_pos s.data i h3, ← h2]
  rfl

theorem last_at {s : ByteArray} {X P : List UInt8} (h : s.data.toList = X ++ 47 :: P) (hP : ∀ c ∈ P, c ≠ 47) : Lib.lastIndexByte s 47 = (X.length : Int) := by
  have hl := congrArg List.length h
  rw [size_toList] at hl
  simp only [List.length_append, List.length_cons] at hl
  have hx : s.data.toList[X.length]? = some 47 := by rw [h]; simp
  have hxx := data_at hx
  rcases Lib.lastIdx_spec s 47 s.size with ⟨_, h2⟩ | ⟨i, h1, h2, h3, h4⟩
  · exact absurd (by rw [hxx]; rfl) (h2 X.length (by omega))
  · show Lib.lastIdx s 47 s.size = _
    rw [h2]
    rcases Nat.lt_trichotomy i X.length with hlt | heq | hgt
    · exact absurd (by rw [hxx]; rfl) (h4 X.length hlt (by omega))
    · rw [heq]
    · exfalso
      obtain ⟨c, hc⟩ : ∃ c, P[i - X.length - 1]? = some c := ⟨_, List.getElem?_eq_getElem (by omega)⟩
      have hi : s.data.toList[i]? = some c := by
        rw [h, List.getElem?_append_right (by omega), show i - X.length = (i - X.length - 1) + 1 by omega, List.getElem?_cons_succ]
        exact hc
      rw [data_at hi] at h3
      exact hP c (List.mem_of_getElem? hc) (u47 h3)

theorem addrB_end (L : List ByteArray) : ∃ X, addrB L = X ++ [47] := by
  rcases List.eq_nil_or_concat L with rfl | ⟨M, p, rfl⟩
  · exact ⟨[], rfl⟩
  · rw [List.concat_eq_append, addrB_push]
    exact ⟨addrB M ++ p.data.toList, by simp⟩
theorem addrB_root {L : List ByteArray} (h : addrB L = [47]) : L = [] := by
  cases L with
  | nil => rfl
  | cons p r => simp [addrB, joinL] at h
theorem partS_no {l : List UInt8} (h : partS l = true) : ∀ c ∈ l, c ≠ 47 := by
  simp only [partS, Bool.and_eq_true, List.all_eq_true] at h
  intro c hc e
  have := h.2 c hc
  rw [e] at this
  exact absurd this (by decide)

/-- the last part taken off -/
theorem cut_last {u : ByteArray} {L : List ByteArray} {q : Nat} (hu : u.data.toList = addrB L) (hL : L ≠ []) (hp : ∀ p ∈ L, partS p.data.toList = true) (hq : u.size = q + 1) :
    ∃ x : Nat, Lib.lastIndexByte (u.extract 0 q) 47 = (x : Int) ∧ x + 1 ≤ u.size ∧ (u.extract 0 (x + 1)).data.toList = addrB L.dropLast := by
  rcases List.eq_nil_or_concat L with rfl | ⟨M, p, rfl⟩
  · exact absurd rfl hL
  rw [List.concat_eq_append] at *
  obtain ⟨X, hX⟩ := addrB_end M
  rw [addrB_push, hX] at hu
  have hsz := congrArg List.length hu
  rw [size_toList] at hsz
  simp only [List.length_append, List.length_cons, List.length_nil] at hsz
  refine ⟨X.length, last_at (P := p.data.toList) ?_ (partS_no (hp p (by simp))), by omega, ?_⟩
  · rw [ext_listQ, List.drop_zero, hu]
    have e1 : X ++ [47] ++ (p.data.toList ++ [47]) = (X ++ 47 :: p.data.toList) ++ [47] := by simp
    rw [e1, List.take_left' (by simp only [List.length_append, List.length_cons]; omega)]
  · rw [ext_listQ, List.drop_zero, hu, List.dropLast_concat, hX, List.take_left' (by simp)]

set_option maxRecDepth 100000 in
set_option maxHeartbeats 8000000 in
theorem resolved_q (f r : ByteArray) (o : Int × List UInt8) (w : World) (hm : MaxCell w) (ho : resO f r = o) : Calls Tryd.prog 28 #[.string f, .string r] w (ResPost o w) := by
  have HM := Lib.hid hm; clear hm
  have HO := Lib.hid ho; clear ho
  go_enter Tryd.func28, Tryd.ntmps28
  go_wp2_with fail
  refine (isAddress_q f w HM.out).mono ?_
  obtain ⟨oa, hoa⟩ : ∃ oa, addrOk f = oa := ⟨_, rfl⟩
  rw [hoa]
  rintro e w1 ⟨rfl, hb1⟩
  have HB1 := Lib.hid hb1
  have HM1 := Lib.hid (HM.out.keep (Keeps.of_below hb1))
  clear hb1 HM
  cases oa with
  | none =>
    have HX := Lib.hid (HO.out.symm.trans (resO_none (r := r) hoa))
    clear hoa
    simp only [Option.isSome_none]
    go_wp2_with fail
    go_ret2
    obtain rfl := HX.out
    exact ⟨⟨#[]⟩, rfl, rfl, HB1.out⟩
  | some L0 =>
    simp only [Option.isSome_some]
    by_cases hbig : 200 < r.size
    · have HX := Lib.hid (HO.out.symm.trans (resO_long hoa hbig))
      clear hoa
      go_wp2_with fail
      go_ret2
      obtain rfl := HX.out
      exact ⟨⟨#[]⟩, rfl, rfl, HB1.out⟩
    have hrs : r.size ≤ 200 := by omega
    obtain ⟨bp, hbp⟩ : ∃ bp, Lib.hasPrefix r.data.toList (⟨#[47]⟩ : ByteArray).data.toList = bp := ⟨_, rfl⟩
    have HBp := Lib.hid hbp
    have HR0 := Lib.hid (HO.out.symm.trans (resO_go hoa hbig hbp))
    have HA0 := Lib.hid (addrOk_addr hoa)
    clear hbp hoa hbig
    have key : ∃ (L : List ByteArray) (u : ByteArray), (if bp = true then (⟨#[47]⟩ : ByteArray) else f) = u ∧ u.data.toList = addrB L ∧ (∀ p ∈ L, partS p.data.toList = true) ∧ o = resF L (cutS r) ∧ (addrB L).length ≤ 200 := by
      cases bp
      · exact ⟨L0, f, rfl, HA0.out.1.symm, HA0.out.2.1, HR0.out, by rw [HA0.out.1, size_toList]; exact HA0.out.2.2⟩
      · exact ⟨[], ⟨#[47]⟩, rfl, rfl, (fun p hp => by cases hp), HR0.out, by decide⟩
    obtain ⟨L, u, hv, hu, hpa, hoL, haL⟩ := key
    have HU := Lib.hid hu
    have HPa := Lib.hid hpa
    have HoL := Lib.hid hoL
    have HaL := Lib.hid haL
    clear hu hpa hoL haL HR0 HA0
    cases bp
    all_goals
      simp only [if_true, Bool.false_eq_true, if_false] at hv
      subst hv
      go_wp2_with (go_at_call 23; go_must (refine (hasPrefix_q _ _ _ _ HBp.out).mono ?_); rintro e w3 ⟨rfl, rfl⟩)
      refine (split_q r _ HM1.out (by omega)).mono ?_
      rintro e w2 ⟨As, rfl, hps, hb2⟩
      obtain ⟨ps, hpse⟩ : ∃ ps, cutS r = ps := ⟨_, rfl⟩
      have hpl2 : ps.length ≤ 201 := by rw [← hpse]; have := cut_le r; omega
      have HPm := Lib.hid (show ∀ p ∈ ps, p.size ≤ 201 by rw [← hpse]; intro p hp; have := cut_mem hp; omega)
      rw [hpse] at HoL hps
      rw [hpse]
      clear hpse
      obtain ⟨A', c', b, off, hv2, hlc, hcm, hA, hcell⟩ := hps
      cases hv2
      have HAs := Lib.hid hA
      have HC := Lib.hid hcell
      have HB2 := Lib.hid (HB1.out.trans (hb2.mono HB1.out.size))
      clear hA hcell hcm hb2 HM1
      go_wp2_with fail
      go_loopw [6, 23] (fun t6 t wr => ∃ (k : Nat) (L : List ByteArray) (u : ByteArray), k ≤ ps.length ∧ t6 = .string u ∧ t = .int .i64 k ∧ EqW wr w2 ∧ Hid (u.data.toList = addrB L) ∧ Hid (∀ p ∈ L, partS p.data.toList = true) ∧ Hid ((addrB L).length ≤ 200) ∧ Hid (RRel o L ps k)) (fun _ t _ => ps.length - (intOf t).toNat)
      case atStart => exact ⟨0, L, _, Nat.zero_le _, rfl, rfl, EqW.refl _, HU, HPa, HaL, HoL⟩
      case round =>
        clear HU HPa HaL HoL L
        obtain ⟨k, L, u, hk, rfl, rfl, hww, HU, HPa, HaL, HoL⟩ := hrel
        unfold EqW at hww
        subst hww
        have hus : u.size ≤ 200 := by have := addr_size HU.out; have := HaL.out; omega
        by_cases hlt : k < ps.length
        · obtain ⟨p, hp⟩ : ∃ p, ps[k]? = some p := ⟨_, List.getElem?_eq_getElem hlt⟩
          have hA2 : As = some ⟨b, off, none⟩ := HAs.out.elim (fun h => by have := h.2; omega) id
          subst hA2
          have p0 := HC.out k p hp
          have hpsz : p.size ≤ 201 := HPm.out p (List.mem_of_getElem? hp)
          have HP := Lib.hid hp
          clear hp
          by_cases h0 : p.size = 0
          · have e0 := emptyQ_true h0
            have HS := Lib.hid (HoL.out.step HP.out (step_same (Or.inl (by rw [← Go.ByteArray.toList_eq]; exact e0))))
            go_wp2_with fail
            go_roundw
            case rel => exact ⟨k + 1, L, u, by omega, rfl, by go_num, EqW.refl _, HU, HPa, HaL, HS⟩
            case measure => simp [intOf]; omega
          have e0 := emptyQ_false h0
          by_cases h1 : p.toList = [46]
          · have HS := Lib.hid (HoL.out.step HP.out (step_same (Or.inr (by rw [← Go.ByteArray.toList_eq]; exact h1))))
            have f2 : p.size = 1 := by rw [← size_toList, ← Go.ByteArray.toList_eq, h1]; rfl
            go_wp2_with fail
            go_roundw
            case rel => exact ⟨k + 1, L, u, by omega, rfl, by go_num, EqW.refl _, HU, HPa, HaL, HS⟩
            case measure => simp [intOf]; omega
          have f1 : (p.toList == [46]) = false := by simpa using h1
          by_cases h2 : p.toList = [46, 46]
          · have f2 : p.size = 2 := by rw [← size_toList, ← Go.ByteArray.toList_eq, h2]; rfl
            have h2d : p.data.toList = [46, 46] := by rw [← Go.ByteArray.toList_eq]; exact h2
            by_cases hr0 : u.toList = [47]
            · obtain rfl : L = [] := addrB_root (by rw [← HU.out, ← Go.ByteArray.toList_eq]; exact hr0)
              have f3 : u.size = 1 := by rw [← size_toList, ← Go.ByteArray.toList_eq, hr0]; rfl
              have HX := Lib.hid (HoL.out.bad HP.out (step_up0 h2d) (by decide))
              clear h1 h2d
              go_wp2_with fail
              go_ret2
              obtain rfl := HX.out
              exact ⟨⟨#[]⟩, rfl, rfl, HB2.out⟩
            have f3 : (u.toList == [47]) = false := by simpa using hr0
            have hLn : L ≠ [] := by rintro rfl; exact hr0 (by rw [Go.ByteArray.toList_eq, HU.out]; rfl)
            have hu1 : 1 ≤ u.size := by have := addr_size HU.out; have := addrB_len L; omega
            obtain ⟨q, hq⟩ : ∃ q, u.size = q + 1 := ⟨u.size - 1, by omega⟩
            obtain ⟨x, hx1, hx2, hx3⟩ := cut_last HU.out hLn HPa.out hq
            have HS := Lib.hid (HoL.out.step HP.out (step_up h2d hLn))
            have HLx := Lib.hid hx1
            have HU2 := Lib.hid hx3
            have hI2 : ((u.size : Int) - 1) = (q : Int) := by omega
            have hI1 : (q : Int) ≤ (u.size : Int) := by omega
            have hI3 : (x : Int) + 1 ≤ (u.size : Int) := by omega
            have hes : (u.extract 0 q).size ≤ 1048576 := by rw [ByteArray.size_extract]; omega
            clear h1 h2d hr0 hLn hx1 hx3 hq
            go_wp2_with (go_at_call 65; go_must (refine (last_q _ _ _ hes HLx.out).mono ?_); rintro e w3 ⟨rfl, rfl⟩)
            go_roundw
            case rel => exact ⟨k + 1, L.dropLast, u.extract 0 (x + 1), by omega, by first | rfl | go_num, by go_num, EqW.refl _, HU2, Lib.hid (fun p hp => HPa.out p (List.dropLast_subset L hp)), Lib.hid (Nat.le_trans (addr_drop L) HaL.out), HS⟩
            case measure => simp [intOf]; omega
          have f3 : (p.toList == [46, 46]) = false := by simpa using h2
          have HN1 := Lib.hid (show ¬ (p.data.toList = [] ∨ p.data.toList = [46]) by
            rw [← Go.ByteArray.toList_eq]
            rintro (h | h)
            · rw [h] at e0; cases e0
            · exact h1 h)
          have HN2 := Lib.hid (show ¬ p.data.toList = [46, 46] by rw [← Go.ByteArray.toList_eq]; exact h2)
          clear h1 h2
          cases hpp : partS p.data.toList
          · have HX := Lib.hid (HoL.out.bad HP.out (step_bad HN1.out HN2.out hpp) (by decide))
            go_wp2_with (go_at_call 66; go_must (refine (pathPart_q _ _).mono ?_); rintro e w3 ⟨rfl, rfl⟩)
            go_ret2
            obtain rfl := HX.out
            exact ⟨⟨#[]⟩, rfl, rfl, HB2.out⟩
          have HPP := Lib.hid hpp
          have hal := addr_push_len L p
          have HaL9 := HaL.out
          have hua := addr_size HU.out
          have hzs : (u ++ (p ++ ⟨#[47]⟩)).size = (addrB (L ++ [p])).length := addr_size (by rw [joinAt, HU.out, addrB_push])
          have HU2 := Lib.hid (show (u ++ (p ++ ⟨#[47]⟩)).data.toList = addrB (L ++ [p]) by rw [joinAt, HU.out, addrB_push])
          obtain ⟨z, hz⟩ : ∃ z, u ++ (p ++ (⟨#[47]⟩ : ByteArray)) = z := ⟨_, rfl⟩
          rw [hz] at hzs HU2
          by_cases hlong : 200 < z.size
          · have HX := Lib.hid (HoL.out.bad HP.out (step_long HN1.out HN2.out HPP.out (by omega)) (by decide))
            go_wp2_with (go_at_call 66; go_must (refine (pathPart_q _ _).mono ?_); rintro e w3 ⟨rfl, rfl⟩)
            go_ret2
            obtain rfl := HX.out
            exact ⟨⟨#[]⟩, rfl, rfl, HB2.out⟩
          · have HS := Lib.hid (HoL.out.step HP.out (step_push HN1.out HN2.out HPP.out (by omega)))
            have HPa2 := Lib.hid (show ∀ x ∈ L ++ [p], partS x.data.toList = true by
              intro x hx
              cases List.mem_append.1 hx with
              | inl h => exact HPa.out x h
              | inr h => simp at h; rw [h]; exact HPP.out)
            go_wp2_with (go_at_call 66; go_must (refine (pathPart_q _ _).mono ?_); rintro e w3 ⟨rfl, rfl⟩)
            go_roundw
            case rel => exact ⟨k + 1, L ++ [p], z, by omega, rfl, by go_num, EqW.refl _, HU2, HPa2, Lib.hid (by omega), HS⟩
            case measure => simp [intOf]; omega
        · have HX := Lib.hid (HoL.out.fin (by omega))
          go_wp2_with fail
          go_ret2
          obtain rfl := HX.out
          exact ⟨_, rfl, HU.out, HB2.out⟩

end Go.Proofs.YtebhbgamdhjdkaaDoor
