/-
  page.Resolve.
-/
import Derived.Test.YtebhbgamdhjdkaaDoorPageAddr
import Derived.Laws.AppendOwnNone
namespace Go.Proofs.YtebhbgamdhjdkaaDoor
open Go.RowKit Go.Deep

theorem info_strR : (Tryd.prog.info? 9).map (fun i => (i.zero, i.size, i.bytes)) = some (some (.string ⟨#[]⟩), 1, 16) := by kernel_rfl

theorem pstrs_one (l : List ByteArray) : ∀ u ∈ pstrs l, u.oneCell' = true := by
  intro u hu
  simp only [pstrs, List.mem_map] at hu
  obtain ⟨s, _, rfl⟩ := hu
  rfl
theorem pstrs_push (l : List ByteArray) (p : ByteArray) : pstrs (l ++ [p]) = pstrs l ++ [.string p] := by simp [pstrs]

/-- a copy of a list: append to nil -/
theorem wpList_copy {P : Program} {ops : Array Oper} {rest : List Oper} {o : Oper} {a : Act} {Q : Exit → Act → World → Prop} (W : World) (hgd : o.guard = none) (s x : Operand) (t : TypeId)
    (ho : o.op = .call { callee := .builtin .append, args := #[s, x], argTypes := #[t, t] })
    (e : TypeId) (z : Value) (bytes : Nat) (ht : P.underlying t = some (.slice e)) (hi : (P.info? e).map (fun i => (i.zero, i.size, i.bytes)) = some (some z, 1, bytes)) (hzs : z.cells.size = 1)
    (hs : a.eval s = .slice none 0 0) (A : Option Addr) (m c : Nat) (l : List ByteArray) (hx : a.eval x = .slice A m c) (hpl : PL W (.slice A m c) l) (hn : m * bytes ≤ 140737488355328) (hn' : m ≤ maxLen)
    (h : ∀ A' c' w', w'.ownsRow W.heap.size e 1 (.slice A' m c') m (pstrs l) → Below W.heap.size W w' → wpList P ops Q rest (a.put o.dst (.slice A' m c')) w') :
    wpList P ops Q (o :: rest) a W := by
  obtain ⟨i, hi1, hi2, hi3, hi4⟩ := info_parts hi
  obtain ⟨A', c', b, off, hv, hlc, hcm, hA, hcell⟩ := hpl
  cases hv
  rcases hA with ⟨rfl, rfl⟩ | rfl
  · have hl : l = [] := List.eq_nil_of_length_eq_zero (by omega)
    subst hl
    refine wpList_append_own_none hgd s x t ho W.heap.size e i 1 ht hi1 _ 0 [] hs (World.ownsRow_nil W _ e 1) hx ?_
    exact h none 0 W (World.ownsRow_nil W _ e 1) (Below.refl _ _)
  · refine wpList_append_own_at (P := P) W hgd s x t ho W.heap.size e i z 1 bytes ht hi1 hi2 hi3 hi4 hzs (by omega) _ 0 [] hs (World.ownsRow_nil W _ e 1) ⟨b, off, none⟩ l.length c (pstrs l) hx (by simp [pstrs]) ?_ (pstrs_one l) (by rw [Nat.zero_add]; exact hn') (by rw [Nat.zero_add]; exact hn) (Nat.le_refl _) ?_
    · intro j u hj
      have hadd : (⟨b, off, none⟩ : Addr).add j = ⟨b, off + j, none⟩ := by unfold Addr.add; split <;> simp_all
      rw [hadd]
      simp only [pstrs, List.getElem?_map, Option.map_eq_some_iff] at hj
      obtain ⟨p, hp, rfl⟩ := hj
      exact hcell j p hp
    · intro v' w' h2 hg _ _
      rw [Nat.zero_add, List.nil_append] at h2
      obtain ⟨A2, c2, rfl, _, _, _⟩ := own_form h2
      exact h A2 c2 w' h2 (below_of_grown hg (Nat.le_refl _) (fun g hg => by simp [Value.ownBlock] at hg))

/-- an address and an error -/
def ResPost (o : Int × List UInt8) (w : World) (e : Ending) (w' : World) : Prop := ∃ z : ByteArray, e = .returned (.tuple #[.string z, .int .i64 o.1]) ∧ z.data.toList = o.2 ∧ Below w.heap.size w w'

theorem resO_none {f r : ByteArray} (h : addrOk f = none) : resO f r = (3, []) := by unfold resO; rw [h]
theorem resO_long {f r : ByteArray} {L : List ByteArray} (h : addrOk f = some L) (h2 : 200 < r.size) : resO f r = (3, []) := by unfold resO; rw [h]; simp only; rw [if_pos h2]
theorem resO_go {f r : ByteArray} {L : List ByteArray} {b : Bool} (h : addrOk f = some L) (h2 : ¬ 200 < r.size) (hb : Lib.hasPrefix r.data.toList [47] = b) : resO f r = resF (if b = true then [] else L) (cutS r) := by
  unfold resO; rw [h]; simp only; rw [if_neg h2, hb]
theorem hasPrefix_q (s p : ByteArray) (v : Bool) (w : World) (h : Lib.hasPrefix s.data.toList p.data.toList = v) :
    Calls Tryd.prog 23 #[.string s, .string p] w fun e w' => e = .returned (.bool v) ∧ w = w' := by
  subst h
  exact (Tryd.strings_HasPrefix s p w).mono fun e w' ⟨h1, h2⟩ => ⟨h1, h2.symm⟩

theorem addr_size {z : ByteArray} {l : List ByteArray} (h : z.data.toList = addrB l) : z.size = (addrB l).length := by rw [← h, size_toList]
theorem addr_drop (L : List ByteArray) : (addrB L.dropLast).length ≤ (addrB L).length := by
  rw [List.dropLast_eq_take]; exact addrB_take_le L _
theorem addr_push_len (L : List ByteArray) (p : ByteArray) : (addrB (L ++ [p])).length = (addrB L).length + p.size + 1 := by
  rw [addrB_push]; simp only [List.length_append, List.length_cons, List.length_nil, size_toList]; omega

-- THE WALK
set_option maxRecDepth 100000 in
set_option maxHeartbeats 8000000 in
theorem resolve_q (f r : ByteArray) (o : Int × List UInt8) (w : World) (hm : MaxCell w) (ho : resO f r = o) : Calls Tryd.prog 25 #[.string f, .string r] w (ResPost o w) := by
  have HM := Lib.hid hm; clear hm
  have HO := Lib.hid ho; clear ho
  go_enter Tryd.func25, Tryd.ntmps25
  go_wp2_with fail
  refine (partsOf_q f w HM.out).mono ?_
  rintro e w1 ⟨v, b, rfl, hb1, ⟨rfl, L0, hL0, hpl⟩ | ⟨rfl, hN, rfl⟩⟩
  case inr =>
    have HX := Lib.hid (HO.out.symm.trans (resO_none (r := r) hN))
    have HB1 := Lib.hid hb1
    clear hb1 hN
    go_wp2_with fail
    go_ret2
    obtain rfl := HX.out
    exact ⟨⟨#[]⟩, rfl, rfl, HB1.out⟩
  obtain ⟨A0, c0, b0, o0, rfl, _⟩ := id hpl
  by_cases hbig : 200 < r.size
  · have HX := Lib.hid (HO.out.symm.trans (resO_long hL0 hbig))
    have HB1 := Lib.hid hb1
    clear hb1 hL0 hpl
    go_wp2_with fail
    go_ret2
    obtain rfl := HX.out
    exact ⟨⟨#[]⟩, rfl, rfl, HB1.out⟩
  have hrs : r.size ≤ 200 := by omega
  obtain ⟨bp, hbp⟩ : ∃ bp, Lib.hasPrefix r.data.toList (⟨#[47]⟩ : ByteArray).data.toList = bp := ⟨_, rfl⟩
  have HBp := Lib.hid hbp
  have HR0 := Lib.hid (HO.out.symm.trans (resO_go hL0 hbig hbp))
  have HA0 := Lib.hid (addrOk_addr hL0)
  have HP0 := Lib.hid hpl
  have HB1 := Lib.hid hb1
  have HM1 := Lib.hid (HM.out.keep (Keeps.of_below hb1))
  clear hbp hL0 hpl hb1 hbig HM
  have key : ∃ (L : List ByteArray) (A : Option Addr) (c : Nat), (if bp = true then (.slice none 0 0 : Value) else .slice A0 L0.length c0) = .slice A L.length c ∧ PL w1 (.slice A L.length c) L ∧ o = resF L (cutS r) ∧ (addrB L).length ≤ 200 := by
    cases bp
    · exact ⟨L0, A0, c0, rfl, HP0.out, HR0.out, by rw [HA0.out.1, size_toList]; exact HA0.out.2.2⟩
    · exact ⟨[], none, 0, rfl, PL.nil _, HR0.out, by decide⟩
  obtain ⟨L, A, c, hv, hPL, hoL, haL⟩ := key
  have HPL := Lib.hid hPL
  have HoL := Lib.hid hoL
  have HaL := Lib.hid haL
  clear hPL hoL haL HR0 HP0 HA0
  obtain ⟨m, hmL⟩ : ∃ m, L.length = m := ⟨_, rfl⟩
  rw [hmL] at HPL hv
  have HmL := Lib.hid hmL
  clear hmL
  have REST : True := trivial
  cases bp
  all_goals
    simp only [if_true, Bool.false_eq_true, if_false] at hv
    cases hv
    go_wp2_with (go_at_call 23; go_must (refine (hasPrefix_q _ _ _ _ HBp.out).mono ?_); rintro e w3 ⟨rfl, rfl⟩)
    refine (split_q r _ HM1.out (by omega)).mono ?_
    rintro e w2 ⟨As, rfl, hps, hb2⟩
    obtain ⟨ps, hpse⟩ : ∃ ps, cutS r = ps := ⟨_, rfl⟩
    have hpl2 : ps.length ≤ 201 := by rw [← hpse]; have := cut_le r; omega
    have HPm := Lib.hid (show ∀ p ∈ ps, p.size ≤ 201 by rw [← hpse]; intro p hp; have := cut_mem hp; omega)
    rw [hpse] at HoL hps
    rw [hpse]
    clear hpse
    obtain ⟨A', c', b, off, hv2, hlc, hcm, hA, hcell⟩ := hps
    cases hv2
    have HAs := Lib.hid hA
    have HC := Lib.hid hcell
    have HB2 := Lib.hid (HB1.out.trans (hb2.mono HB1.out.size))
    have HPL2 := Lib.hid (HPL.out.keep (Keeps.of_below hb2))
    clear hA hcell hcm hb2 HM1 HPL
    go_wp2_with fail
    go_loopw [6, 27] (fun t6 t wr => ∃ (k m : Nat) (L : List ByteArray) (A : Option Addr) (c : Nat), k ≤ ps.length ∧ t6 = .slice A m c ∧ t = .int .i64 k ∧ m ≤ 200 ∧ Hid (L.length = m) ∧ Hid (PL wr (.slice A m c) L) ∧ Hid ((addrB L).length ≤ 200) ∧ Hid (RRel o L ps k) ∧ Hid (Below w2.heap.size w2 wr)) (fun _ t _ => ps.length - (intOf t).toNat)
    case atStart => exact ⟨0, _, L, _, _, Nat.zero_le _, rfl, rfl, by have h1 := HaL.out; have h2 := addrB_len L; have h3 := HmL.out; omega, HmL, HPL2, HaL, HoL, Below.refl _ _⟩
    case round =>
      clear HPL2 HaL HoL HmL L
      obtain ⟨k, m, L, A, c, hk, rfl, rfl, hm2, HmL, HPL, HaL, HoL, HB⟩ := hrel
      by_cases hlt : k < ps.length
      · obtain ⟨p, hp⟩ : ∃ p, ps[k]? = some p := ⟨_, List.getElem?_eq_getElem hlt⟩
        have hA2 : As = some ⟨b, off, none⟩ := HAs.out.elim (fun h => by have := h.2; omega) id
        subst hA2
        have p0 := Keeps.of_below HB.out _ _ (HC.out k p hp)
        have hpsz : p.size ≤ 201 := HPm.out p (List.mem_of_getElem? hp)
        have HP := Lib.hid hp
        clear hp
        by_cases h0 : p.size = 0
        · have e0 := emptyQ_true h0
          have HS := Lib.hid (HoL.out.step HP.out (step_same (Or.inl (by rw [← Go.ByteArray.toList_eq]; exact e0))))
          go_wp2_with fail
          go_roundw
          case rel => exact ⟨k + 1, m, L, A, c, by omega, rfl, by go_num, hm2, HmL, HPL, HaL, HS, HB⟩
          case measure => simp [intOf]; omega
        have e0 := emptyQ_false h0
        by_cases h1 : p.toList = [46]
        · have HS := Lib.hid (HoL.out.step HP.out (step_same (Or.inr (by rw [← Go.ByteArray.toList_eq]; exact h1))))
          have f2 : p.size = 1 := by rw [← size_toList, ← Go.ByteArray.toList_eq, h1]; rfl
          go_wp2_with fail
          go_roundw
          case rel => exact ⟨k + 1, m, L, A, c, by omega, rfl, by go_num, hm2, HmL, HPL, HaL, HS, HB⟩
          case measure => simp [intOf]; omega
        have f1 : (p.toList == [46]) = false := by simpa using h1
        by_cases h2 : p.toList = [46, 46]
        · have f2 : p.size = 2 := by rw [← size_toList, ← Go.ByteArray.toList_eq, h2]; rfl
          have h2d : p.data.toList = [46, 46] := by rw [← Go.ByteArray.toList_eq]; exact h2
          by_cases hm0 : m = 0
          · subst hm0
            obtain rfl : L = [] := List.eq_nil_of_length_eq_zero HmL.out
            have HX := Lib.hid (HoL.out.bad HP.out (step_up0 h2d) (by decide))
            clear h1 h2d
            go_wp2_with fail
            go_ret2
            obtain rfl := HX.out
            exact ⟨⟨#[]⟩, rfl, rfl, HB2.out.trans (HB.out.mono HB2.out.size)⟩
          obtain ⟨q, rfl⟩ : ∃ q, m = q + 1 := ⟨m - 1, by omega⟩
          have hLn : L ≠ [] := by intro e; rw [e] at HmL; have := HmL.out; simp at this
          have HS := Lib.hid (HoL.out.step HP.out (step_up h2d hLn))
          have HPL3 := Lib.hid (show PL wr (.slice A q c) L.dropLast by have := HPL.out.init; rw [show q + 1 - 1 = q by omega] at this; exact this)
          have hqc : q + 1 ≤ c := by obtain ⟨A9, c9, _, _, h9, h8, _⟩ := HPL.out; have h7 := HmL.out; injection h9 with _ _ e3; omega
          clear h1 h2d hm0 hLn
          go_wp2_with fail
          go_roundw
          case rel => exact ⟨k + 1, q, L.dropLast, A, c, by omega, by first | rfl | go_num, by go_num, by omega, Lib.hid (by rw [List.length_dropLast, HmL.out]; omega), HPL3, Lib.hid (Nat.le_trans (addr_drop L) HaL.out), HS, HB⟩
          case measure => simp [intOf]; omega
        have f3 : (p.toList == [46, 46]) = false := by simpa using h2
        have HN1 := Lib.hid (show ¬ (p.data.toList = [] ∨ p.data.toList = [46]) by
          rw [← Go.ByteArray.toList_eq]
          rintro (h | h)
          · rw [h] at e0; cases e0
          · exact h1 h)
        have HN2 := Lib.hid (show ¬ p.data.toList = [46, 46] by rw [← Go.ByteArray.toList_eq]; exact h2)
        clear h1 h2
        cases hpp : partS p.data.toList
        · have HX := Lib.hid (HoL.out.bad HP.out (step_bad HN1.out HN2.out hpp) (by decide))
          go_wp2_with (go_at_call 62; go_must (refine (isPart_q _ _).mono ?_); rintro e w3 ⟨rfl, rfl⟩)
          go_ret2
          obtain rfl := HX.out
          exact ⟨⟨#[]⟩, rfl, rfl, HB2.out.trans (HB.out.mono HB2.out.size)⟩
        have HPP := Lib.hid hpp
        have hal := addr_push_len L p
        have hbs := HB.out.size
        have HaL9 := HaL.out
        go_wp2_with (first
          | (go_at_call 62; go_must (refine (isPart_q _ _).mono ?_); rintro e w3 ⟨rfl, rfl⟩)
          | (at_builtin; refine wpList_copy _ rfl (.const (.slice none 0 0)) (.tmp 31) 30 rfl 9 _ 16 Tryd.underlying30 info_strR rfl rfl A m c L rfl HPL.out (by omega) (by unfold maxLen; omega) ?_; intro A5 c5 w5 own5 hb5)
          | (at_builtin; have hh := own_alloc own5 (.cells #[.string p] 9); have k1 : (m + 1) * 16 ≤ 140737488355328 := (by omega); have k2 : m + 1 ≤ maxLen := (by unfold maxLen; omega); have k3 : wr.heap.size ≤ (w5.alloc (.cells #[.string p] 9)).heap.size := (by have := hb5.size; simp; omega); have k4 := cell_new w5 [.string p] 9 w5.heap.size rfl; go_must (refine wpList_push _ rfl (.tmp 32) (.tmp 34) 30 rfl wr.heap.size 9 _ 1 16 Tryd.underlying30 info_strR rfl (by omega) (.slice A5 m c5) m _ rfl hh [.string p] rfl _ rfl k4 (one_str _) k1 k2 k3 ?_); clear hh k1 k2 k3 k4; intro g6 c6 w6 own6 hg6 hgg6 hb6))
        have HPL6 := Lib.hid (PL.of_own (l := L ++ [p]) (by rw [pstrs_push]; exact own6))
        have HB6 := Lib.hid (HB.out.trans (((hb5.alloc hb5.size (.cells #[.string p] 9)).trans hb6).mono hbs))
        clear own5 hb5 own6 hg6 hgg6 hb6
        refine (address_q (L ++ [p]) _ w6 HPL6.out (by omega)).mono ?_
        rintro e w7 ⟨z, rfl, hz, rfl⟩
        have hzs := addr_size hz
        by_cases hlong : 200 < z.size
        · have HX := Lib.hid (HoL.out.bad HP.out (step_long HN1.out HN2.out HPP.out (by omega)) (by decide))
          go_wp2_with fail
          go_ret2
          obtain rfl := HX.out
          exact ⟨⟨#[]⟩, rfl, rfl, HB2.out.trans (HB6.out.mono HB2.out.size)⟩
        · have HS := Lib.hid (HoL.out.step HP.out (step_push HN1.out HN2.out HPP.out (by omega)))
          have hln := addrB_len (L ++ [p])
          have hl2 : (L ++ [p]).length = m + 1 := by rw [List.length_append, HmL.out]; rfl
          go_wp2_with fail
          go_roundw
          case rel => exact ⟨k + 1, m + 1, L ++ [p], some ⟨g6, 0, none⟩, c6, by omega, rfl, by go_num, by omega, Lib.hid hl2, HPL6, Lib.hid (by omega), HS, HB6⟩
          case measure => simp [intOf]; omega
      · have HX := Lib.hid (HoL.out.fin (by omega))
        have HaL9 := HaL.out
        go_wp2_with fail
        refine (address_q L _ wr HPL.out (by omega)).mono ?_
        rintro e w7 ⟨z, rfl, hz, rfl⟩
        have hzs := addr_size hz
        have hzl : ¬ 200 < z.size := by omega
        go_wp2_with fail
        refine (address_q L _ wr HPL.out (by omega)).mono ?_
        rintro e w7 ⟨z2, rfl, hz2, rfl⟩
        go_wp2_with fail
        go_ret2
        obtain rfl := HX.out
        exact ⟨_, rfl, hz2, HB2.out.trans (HB.out.mono HB2.out.size)⟩

end Go.Proofs.YtebhbgamdhjdkaaDoor
