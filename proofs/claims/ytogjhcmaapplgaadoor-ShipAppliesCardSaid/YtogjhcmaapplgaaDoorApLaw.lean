/-
  The law of a step, walked.
-/
import Derived.Test.YtogjhcmaapplgaaDoorApRef
namespace Go.Proofs.YtogjhcmaapplgaaDoor
open Go.RowKit Go.ChangeShapes Go.WideShapes Go.Deep

set_option maxRecDepth 100000 in
set_option maxHeartbeats 2000000 in
theorem equalOuts_same (l : List OutV) (v1 v2 : Value) (w : World) (h1 : OutsAt w v1 l) (h2 : OutsAt w v2 l) :
    Calls Tryd.prog 6 #[v1, v2] w fun e w' => e = .returned (.bool true) ∧ Below w.heap.size w w' := by
  obtain ⟨A1, c1, b1, o1, rfl, hl1, hc1, hA1, hcell1⟩ := h1
  obtain ⟨A2, c2, b2, o2, rfl, hl2, hc2, hA2, hcell2⟩ := h2
  have HC1 := Lib.hid hcell1; have HC2 := Lib.hid hcell2
  have HA1 := Lib.hid hA1; have HA2 := Lib.hid hA2
  clear hcell1 hcell2 hA1 hA2
  unfold maxLen at hc1
  go_enter Tryd.func6, Tryd.ntmps6
  go_wp2_with fail
  go_loopw [13] (fun i wr => ∃ k q : Nat, k ≤ l.length ∧ i = .int .i64 k ∧ wr = w.drewN q) (fun i _ => l.length - (intOf i).toNat)
  case atStart => exact ⟨0, 0, Nat.zero_le _, rfl, rfl⟩
  case round =>
    obtain ⟨k, q, hk, rfl, rfl⟩ := hrel
    by_cases hlt : k < l.length
    · have hne : l ≠ [] := by intro h; rw [h] at hlt; simp at hlt
      obtain rfl := HA1.out hne
      obtain rfl := HA2.out hne
      obtain ⟨x, hx⟩ : ∃ x, l[k]? = some x := ⟨_, List.getElem?_eq_getElem hlt⟩
      obtain ⟨p0, p1⟩ := HC1.out k x hx
      obtain ⟨q0, q1⟩ := HC2.out k x hx
      clear hx
      go_wp2_with fail
      go_quiet (fail)
      go_wp2_with fail
      go_roundw
      case rel => exact ⟨k + 1, q + nq, by omega, by go_num, rfl⟩
      case measure => simp [intOf]; omega
    · go_wp2_with fail
      go_ret
      exact ⟨rfl, Below.drewN' (Below.refl _ _) _⟩

section
variable {H : Type} {enc : TypeId × Value → H} {w : World} {base : Nat} {spare : Nat → Bool} {held : Bool}
/-- an argument that is a step -/
theorem open_step {r : Reach} {b0 : Nat} {v : Value} {d : DataW H} {ps : List MemPlace} (hv : Value.okWide Tryd.prog w r b0 24 v) (h : DataW.Trod enc Tryd.prog w base spare held 24 v d ps) :
    ∃ (rm : Bool) (fv : Value) (F : List OutV), v = .agg #[.bool rm, fv] ∧ OutsAt w fv F := by
  obtain ⟨cs, rfl, hsz⟩ := okWide_struct Tryd.underlying24 hv
  obtain ⟨fuel, hf⟩ := h
  obtain ⟨m', ys, hm', hyl, hyd, hcl, hfl⟩ := open_fields Tryd.underlying24 (by kernel_rfl) (by kernel_rfl) hf
  obtain ⟨v0, y0, hv0, hy0, t0⟩ := hfl 0 _ rfl
  obtain ⟨v1, y1, hv1, hy1, t1⟩ := hfl 1 _ rfl
  obtain ⟨rm, e0, _⟩ := DataW.trod_bool Tryd.underlying4 t0
  obtain ⟨fv, F, e1, hF⟩ := open_outs _ _ _ t1
  simp only [List.cons.injEq, and_true] at e0 e1
  subst e0 e1
  refine ⟨rm, v1, F, ?_, hF⟩
  obtain ⟨cl⟩ := cs
  simp only [Value.cells] at hv0 hv1 hcl
  match cl, hcl with
  | [a0, a1], _ =>
    simp only [List.getElem?_cons_zero, List.getElem?_cons_succ, Option.some.injEq] at hv0 hv1
    subst hv0 hv1
    rfl
end

set_option maxRecDepth 100000 in
set_option maxHeartbeats 2000000 in
theorem shipApplies_walk (l F : List OutV) (vl vF : Value) (rm : Bool) (w : World) (hl : OutsAt w vl l) (hF : OutsAt w vF F) (hm : MaxAt w) : Calls Tryd.prog 3 #[vl, .agg #[.bool rm, vF]] w fun e w' => e = .returned (.bool true) ∧ Below w.heap.size w w' := by
  have HL := Lib.hid hl
  have HF := Lib.hid hF
  have HMx := Lib.hid hm; clear hm
  obtain ⟨N, hN⟩ : ∃ N, w.heap.size = N := ⟨_, rfl⟩
  have HN := Lib.hid hN
  rw [hN]
  obtain ⟨A1, c1, b1, o1, rfl, hlc1, hc1, hA1, hcell1⟩ := hl
  obtain ⟨A2, c2, b2, o2, rfl, hlc2, hc2, hA2, hcell2⟩ := hF
  clear hcell1 hcell2 hA1 hA2
  have HX0 := Lib.hid (CB.new w #[.bool rm, .slice A2 F.length c2] 24)
  obtain ⟨W0, hW0⟩ : ∃ W0, w.alloc (.cells #[.bool rm, .slice A2 F.length c2] 24) = W0 := ⟨_, rfl⟩
  have HW0 := Lib.hid hW0
  have HB0 := Lib.hid (show Below N w W0 by rw [← hW0]; exact (Below.refl _ _).alloc (by omega) _)
  rw [hW0] at HX0
  have hz0 : N + 1 = W0.heap.size := by rw [← hW0, World.size_alloc, hN]
  have HZ0 := Lib.hid hz0
  have bx0 := HX0.out.c 0
  have bx1 := HX0.out.c 1
  obtain ⟨e, he⟩ : ∃ e, apE l F rm = e := ⟨_, rfl⟩
  obtain ⟨r, hr⟩ : ∃ r, apV l F rm = r := ⟨_, rfl⟩
  have h1 := apply_q l F _ _ rm W0 (HL.out.keep (Keeps.of_below (by rw [hN]; exact HB0.out))) (HF.out.keep (Keeps.of_below (by rw [hN]; exact HB0.out))) (HMx.out.keep (Keeps.of_below (by rw [hN]; exact HB0.out)))
  have h2 := fun W1 (hb : Below W0.heap.size W0 W1) => applyOf_q l F (.slice A1 l.length c1) (.slice A2 F.length c2) rm W1 (HL.out.keep (Keeps.of_below (by rw [hN]; exact HB0.out.trans (hb.mono (by omega))))) (HF.out.keep (Keeps.of_below (by rw [hN]; exact HB0.out.trans (hb.mono (by omega))))) (HMx.out.keep (Keeps.of_below (by rw [hN]; exact HB0.out.trans (hb.mono (by omega)))))
  unfold ApPost at h1 h2
  rw [he, hr] at h1 h2
  have H1 := Lib.hid h1
  have H2 := Lib.hid h2
  clear h1 h2 he hr hN hz0 hc1 hc2 hlc1 hlc2 hW0
  go_enter Tryd.func3, Tryd.ntmps3
  go_wp2_with fail
  rw [HW0.out]
  go_wp2_with fail
  refine H1.out.mono ?_
  rintro e1 w1 ⟨v1, rfl, own1, hb1⟩
  have X1 := Lib.hid (HX0.out.below hb1)
  have HO1 := Lib.hid own1
  have HB1 := Lib.hid hb1
  clear own1 hb1 bx0 bx1
  have bx0 := X1.out.c 0
  have bx1 := X1.out.c 1
  obtain ⟨B1, d1, rfl, _, _, _⟩ := own_form HO1.out
  go_wp2_with fail
  refine (H2.out w1 HB1.out).mono ?_
  rintro e2 w2 ⟨v2, rfl, own2, hb2⟩
  have HO2 := Lib.hid (own_keepB2 HO1.out hb2)
  have HP2 := Lib.hid own2
  have HB2 := Lib.hid (HB1.out.trans (hb2.mono HB1.out.size))
  clear own2 hb2 bx0 bx1
  obtain ⟨B2, d2, rfl, _, _, _⟩ := own_form HP2.out
  have ee : (e == e) = true := by simp
  go_wp2_with (go_at_call 6; go_must (refine (equalOuts_same r _ _ w2 (outs_own HO2.out) (outs_own HP2.out)).mono ?_); rintro e3 w3 ⟨rfl, hb3⟩; have HB3 := Lib.hid (HB2.out.trans (hb3.mono HB2.out.size)); clear hb3)
  go_ret
  exact ⟨rfl, HB0.out.trans (HB3.out.mono (by have := HZ0.out; omega))⟩

end Go.Proofs.YtogjhcmaapplgaaDoor
