/-
  TmplCompares is proved: for all values Compare gives what the reference's Compared gives. No condition.
-/
import Derived.Test.YtbkgkmmjlihpeaaCompare
import Derived.Test.YtbkgkmmjlihpeaaLaw
namespace Go.Proofs.Ytbkgkmmjlihpeaa
open Go.RowKit Go.ChangeShapes Go.WideShapes Go.ChangeAt Go.Deep

set_option maxHeartbeats 1000000 in
theorem tmplCompares_walk (k0 k1 i0 i1 : Int) (b0 b1 : Bool) (t0 t1 : ByteArray) (A0 E0 A1 E1 : Option Addr) (n0 c0 m0 d0 n1 c1 m1 d1 : Nat) (w : World) :
    Calls Try.prog 3 #[.agg #[.int .i64 k0, .bool b0, .int .i64 i0, .string t0, .slice A0 n0 c0, .slice E0 m0 d0], .agg #[.int .i64 k1, .bool b1, .int .i64 i1, .string t1, .slice A1 n1 c1, .slice E1 m1 d1]] w fun e w' => e = .returned (.bool true) ∧ Below w.heap.size w w' := by
  go_enter Try.func3, Try.ntmps3
  go_wp2_with fail
  refine (compare_any _ _ _ _ _ _ _ _ _ _ _ _ _ _ _ _ _ _ _ _ _).mono ?_
  rintro e w1 ⟨rfl, hb⟩
  have hbc := (bcell hb).1
  have hz := hb.size
  simp only [World.size_alloc] at hz
  have hb0 := fun o => hbc w.heap.size o (by simp only [World.size_alloc]; omega)
  have hb1 := fun o => hbc (w.heap.size + 1) o (by simp only [World.size_alloc]; omega)
  clear hbc
  have HA := Lib.hid ((((Below.refl w.heap.size w).alloc (Nat.le_refl _) _).alloc (by simp) _).trans (hb.mono (by simp; omega)))
  clear hb
  generalize hc : cmpV k0 b0 i0 t0 k1 b1 i1 t1 = cv
  obtain ⟨p, q⟩ := cv
  have HC := Lib.hid hc; clear hc
  go_wp2_with fail
  refine (compared_any _ _ _ _ _ _ _ _ _ _ _ _ _ _ _ _ _ _ _ _ _).mono ?_
  rintro e w2 ⟨rfl, hb2⟩
  rw [HC.out]
  have HB := Lib.hid (HA.out.trans (hb2.mono HA.out.size)); clear hb2 hb0 hb1
  have e1 : (p == p) = true := by simp
  have e2 : (q == q) = true := by simp
  go_wp2_with fail
  go_ret
  exact ⟨rfl, HB.out⟩

theorem open_value {H : Type} {enc : TypeId × Value → H} {w : World} {base : Nat} {sp : Nat → Bool} {hd : Bool} {r : Reach} {b0 : Nat} {v : Value} {d : DataW H} {ps : List MemPlace}
    (hv : Value.okWide Try.prog w r b0 25 v) (h : DataW.Trod enc Try.prog w base sp hd 25 v d ps) :
    ∃ (k : Int) (b : Bool) (i : Int) (t : ByteArray) (A : Option Addr) (n c : Nat) (E : Option Addr) (m d : Nat), v = .agg #[.int .i64 k, .bool b, .int .i64 i, .string t, .slice A n c, .slice E m d] := by
  obtain ⟨cs, rfl, hsz⟩ := okWide_struct Try.underlying25 hv
  obtain ⟨fuel, hf⟩ := h
  obtain ⟨m', ys, hm', hyl, hyd, hcl, hfl⟩ := open_fields Try.underlying25 (by kernel_rfl) (by kernel_rfl) hf
  obtain ⟨v0, y0, hv0, hy0, t0⟩ := hfl 0 _ rfl
  obtain ⟨v1, y1, hv1, hy1, t1⟩ := hfl 1 _ rfl
  obtain ⟨v2, y2, hv2, hy2, t2⟩ := hfl 2 _ rfl
  obtain ⟨v3, y3, hv3, hy3, t3⟩ := hfl 3 _ rfl
  obtain ⟨v4, y4, hv4, hy4, t4⟩ := hfl 4 _ rfl
  obtain ⟨v5, y5, hv5, hy5, t5⟩ := hfl 5 _ rfl
  obtain ⟨k, e0, _, _⟩ := DataW.trod_int Try.underlying3 t0
  obtain ⟨b, e1, _⟩ := DataW.trod_bool Try.underlying4 t1
  obtain ⟨i, e2, _, _⟩ := DataW.trod_int Try.underlying3 t2
  obtain ⟨t, e3, _, _⟩ := DataW.trod_string Try.underlying9 t3
  have e4 : ∃ A n c, v4 = .slice A n c := by
    rcases DataW.trod_slice Try.underlying22 t4 with ⟨h4, _⟩ | ⟨a, len, cap, _, _, _, _, h4, _⟩
    · simp only [List.cons.injEq, and_true] at h4; exact ⟨_, _, _, h4⟩
    · simp only [List.cons.injEq, and_true] at h4; exact ⟨_, _, _, h4⟩
  have e5 : ∃ A n c, v5 = .slice A n c := by
    rcases DataW.trod_slice Try.underlying23 t5 with ⟨h4, _⟩ | ⟨a, len, cap, _, _, _, _, h4, _⟩
    · simp only [List.cons.injEq, and_true] at h4; exact ⟨_, _, _, h4⟩
    · simp only [List.cons.injEq, and_true] at h4; exact ⟨_, _, _, h4⟩
  obtain ⟨A, n, c, rfl⟩ := e4
  obtain ⟨E, m, d, rfl⟩ := e5
  simp only [List.cons.injEq, and_true] at e0 e1 e2 e3
  subst e0 e1 e2 e3
  obtain ⟨l⟩ := cs
  simp only [Value.cells] at hv0 hv1 hv2 hv3 hv4 hv5 hcl
  match l, hcl with
  | [a0, a1, a2, a3, a4, a5], _ =>
    simp only [List.getElem?_cons_zero, List.getElem?_cons_succ, Option.some.injEq] at hv0 hv1 hv2 hv3 hv4 hv5
    subst hv0 hv1 hv2 hv3 hv4 hv5
    exact ⟨k, b, i, t, A, n, c, E, m, d, rfl⟩

set_option maxRecDepth 100000 in
theorem tmplCompares_calls (H : Type) (enc : TypeId × Value → H) (W : World) (base : Nat) (args : Array Value) (ds gs : List (DataW H)) (before : List MemPlace)
    (hval : ∀ (j : Nat) t v, Try.f3.params[j]? = some t → args[j]? = some v → Value.okWide Try.prog W .any base t v)
    (hW : DataW.Whole enc Try.prog Try.f3.params.toList Rows.tmplComparesSpec.vars false W args.toList ds gs before) :
    Calls Try.prog 3 args W fun e W' => ∃ v, e = .returned v ∧ Rows.tmplComparesSpec.post enc Try.prog Try.f3 false true false false W args v W' := by
  have hW' := hW
  obtain ⟨p, q, hA0, hV, rfl, hfz, hnd⟩ := hW
  have hA : DataW.TrodAll enc Try.prog W 0 (fun _ => true) true Try.f3.params.toList args.toList ds p := hA0
  rw [Try.params3] at hA hval
  obtain ⟨v0, v1, d0, d1, p0, p1, rfl, rfl, rfl, h0, h1⟩ := trodAll_two hA
  obtain ⟨rfl, rfl⟩ := trodVars_none hV
  obtain ⟨k0, b0, i0, t0, A0, n0, c0, E0, m0, z0, rfl⟩ := open_value (hval 0 25 v0 rfl rfl) h0
  obtain ⟨k1, b1, i1, t1, A1, n1, c1, E1, m1, z1, rfl⟩ := open_value (hval 1 25 v1 rfl rfl) h1
  refine (tmplCompares_walk _ _ _ _ _ _ _ _ _ _ _ _ _ _ _ _ _ _ _ _ W).mono fun e W' ⟨he, hb⟩ => ?_
  subst he
  refine ⟨_, rfl, law_post rfl rfl (tb := 4) (by kernel_rfl) Try.underlying4 ?_ hW' hb⟩
  rw [Try.params3]
  intro t ht
  simp only [List.mem_cons, List.not_mem_nil, or_false] at ht
  rcases ht with rfl | rfl <;> exact ⟨by kernel_rfl, of_decide_eq_true (by kernel_rfl)⟩

set_option maxRecDepth 100000 in
theorem tmplCompares_lifted (os : Os) (started : os.Started) (H : Type) (enc : TypeId × Value → H) :
    ReturnsInHanded {} Try.checked os 3 .any (Rows.tmplComparesSpec.pre6 enc Try.prog Try.f3 Rows.tmplComparesRow.domain false) (Rows.tmplComparesSpec.post enc Try.prog Try.f3 false true false false) := by
  refine returnsInHanded_of_change (C := Try.checked) own started (by kernel_rfl) Try.func3
    (ChangeSpec.witness6 (enc := enc) (C := Try.checked) false ⟨#[], #[.agg #[.int .i64 0, .bool false, .int .i64 0, .string ⟨#[]⟩, .slice none 0 0, .slice none 0 0], .agg #[.int .i64 0, .bool false, .int .i64 0, .string ⟨#[]⟩, .slice none 0 0, .slice none 0 0]], []⟩ 8 (by kernel_rfl) (by kernel_rfl) (by kernel_rfl) (by kernel_rfl)) ?_
  intro W base args ds gs before hval0 hW _ _
  exact tmplCompares_calls H enc W base args ds gs before hval0 hW

theorem tmplCompares_holds : Rows.TmplComparesSaid :=
  OpenClaim.holds_of_wide 3 Try.f3 rfl rfl rfl rfl rfl rfl rfl ⟨rfl, rfl, rfl, rfl, rfl⟩ rfl rfl rfl rfl rfl (by kernel_rfl) Try.func3 (by kernel_rfl)
    (of_decide_eq_true (by kernel_rfl)) (by unfold Func.isWrapper; first | (rw [if_pos (by decide +kernel)]; kernel_rfl) | (rw [if_neg (by decide +kernel)]; exact ⟨rfl, rfl⟩))
    (fun os started H enc _ => tmplCompares_lifted os started H enc)

end Go.Proofs.Ytbkgkmmjlihpeaa
