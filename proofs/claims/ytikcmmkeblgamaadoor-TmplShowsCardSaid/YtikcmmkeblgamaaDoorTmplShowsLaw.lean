/-
  TmplShows is proved: for all values Show and Truth answer as the reference's Shown and IsTrue do. No condition of its own; the card.
-/
import Derived.Test.YtikcmmkeblgamaaDoorShow3
import Derived.Test.YtikcmmkeblgamaaDoorLaw
import Derived.Deep.RegionWith
import Derived.Test.YtikcmmkeblgamaaDoorCards
import Derived.Test.YtikcmmkeblgamaaDoorTie
import Derived.OpenShut
import Derived.Deep.DeepHandedRow
import Derived.Lib.LaidTab
import Derived.Lay
namespace Go.Proofs.YtikcmmkeblgamaaDoor
open Go.RowKit Go.ChangeShapes Go.WideShapes Go.ChangeAt Go.Deep

set_option maxRecDepth 100000 in
set_option maxHeartbeats 2000000 in
theorem tmplShows_walk (k : Int) (b : Bool) (i : Int) (t : ByteArray) (A : Option Addr) (n c : Nat) (E : Option Addr) (m d : Nat) (w : World) (hi : I64 i) (ht : TabOk w) :
    Calls Tryd.prog 4 #[valV k b i t A n c E m d] w fun e w' => e = .returned (.bool true) ∧ Below w.heap.size w w' := by
  have HT := Lib.hid (ht.keep ((Below.refl _ _).alloc (Nat.le_refl _) (.cells #[.int .i64 k, .bool b, .int .i64 i, .string t, .slice A n c, .slice E m d] 29))); clear ht
  have HIi := Lib.hid hi; clear hi
  have HA := Lib.hid ((Below.refl w.heap.size w).alloc (Nat.le_refl _) (.cells #[.int .i64 k, .bool b, .int .i64 i, .string t, .slice A n c, .slice E m d] 29))
  go_enter Tryd.func4, Tryd.ntmps4
  go_wp2_with fail
  refine (show_any k b i t A n c E m d _ HIi.out HT.out).mono ?_
  obtain ⟨sv, hsv⟩ : ∃ p, showV k b i t = p := ⟨_, rfl⟩
  rw [hsv]
  have HSv := Lib.hid hsv; clear hsv
  rintro e w1 ⟨rfl, hb1⟩
  obtain ⟨bc1, bc2⟩ := bcell hb1
  have HB1 := Lib.hid (HA.out.trans (hb1.mono HA.out.size))
  have HT2 := Lib.hid (HT.out.keep hb1)
  have hz1 := hb1.size
  simp only [World.size_alloc] at hz1
  clear hb1
  go_wp2_with fail
  refine (shown_any k b i t A n c E m d _ HIi.out HT2.out).mono ?_
  rw [HSv.out]
  rintro e w2 ⟨rfl, hb2⟩
  have c0 := fun o => (bcell hb2).1 w.heap.size o (by omega)
  have HB2 := Lib.hid (HB1.out.trans (hb2.mono HB1.out.size))
  have hz2 := hb2.size
  clear hb2
  have e1 : (sv.2 == sv.2) = true := by simp
  have e2 : (truthV k b i t n == truthV k b i t n) = true := by simp
  go_wp2_with fail
  go_region_with (first
    | (go_at_call 16; refine (truth_v k b i t A n c E m d _).mono ?_; rintro e w3 ⟨rfl, hbT⟩; have hcT := fun o => (bcell hbT).1 w.heap.size o (by (try simp only [World.size_drew]); omega); have hzT := hbT.size; (try simp only [World.size_drew] at hzT))
    | (go_at_call 17; refine (isTrue_v k b i t A n c E m d _).mono ?_; rintro e w4 ⟨rfl, hbI⟩; have hcI := fun o => (bcell hbI).1 w.heap.size o (by (try simp only [World.size_drew]); omega); have hzI := hbI.size; (try simp only [World.size_drew] at hzI)))
  all_goals
    go_wp2_with fail
    go_ret
    refine ⟨rfl, ?_⟩
    first
    | exact (HB2.out.drew.trans (hbT.mono HB2.out.size)).trans (hbI.mono (Nat.le_trans HB2.out.size hzT))
    | exact (HB2.out.drew.trans (hbI.mono HB2.out.size)).trans (hbT.mono (Nat.le_trans HB2.out.size hzI))

theorem tab_of_laid {W : World} (h : laidMet Tryd.prog Rows.tmplShowsRow.laid W) : TabOk W := by
  obtain ⟨ps, hv, _, _⟩ := h
  obtain ⟨_, _, _, _, _, _, _, _, _, _, hv2, _⟩ := hv
  obtain ⟨_, _, _, _, _, _, _, _, _, _, hv3, _⟩ := hv2
  obtain ⟨g', t', cs, fuel, p, q, hg', ht', hvar, hd, _, _⟩ := hv3
  obtain rfl := Option.some.inj ((show Tryd.prog.globalNamed "internal/strconv.uint64pow10" = some 3 by kernel_rfl).symm.trans hg')
  obtain rfl := Option.some.inj ((show (Tryd.prog.globals[3]?).map (·.type) = some 139 by kernel_rfl).symm.trans ht')
  unfold TabOk Lib.TabIs
  rw [hvar, ← Lib.cells_of_tab (k := .u64) (zs := Lib.pow10Tab) Tryd.underlying139 Tryd.underlying117 (by kernel_rfl) (by kernel_rfl) hd]

set_option maxRecDepth 100000 in
theorem open_value {H : Type} {enc : TypeId × Value → H} {w : World} {base : Nat} {sp : Nat → Bool} {hd : Bool} {r : Reach} {b0 : Nat} {v : Value} {d : DataW H} {ps : List MemPlace}
    (hv : Value.okWide Tryd.prog w r b0 29 v) (h : DataW.Trod enc Tryd.prog w base sp hd 29 v d ps) :
    ∃ (k : Int) (b : Bool) (i : Int) (t : ByteArray) (A : Option Addr) (n c : Nat) (E : Option Addr) (m d : Nat), I64 i ∧ v = .agg #[.int .i64 k, .bool b, .int .i64 i, .string t, .slice A n c, .slice E m d] := by
  obtain ⟨cs, rfl, hsz⟩ := okWide_struct Tryd.underlying29 hv
  obtain ⟨fuel, hf⟩ := h
  obtain ⟨m', ys, hm', hyl, hyd, hcl, hfl⟩ := open_fields Tryd.underlying29 (by kernel_rfl) (by kernel_rfl) hf
  obtain ⟨v0, y0, hv0, hy0, t0⟩ := hfl 0 _ rfl
  obtain ⟨v1, y1, hv1, hy1, t1⟩ := hfl 1 _ rfl
  obtain ⟨v2, y2, hv2, hy2, t2⟩ := hfl 2 _ rfl
  obtain ⟨v3, y3, hv3, hy3, t3⟩ := hfl 3 _ rfl
  obtain ⟨v4, y4, hv4, hy4, t4⟩ := hfl 4 _ rfl
  obtain ⟨v5, y5, hv5, hy5, t5⟩ := hfl 5 _ rfl
  obtain ⟨k, e0, _, _⟩ := DataW.trod_int Tryd.underlying3 t0
  obtain ⟨b, e1, _⟩ := DataW.trod_bool Tryd.underlying4 t1
  obtain ⟨i, e2, _, wi⟩ := DataW.trod_int Tryd.underlying3 t2
  obtain ⟨t, e3, _, _⟩ := DataW.trod_string Tryd.underlying9 t3
  have e4 : ∃ A n c, v4 = .slice A n c := by
    rcases DataW.trod_slice Tryd.underlying27 t4 with ⟨h4, _⟩ | ⟨a, len, cap, _, _, _, _, h4, _⟩
    · simp only [List.cons.injEq, and_true] at h4; exact ⟨_, _, _, h4⟩
    · simp only [List.cons.injEq, and_true] at h4; exact ⟨_, _, _, h4⟩
  have e5 : ∃ A n c, v5 = .slice A n c := by
    rcases DataW.trod_slice Tryd.underlying24 t5 with ⟨h4, _⟩ | ⟨a, len, cap, _, _, _, _, h4, _⟩
    · simp only [List.cons.injEq, and_true] at h4; exact ⟨_, _, _, h4⟩
    · simp only [List.cons.injEq, and_true] at h4; exact ⟨_, _, _, h4⟩
  obtain ⟨A, n, c, rfl⟩ := e4
  obtain ⟨E, m, d, rfl⟩ := e5
  simp only [List.cons.injEq, and_true] at e0 e1 e2 e3
  subst e0 e1 e2 e3
  obtain ⟨l⟩ := cs
  simp only [Value.cells] at hv0 hv1 hv2 hv3 hv4 hv5 hcl
  match l, hcl with
  | [a0, a1, a2, a3, a4, a5], _ =>
    simp only [List.getElem?_cons_zero, List.getElem?_cons_succ, Option.some.injEq] at hv0 hv1 hv2 hv3 hv4 hv5
    subst hv0 hv1 hv2 hv3 hv4 hv5
    exact ⟨k, b, i, t, A, n, c, E, m, d, I64.of_wf wi, rfl⟩

set_option maxRecDepth 100000 in
theorem tmplShows_calls (H : Type) (enc : TypeId × Value → H) (W : World) (base : Nat) (args : Array Value) (ds gs : List (DataW H)) (before : List MemPlace)
    (hval : ∀ (j : Nat) t v, Tryd.f4.params[j]? = some t → args[j]? = some v → Value.okWide Tryd.prog W .any base t v)
    (hW : DataW.Whole enc Tryd.prog Tryd.f4.params.toList Rows.tmplShowsSpec.vars false W args.toList ds gs before) (hTab : TabOk W) :
    Calls Tryd.prog 4 args W fun e W' => ∃ v, e = .returned v ∧ Rows.tmplShowsSpec.post enc Tryd.prog Tryd.f4 false true false false W args v W' := by
  have hW' := hW
  obtain ⟨p, q, hA0, hV, rfl, hfz, hnd⟩ := hW
  have hA : DataW.TrodAll enc Tryd.prog W 0 (fun _ => true) true Tryd.f4.params.toList args.toList ds p := hA0
  rw [Tryd.params4] at hA hval
  obtain ⟨v0, d0, rfl, rfl, h0⟩ := trodAll_one hA
  obtain ⟨rfl, rfl⟩ := trodVars_none hV
  obtain ⟨k0, b0, i0, t0, A0, n0, c0, E0, m0, z0, hI0, rfl⟩ := open_value (hval 0 29 v0 rfl rfl) h0
  refine (tmplShows_walk _ _ _ _ _ _ _ _ _ _ W hI0 hTab).mono fun e W' ⟨he, hb⟩ => ?_
  subst he
  refine ⟨_, rfl, law_post rfl rfl (tb := 4) (by kernel_rfl) Tryd.underlying4 ?_ hW' hb⟩
  rw [Tryd.params4]
  intro t ht
  simp only [List.mem_cons, List.not_mem_nil, or_false] at ht
  subst ht
  exact ⟨by kernel_rfl, of_decide_eq_true (by kernel_rfl)⟩

set_option maxRecDepth 100000 in
theorem tmplShows_met (os : Os) : laidMet Tryd.prog Rows.tmplShowsRow.laid ((World.laidAll Tryd.prog os Rows.tmplShowsRow.laid).forCall (fun _ _ => 0) ⟨#[], #[.agg #[.int .i64 0, .bool false, .int .i64 0, .string ⟨#[]⟩, .slice none 0 0, .slice none 0 0]], []⟩).memory :=
  laidMet_laidAll _ (by kernel_rfl) (by kernel_rfl)

theorem tmplShows_reads (os : Os) {H : Type} (enc : TypeId × Value → H) : ∃ places, DataW.whole enc Tryd.prog ((World.laidAll Tryd.prog os Rows.tmplShowsRow.laid).forCall (fun _ _ => 0) ⟨#[], #[.agg #[.int .i64 0, .bool false, .int .i64 0, .string ⟨#[]⟩, .slice none 0 0, .slice none 0 0]], []⟩).memory Tryd.f4.params.toList Rows.tmplShowsSpec.vars false (#[(.agg #[.int .i64 0, .bool false, .int .i64 0, .string ⟨#[]⟩, .slice none 0 0, .slice none 0 0] : Value)] : Array Value).toList 8 = some ([.agg [.lit (.int .i64 0), .lit (.bool false), .lit (.int .i64 0), .lit (.string []), .nil, .nil]], [], places) :=
  ⟨[], by kernel_rfl⟩

set_option maxRecDepth 100000 in
theorem tmplShows_lifted (os : Os) (started : os.Started) (H : Type) (enc : TypeId × Value → H) (F : Stop.Interp) :
    ReturnsInHanded {} Tryd.checked os 4 .any ((OpenSpec.ofChange Rows.tmplShowsSpec).preRow enc Tryd.prog Tryd.f4 Rows.tmplShowsRow.domain false Rows.tmplShowsRow.laid) (((OpenSpec.ofChange Rows.tmplShowsSpec).at F).post enc Tryd.prog Tryd.f4 false true false false) := by
  obtain ⟨places, hx⟩ := tmplShows_reads os enc
  refine returnsInHanded_of_row (C := Tryd.checked) (s := (OpenSpec.ofChange Rows.tmplShowsSpec)) own started (by kernel_rfl) Tryd.func4
    (witness_row_at (enc := enc) (C := Tryd.checked) false (World.laidAll Tryd.prog os Rows.tmplShowsRow.laid) #[.agg #[.int .i64 0, .bool false, .int .i64 0, .string ⟨#[]⟩, .slice none 0 0, .slice none 0 0]] (World.laidAll_os _ _ _) (by kernel_rfl) (by kernel_rfl) (by kernel_rfl)
      (OpenSpec.preRow_of_cond 8 hx (by kernel_rfl) (fun k hk => by cases hk) (by kernel_rfl) (tmplShows_met os))) ?_
  intro W base args ds gs before hval hW _ hk _ hL hsh _
  exact tmplShows_calls H enc W base args ds gs before hval hW (tab_of_laid hL)

theorem tmplShows_said : Rows.TmplShowsSaid :=
  OpenClaim.holds_of_cond 4 Tryd.f4 rfl rfl rfl rfl rfl rfl rfl ⟨rfl, rfl, rfl, rfl, rfl⟩ rfl rfl rfl rfl rfl (by kernel_rfl) Tryd.func4 (by kernel_rfl)
    (of_decide_eq_true (by kernel_rfl)) (by unfold Func.isWrapper; first | (rw [if_pos (by decide +kernel)]; kernel_rfl) | (rw [if_neg (by decide +kernel)]; exact ⟨rfl, rfl⟩))
    (fun os started H enc _ F => by rw [OpenClaim.pre_eq_preRow]; exact tmplShows_lifted os started H enc F)

theorem tmplShows_plain (f : FuncId) (fn : Func) (hf : Tryd.pinned.checked.prog.funcNamed "masthead/mastlaw1.TmplShows" = some f) (hfn : Tryd.pinned.checked.prog.funcs[f]? = some fn) :
    false = Tryd.pinned.checked.prog.looks [] ∧ ∀ (j : Nat) t, fn.params[j]? = some t → Tryd.pinned.checked.prog.wantsStandIn t = false := by
  obtain rfl : f = 4 := Option.some.inj ((show Tryd.prog.funcNamed "masthead/mastlaw1.TmplShows" = some 4 by kernel_rfl).symm.trans hf) |>.symm
  obtain rfl : fn = Tryd.f4 := (Option.some.inj (Tryd.func4.symm.trans hfn)).symm
  refine ⟨by kernel_rfl, fun j t ht => ?_⟩
  rw [Tryd.params4] at ht
  have h2 := Array.mem_of_getElem? ht
  simp at h2
  subst h2
  exact (show Tryd.prog.wantsStandIn 29 = false by kernel_rfl)

theorem tmplShows_card : Rows.TmplShowsCardSaid :=
  Claim7.holds_tied_plain_at .later [] _ _ _ _ tmplShows_said (fun _ h => by cases h) (by kernel_rfl) (fun _ h => by cases h) tmplShows_row_tie rfl ⟨rfl, rfl⟩ (by kernel_rfl) rfl tmplShows_plain (by kernel_rfl)

end Go.Proofs.YtikcmmkeblgamaaDoor
