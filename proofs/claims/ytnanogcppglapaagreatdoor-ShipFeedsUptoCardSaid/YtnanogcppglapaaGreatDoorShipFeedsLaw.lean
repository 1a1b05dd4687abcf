/-
  ShipFeeds is proved, in its second form: for all titles, bases, days, entries and numbers whose reading stays below the given bound, Feed answers as the reference does.
-/
import Derived.Test.YtnanogcppglapaaGreatDoorBase
import Derived.JoinedCond
import Derived.HandedShaped
import Derived.Test.YtnanogcppglapaaGreatDoorFeedQ
import Derived.Test.YtnanogcppglapaaGreatDoorFeedPlain
import Derived.Test.YtnanogcppglapaaGreatDoorCards
import Derived.Test.YtnanogcppglapaaGreatDoorTie
import Derived.OpenShut
import Derived.Deep.DeepHandedRow
import Derived.Lib.LaidTab
import Derived.Lay
namespace Go.Proofs.YtnanogcppglapaaGreatDoor
open Go.RowKit Go.ChangeShapes Go.WideShapes Go.ChangeAt Go.Deep

theorem own : ownKnob Tryz.prog.godebug = none := by kernel_rfl
theorem laidOut : laidOutB Tryz.prog = true := by kernel_rfl

section
variable {H : Type} {enc : TypeId × Value → H}

theorem trodAll_stays {W W' : World} {sp : Nat → Bool} (hb : Below W.heap.size W W') : ∀ {ts : List TypeId} {vs : List Value} {ds : List (DataW H)} {ps : List MemPlace},
    (∀ t, t ∈ ts → Tryz.prog.readableRec t = true ∧ t < Tryz.prog.types.size) → DataW.TrodAll enc Tryz.prog W 0 (fun _ => true) true ts vs ds ps →
    (∀ x ∈ ps, x.block < W.heap.size) → (∀ x ∈ ps, sp x.block = true) → DataW.TrodAll enc Tryz.prog W' 0 sp true ts vs ds ps
  | [], [], [], ps, _, h, _, _ => h
  | [], _ :: _, _, _, _, h, _, _ => by simp [DataW.TrodAll] at h
  | [], [], _ :: _, _, _, h, _, _ => by simp [DataW.TrodAll] at h
  | _ :: _, [], _, _, _, h, _, _ => by simp [DataW.TrodAll] at h
  | _ :: _, _ :: _, [], _, _, h, _, _ => by simp [DataW.TrodAll] at h
  | t :: ts, v :: vs, d :: ds, ps, ht, h, hlt, hsp => by
    obtain ⟨p, q, h1, h2, rfl⟩ := h
    refine ⟨p, q, ?_, ?_, rfl⟩
    · exact WideElems.Trod_stays laidOut (ht t (by simp)).1 (ht t (by simp)).2 h1 (fun x hx => hb.same (hlt x (by simp [hx]))) (fun x hx => hsp x (by simp [hx]))
    · exact trodAll_stays hb (fun t' h' => ht t' (by simp [h'])) h2 (fun x hx => hlt x (by simp [hx])) (fun x hx => hsp x (by simp [hx]))

theorem law_post {f : Func} {s : ChangeSpec} {W W' : World} {args : Array Value} {ds gs : List (DataW H)} {before : List MemPlace} {tb : TypeId}
    (hvars : s.vars = []) (hfn : s.fn H (ds ++ gs) = { results := [.lit (.bool true)], args := ds }) (hrt : f.resultTypes = #[tb]) (htb : Tryz.prog.underlying tb = some .bool)
    (hts : ∀ t, t ∈ f.params.toList → Tryz.prog.readableRec t = true ∧ t < Tryz.prog.types.size)
    (hW : DataW.Whole enc Tryz.prog f.params.toList s.vars false W args.toList ds gs before) (hb : Below W.heap.size W W') :
    s.post enc Tryz.prog f false true false false W args (.bool true) W' := by
  have hlt : ∀ p ∈ before, p.block < W.heap.size := fun p hp => hW.lt p hp
  have hold : ∀ p ∈ before, (fun b => decide (b < W.heap.size)) p.block = true := fun p hp => by simpa using hlt p hp
  have hW' := hW
  obtain ⟨p, q, hA, hV, rfl, hz, _⟩ := hW
  rw [hvars] at hV
  obtain ⟨rfl, rfl⟩ := trodVars_none hV
  simp only [List.append_nil] at *
  refine ⟨ds, [], p, [], p, [], by simpa using hW', ?_, ?_, ?_, World.keptBut_mono (fun x hx => ⟨hx, ?_⟩) (hb.frame (· ∈ p)), fun h => by cases h⟩
  · rw [List.append_nil, hfn, hrt]
    exact trodAll_mk1 (shut_bool htb true)
  · rw [List.append_nil, hfn]
    exact trodAll_stays hb hts hA hlt hold
  · rw [hvars, List.append_nil, hfn]
    exact rfl
  · exact Or.inr (Or.inl hx)

end

end Go.Proofs.YtnanogcppglapaaGreatDoor

namespace Go.Proofs.YtnanogcppglapaaGreatDoor
open Go.RowKit Go.ChangeShapes Go.WideShapes Go.Deep

theorem feedE_ok {title base : ByteArray} {day : Int} {l : List EntF} {most : Int} (h : feedE title base day l most = 0) : (0 ≤ most ∧ most ≤ 60) ∧ l.length ≤ 60 ∧ (0 ≤ day ∧ day ≤ 84005) ∧ entsE l = 0 := by
  unfold feedE at h
  split at h
  · exact absurd h (by decide)
  · split at h
    · exact absurd h (by decide)
    · split at h
      · exact absurd h (by decide)
      · split at h
        · exact absurd h (by decide)
        · exact ⟨by omega, by omega, by omega, h⟩
set_option maxRecDepth 100000 in
set_option maxHeartbeats 4000000 in
theorem shipFeeds_walk (title base : ByteArray) (day : Int) (l : List EntF) (most : Int) (v : Value) (w : World) (h : EntsFAt w v l) (ht : title.size ≤ 1048576) (hbs : base.size ≤ 1048576) (hz : ∀ x ∈ l, x.title.size + x.addr.size + x.summ.size ≤ 1048576) (hm : MaxAt w) (htab : TabOk w) :
    Calls Tryz.prog 3 #[.string title, .string base, .int .i64 day, v, .int .i64 most] w fun e w' => e = .returned (.bool true) ∧ Below w.heap.size w w' := by
  have HF := Lib.hid h
  have HZ := Lib.hid hz; clear hz
  have HM := Lib.hid hm; clear hm
  have HTab := Lib.hid htab; clear htab
  clear h
  go_enter Tryz.func3, Tryz.ntmps3
  go_wp2_with fail
  have hcall := feed_q title base day l most v w HF.out ht hbs HZ.out HM.out HTab.out
  refine hcall.mono ?_
  clear hcall
  rintro e w1 ⟨hb, hcase⟩
  have HB1 := Lib.hid hb; clear hb
  have herr := feedError_q title base day l most v w1 (HF.out.keep (Keeps.of_below HB1.out)) ht hbs HZ.out (HM.out.keep (Keeps.of_below HB1.out))
  obtain ⟨fe, hfe⟩ : ∃ fe, feedE title base day l most = fe := ⟨_, rfl⟩
  rw [hfe] at herr hcase
  have HEr := Lib.hid herr; clear herr
  have HFe := Lib.hid hfe; clear hfe
  by_cases hz0 : fe = 0
  case neg =>
    obtain rfl : e = .returned (.tuple #[.string ⟨#[]⟩, .int .i64 fe]) := by
      rcases hcase with ⟨_, h2⟩ | ⟨h2, _⟩
      · exact h2
      · exact absurd h2 hz0
    clear hcase
    have e1 : (fe == fe) = true := by simp
    have e2 : (fe == 0) = false := by simpa using hz0
    have e3 : (fe != 0) = true := by simpa using hz0
    go_wp2_with (go_at_call 6; go_must (refine HEr.out.mono ?_); rintro e w2 ⟨rfl, hb⟩; have HB2 := Lib.hid (HB1.out.trans (hb.mono HB1.out.size)); clear hb)
    go_ret
    exact ⟨rfl, HB2.out⟩
  subst hz0
  obtain ⟨R, hp, hs, rfl⟩ : ∃ R : List EntF, R.Perm l ∧ R.Pairwise FeedR ∧ e = .returned (.tuple #[.string ⟨(feedL title base day.toNat (R.take most.toNat)).toArray⟩, .int .i64 0]) := by
    rcases hcase with ⟨h2, _⟩ | ⟨_, h2⟩
    · exact absurd rfl h2
    · exact h2
  clear hcase
  have HP := Lib.hid hp; have HS := Lib.hid hs
  clear hp hs
  obtain ⟨hm0, hl0, hd0, he0⟩ := feedE_ok HFe.out
  obtain ⟨mo, rfl⟩ : ∃ mo : Nat, most = (mo : Int) := ⟨most.toNat, by omega⟩
  obtain ⟨dn, rfl⟩ : ∃ dn : Nat, day = (dn : Int) := ⟨day.toNat, by omega⟩
  have hdn : dn ≤ 84005 := by omega
  have HFi := Lib.hid (ents_fine he0)
  rw [Int.toNat_natCast, Int.toNat_natCast]
  have HTx := Lib.hid (fun (W : World) (hW : Below w.heap.size w W) => feedText_q title base dn l mo v W (HF.out.keep (Keeps.of_below hW)) ht hbs HZ.out hdn HFi.out hl0 (HTab.out.keep hW))
  obtain ⟨T, hT⟩ : ∃ T, (⟨(feedL title base dn (R.take mo)).toArray⟩ : ByteArray) = T := ⟨_, rfl⟩
  rw [hT]
  have HT := Lib.hid hT; clear hT
  have e1 : (T.toList == T.toList) = true := by simp
  clear hm0 hl0 hd0 he0
  go_wp2_with (first
    | (go_at_call 6; go_must (refine HEr.out.mono ?_); rintro e w2 ⟨rfl, hb⟩; have HB2 := Lib.hid (HB1.out.trans (hb.mono HB1.out.size)); clear hb)
    | (go_at_call 7; go_must (refine (HTx.out _ HB2.out).mono ?_); rintro e w3 ⟨hb, R2, hp2, hs2, rfl⟩; have HB3 := Lib.hid (HB2.out.trans (hb.mono HB2.out.size)); rw [feed_unique hs2 HS.out (hp2.trans HP.out.symm), HT.out]; clear hb hp2 hs2))
  go_ret
  exact ⟨rfl, HB3.out⟩
end Go.Proofs.YtnanogcppglapaaGreatDoor

namespace Go.Proofs.YtnanogcppglapaaGreatDoor
open Go.RowKit Go.ChangeShapes Go.WideShapes Go.Deep

section
variable {H : Type} {enc : TypeId × Value → H} {w : World} {base : Nat} {spare : Nat → Bool} {held : Bool}

def entsWt (l : List EntF) : Nat := sumBy (fun x => x.title.size + x.addr.size + x.summ.size + 1) l
theorem entsWt_mem {L : List EntF} {d : EntF} (h : d ∈ L) : d.title.size + d.addr.size + d.summ.size + 1 ≤ entsWt L := by
  induction L with
  | nil => cases h
  | cons y r ih =>
    have e : entsWt (y :: r) = y.title.size + y.addr.size + y.summ.size + 1 + entsWt r := by simp [entsWt, sumBy]
    rw [e]
    rcases List.mem_cons.1 h with rfl | h
    · omega
    · have := ih h; omega

theorem open_ents (fuel : Nat) (cs : List Value) (x : DataW H × List MemPlace) (h : DataW.trod enc Tryz.prog w base spare held fuel 22 cs = some x) :
    ∃ (v : Value) (l : List EntF), cs = [v] ∧ EntsFAt w v l ∧ entsWt l + 1 ≤ Rows.uptoBulk x.1 := by
  obtain ⟨A, len, cap, m, b, o, hm, rfl, hlc, hc, hA, hD, hel⟩ := open_cells Tryz.underlying22 (K := 4) (by kernel_rfl) (by omega) h
  have key : ∀ i, i < len → ∃ n : EntF, EntFCells w b (o + i * 4) n ∧ ∃ d, (elemsOf x.1)[i]? = some d ∧ n.title.size + n.addr.size + n.summ.size + 1 ≤ Rows.uptoBulk d := by
    intro i hi
    obtain ⟨cs', y, hl', hat, hdi, hy⟩ := hel i hi
    obtain ⟨m', ys, hm', hyl, hyd, _, hf⟩ := open_fields Tryz.underlying48 (by kernel_rfl) (by kernel_rfl) hy
    obtain ⟨v0, y0, hv0, hy0, t0⟩ := hf 0 _ rfl
    obtain ⟨v1, y1, hv1, hy1, t1⟩ := hf 1 _ rfl
    obtain ⟨v2, y2, hv2, hy2, t2⟩ := hf 2 _ rfl
    obtain ⟨v3, y3, hv3, hy3, t3⟩ := hf 3 _ rfl
    obtain ⟨s0, e0, z0, _⟩ := DataW.trod_string Tryz.underlying9 t0
    obtain ⟨s1, e1, z1, _⟩ := DataW.trod_string Tryz.underlying9 t1
    obtain ⟨s2, e2, z2, _⟩ := DataW.trod_string Tryz.underlying9 t2
    obtain ⟨n3, e3, z3, _⟩ := DataW.trod_int Tryz.underlying3 t3
    simp only [List.cons.injEq, and_true] at e0 e1 e2 e3
    subst e0 e1 e2 e3
    refine ⟨⟨s0, s1, s2, n3⟩, ⟨(hat 0 (by omega)).trans hv0, (hat 1 (by omega)).trans hv1, (hat 2 (by omega)).trans hv2, (hat 3 (by omega)).trans hv3⟩, _, hdi, ?_⟩
    match ys, hyl with
    | [a0, a1, a2, a3], _ =>
      simp only [List.getElem?_cons_zero, List.getElem?_cons_succ, Option.some.injEq] at hy0 hy1 hy2 hy3
      subst hy0 hy1 hy2 hy3
      have hs0 : s0.data.toList.length = s0.size := by rw [Array.length_toList]; rfl
      have hs1 : s1.data.toList.length = s1.size := by rw [Array.length_toList]; rfl
      have hs2 : s2.data.toList.length = s2.size := by rw [Array.length_toList]; rfl
      rw [hyd]
      simp only [List.map_cons, List.map_nil, Rows.uptoBulk, Rows.uptoBulkAll, z0, z1, z2, hs0, hs1, hs2]
      omega
  obtain ⟨l, hll, hp⟩ := exists_list key
  have hw : entsWt l ≤ Rows.uptoBulkAll (elemsOf x.1) := by
    refine sumBy_le_bulk (by rw [hll, hD]) (fun i a d ha hd => ?_)
    obtain ⟨_, d', h2, h3⟩ := hp i a ha
    rw [h2] at hd
    injection hd with hd
    subst hd
    exact h3
  have hb := bulk_elems x.1
  refine ⟨_, l, rfl, ⟨A, cap, b, o, by rw [hll], by omega, hc, fun hne => hA ?_, fun i n hn => (hp i n hn).1⟩, by omega⟩
  rcases Nat.eq_zero_or_pos len with h0 | h0
  · exact absurd (List.eq_nil_of_length_eq_zero (by omega)) hne
  · exact h0
end
end Go.Proofs.YtnanogcppglapaaGreatDoor

namespace Go.Proofs.YtnanogcppglapaaGreatDoor
open Go.RowKit Go.ChangeShapes Go.WideShapes Go.ChangeAt Go.Deep

theorem maxLen_at {W : World} (h : W.ShapedOpen Tryz.prog) : ∃ m, W.cell? ⟨1, 0, none⟩ = some (.int .i64 m) := (Tryz.laysM146).s1_3 W h
theorem trodAll_five {H : Type} {enc : TypeId × Value → H} {P : Program} {w : World} {base : Nat} {spare : Nat → Bool} {held : Bool} {t0 t1 t2 t3 t4 : TypeId} {args : Array Value} {ds : List (DataW H)} {ps : List MemPlace} (h : DataW.TrodAll enc P w base spare held [t0, t1, t2, t3, t4] args.toList ds ps) :
    ∃ v0 v1 v2 v3 v4 d0 d1 d2 d3 d4 p0 p1 p2 p3 p4, args = #[v0, v1, v2, v3, v4] ∧ ds = [d0, d1, d2, d3, d4] ∧ ps = p0 ++ p1 ++ p2 ++ p3 ++ p4 ∧ DataW.Trod enc P w base spare held t0 v0 d0 p0 ∧ DataW.Trod enc P w base spare held t1 v1 d1 p1 ∧ DataW.Trod enc P w base spare held t2 v2 d2 p2 ∧ DataW.Trod enc P w base spare held t3 v3 d3 p3 ∧ DataW.Trod enc P w base spare held t4 v4 d4 p4 := by
  obtain ⟨v0, vs0, d0, ds0, p0, q0, hargs, rfl, rfl, hd0, h1⟩ := trodAll_cons h
  obtain ⟨v1, vs1, d1, ds1, p1, q1, rfl, rfl, rfl, hd1, h2⟩ := trodAll_cons h1
  obtain ⟨v2, vs2, d2, ds2, p2, q2, rfl, rfl, rfl, hd2, h3⟩ := trodAll_cons h2
  obtain ⟨v3, vs3, d3, ds3, p3, q3, rfl, rfl, rfl, hd3, h4⟩ := trodAll_cons h3
  obtain ⟨v4, vs4, d4, ds4, p4, q4, rfl, rfl, rfl, hd4, h5⟩ := trodAll_cons h4
  obtain ⟨rfl, rfl, rfl⟩ := trodAll_nil h5
  exact ⟨v0, v1, v2, v3, v4, d0, d1, d2, d3, d4, p0, p1, p2, p3, p4, by cases args; simp_all, rfl, by simp, hd0, hd1, hd2, hd3, hd4⟩

set_option maxRecDepth 100000 in
theorem tab_of_laid {W : World} (h : laidMet Tryz.prog Rows.shipFeedsUptoRow.laid W) : TabOk W := by
  obtain ⟨ps, hv, _, _⟩ := h
  obtain ⟨_, _, _, _, _, _, _, _, _, _, hv2, _⟩ := hv
  obtain ⟨_, _, _, _, _, _, _, _, _, _, hv3, _⟩ := hv2
  obtain ⟨g', t', cs, fuel, p, q, hg', ht', hvar, hd, _, _⟩ := hv3
  obtain rfl := Option.some.inj ((show Tryz.prog.globalNamed "internal/strconv.uint64pow10" = some 0 by kernel_rfl).symm.trans hg')
  obtain rfl := Option.some.inj ((show (Tryz.prog.globals[0]?).map (·.type) = some 193 by kernel_rfl).symm.trans ht')
  unfold TabOk Lib.TabIs
  rw [hvar, ← Lib.cells_of_tab (k := .u64) (zs := Lib.pow10Tab) Tryz.underlying193 Tryz.underlying159 (by kernel_rfl) (by kernel_rfl) hd]

theorem bulk_strM {H : Type} {ds : List (DataW H)} {d : DataW H} {t : ByteArray} (hm : d ∈ ds) (h1 : d = .lit (.string t.data.toList)) (h : Rows.uptoBulkAll ds ≤ 1048576) : t.size ≤ 1048576 := by
  have h2 := bulk_mem hm
  subst h1
  simp only [Rows.uptoBulk, size_toList] at h2
  omega

set_option maxRecDepth 100000 in
theorem shipFeeds_calls (H : Type) (enc : TypeId × Value → H) (W : World) (base : Nat) (args : Array Value) (ds gs : List (DataW H)) (before : List MemPlace)
    (hval : ∀ (j : Nat) t v, Tryz.f3.params[j]? = some t → args[j]? = some v → Value.okWide Tryz.prog W .any base t v)
    (hW : DataW.Whole enc Tryz.prog Tryz.f3.params.toList Rows.shipFeedsSpec.vars false W args.toList ds gs before) (hk : Rows.uptoSmall H (ds ++ gs) = true) (hsh : W.ShapedOpen Tryz.checked.prog) (hTab : TabOk W) :
    Calls Tryz.prog 3 args W fun e W' => ∃ v, e = .returned v ∧ Rows.shipFeedsSpec.post enc Tryz.prog Tryz.f3 false true false false W args v W' := by
  have hW' := hW
  obtain ⟨p, q, hA0, hV, rfl, hfz, hnd⟩ := hW
  have hA : DataW.TrodAll enc Tryz.prog W 0 (fun _ => true) true Tryz.f3.params.toList args.toList ds p := hA0
  rw [Tryz.params3] at hA hval
  obtain ⟨v0, v1, v2, v3, v4, d0, d1, d2, d3, d4, p0, p1, p2, p3, p4, rfl, rfl, rfl, h0, h1, h2, h3, h4⟩ := trodAll_five hA
  obtain ⟨rfl, rfl⟩ := trodVars_none hV
  have hbulk : Rows.uptoBulkAll ([d0, d1, d2, d3, d4]) ≤ 1048576 := of_decide_eq_true (by simpa [Rows.uptoSmall] using hk)
  obtain ⟨s0, rfl, hd0, _, hs0⟩ := Go.ChangeMaps.open_string Tryz.underlying9 (hval 0 9 v0 rfl rfl) h0
  obtain ⟨s1, rfl, hd1, _, hs1⟩ := Go.ChangeMaps.open_string Tryz.underlying9 (hval 1 9 v1 rfl rfl) h1
  obtain ⟨x2, rfl, hd2, _, x2w⟩ := open_int Tryz.underlying3 (hval 2 3 v2 rfl rfl) h2
  obtain ⟨fu3, g3⟩ := h3
  obtain ⟨u3, l3, e3, n3, w3⟩ := open_ents _ _ _ g3
  obtain ⟨a3, len3, cap3, rfl⟩ := okWide_slice Tryz.underlying22 (hval 3 22 v3 rfl rfl)
  simp only [Value.cells, List.cons.injEq, and_true] at e3
  subst e3
  obtain ⟨x4, rfl, hd4, _, x4w⟩ := open_int Tryz.underlying3 (hval 4 3 v4 rfl rfl) h4
  refine (shipFeeds_walk s0 s1 x2 l3 x4 _ W n3 (bulk_strM (show d0 ∈ [d0, d1, d2, d3, d4] by simp) hd0 hbulk) (bulk_strM (show d1 ∈ [d0, d1, d2, d3, d4] by simp) hd1 hbulk) (fun x hx => by have h5 := entsWt_mem hx; have h6 := bulk_mem (show d3 ∈ [d0, d1, d2, d3, d4] by simp); have h7 : entsWt l3 + 1 ≤ Rows.uptoBulk d3 := w3; omega) (maxLen_at hsh) hTab).mono fun e W' ⟨he, hb⟩ => ?_
  subst he
  refine ⟨_, rfl, law_post rfl rfl (tb := 4) (by kernel_rfl) Tryz.underlying4 ?_ hW' hb⟩
  rw [Tryz.params3]
  intro t ht
  simp only [List.mem_cons, List.not_mem_nil, or_false] at ht
  rcases ht with rfl | rfl | rfl | rfl | rfl <;> exact ⟨by kernel_rfl, of_decide_eq_true (by kernel_rfl)⟩

set_option maxRecDepth 100000 in
theorem shipFeeds_met (os : Os) : laidMet Tryz.prog Rows.shipFeedsUptoRow.laid ((World.laidAll Tryz.prog os Rows.shipFeedsUptoRow.laid).forCall (fun _ _ => 0) ⟨#[], #[.string ⟨#[]⟩, .string ⟨#[]⟩, .int .i64 0, .slice none 0 0, .int .i64 0], []⟩).memory :=
  laidMet_laidAll _ (by kernel_rfl) (by kernel_rfl)

theorem shipFeeds_reads (os : Os) {H : Type} (enc : TypeId × Value → H) : ∃ places, DataW.whole enc Tryz.prog ((World.laidAll Tryz.prog os Rows.shipFeedsUptoRow.laid).forCall (fun _ _ => 0) ⟨#[], #[.string ⟨#[]⟩, .string ⟨#[]⟩, .int .i64 0, .slice none 0 0, .int .i64 0], []⟩).memory Tryz.f3.params.toList Rows.shipFeedsSpec.vars false (#[(.string ⟨#[]⟩ : Value), (.string ⟨#[]⟩ : Value), (.int .i64 0 : Value), (.slice none 0 0 : Value), (.int .i64 0 : Value)] : Array Value).toList 8 = some ([.lit (.string []), .lit (.string []), .lit (.int .i64 0), .nil, .lit (.int .i64 0)], [], places) :=
  ⟨[], by kernel_rfl⟩

set_option maxRecDepth 100000 in
theorem shipFeeds_lifted (os : Os) (started : os.Started) (H : Type) (enc : TypeId × Value → H) (F : Stop.Interp) :
    ReturnsInHanded {} Tryz.checked os 3 .any ((Rows.OpenSpec.upto Rows.shipFeedsSpec).preRow enc Tryz.prog Tryz.f3 Rows.shipFeedsUptoRow.domain false Rows.shipFeedsUptoRow.laid) (((Rows.OpenSpec.upto Rows.shipFeedsSpec).at F).post enc Tryz.prog Tryz.f3 false true false false) := by
  obtain ⟨places, hx⟩ := shipFeeds_reads os enc
  refine returnsInHanded_of_row (C := Tryz.checked) (s := (Rows.OpenSpec.upto Rows.shipFeedsSpec)) own started (by kernel_rfl) Tryz.func3
    (witness_row_at (enc := enc) (C := Tryz.checked) false (World.laidAll Tryz.prog os Rows.shipFeedsUptoRow.laid) #[.string ⟨#[]⟩, .string ⟨#[]⟩, .int .i64 0, .slice none 0 0, .int .i64 0] (World.laidAll_os _ _ _) (by kernel_rfl) (by kernel_rfl) (by kernel_rfl)
      (OpenSpec.preRow_of_cond 8 hx (by kernel_rfl) (fun k hk => by cases hk; kernel_rfl) (by kernel_rfl) (shipFeeds_met os))) ?_
  intro W base args ds gs before hval hW _ hk _ hL hsh _
  exact shipFeeds_calls H enc W base args ds gs before hval hW (hk _ rfl) hsh (tab_of_laid hL)

theorem shipFeeds_said : Rows.ShipFeedsUptoSaid :=
  OpenClaim.holds_of_cond 3 Tryz.f3 rfl rfl rfl rfl rfl rfl rfl ⟨rfl, rfl, rfl, rfl, rfl⟩ rfl rfl rfl rfl rfl (by kernel_rfl) Tryz.func3 (by kernel_rfl)
    (of_decide_eq_true (by kernel_rfl)) (by unfold Func.isWrapper; first | (rw [if_pos (by decide +kernel)]; kernel_rfl) | (rw [if_neg (by decide +kernel)]; exact ⟨rfl, rfl⟩))
    (fun os started H enc _ F => by rw [OpenClaim.pre_eq_preRow]; exact shipFeeds_lifted os started H enc F)

theorem shipFeeds_plain (f : FuncId) (fn : Func) (hf : Tryz.pinned.checked.prog.funcNamed "masthead/mastlaw1.ShipFeeds" = some f) (hfn : Tryz.pinned.checked.prog.funcs[f]? = some fn) :
    true = Tryz.pinned.checked.prog.looks [] ∧ ∀ (j : Nat) t, fn.params[j]? = some t → Tryz.pinned.checked.prog.wantsStandIn t = false := by
  obtain rfl : f = 3 := Option.some.inj ((show Tryz.prog.funcNamed "masthead/mastlaw1.ShipFeeds" = some 3 by kernel_rfl).symm.trans hf) |>.symm
  obtain rfl : fn = Tryz.f3 := (Option.some.inj (Tryz.func3.symm.trans hfn)).symm
  refine ⟨by kernel_rfl, fun j t ht => ?_⟩
  rw [Tryz.params3] at ht
  have h2 := Array.mem_of_getElem? ht
  simp at h2
  rcases h2 with rfl | rfl | rfl | rfl
  · exact (show Tryz.prog.wantsStandIn 9 = false by kernel_rfl)
  · exact (show Tryz.prog.wantsStandIn 3 = false by kernel_rfl)
  · exact (show Tryz.prog.wantsStandIn 22 = false by kernel_rfl)
  · exact (show Tryz.prog.wantsStandIn 3 = false by kernel_rfl)

theorem shipFeeds_card : Rows.ShipFeedsUptoCardSaid :=
  Claim7.holds_tied_plain_at .later [] _ _ _ _ shipFeeds_said (fun _ h => by cases h) (by kernel_rfl) (fun _ h => by cases h) shipFeedsUpto_row_tie rfl ⟨rfl, rfl⟩ (by kernel_rfl) rfl shipFeeds_plain (by kernel_rfl)

end Go.Proofs.YtnanogcppglapaaGreatDoor
