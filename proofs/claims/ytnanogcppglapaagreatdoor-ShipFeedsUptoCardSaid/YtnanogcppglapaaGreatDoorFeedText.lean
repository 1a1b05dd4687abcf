/-
  mastref1.FeedText.
-/
import Derived.Test.YtnanogcppglapaaGreatDoorFeedOwn
import Derived.Test.YtnanogcppglapaaGreatDoorInsSort
import Derived.Test.YtnanogcppglapaaGreatDoorEscRef
import Derived.StillTail
import Derived.StillTailTactics
import Derived.BigQuiet
import Derived.Deep.QuietTactic
import Derived.RegionTactic
namespace Go.Proofs.YtnanogcppglapaaGreatDoor
open Go.RowKit Go.ChangeShapes Go.WideShapes Go.Deep

theorem escapedF_q (s u : ByteArray) (w : World) (hu : escA s = u) (hs : s.size ≤ 2097152) :
    Calls Tryz.prog 27 #[.string s] w fun e w' => e = .returned (.string u) ∧ w = w' := by
  subst hu
  exact escaped_q s w hs
set_option maxRecDepth 100000 in
set_option maxHeartbeats 2000000 in
theorem newer_q (x y : EntF) (r : Bool) (w : World) (hr : ltF x y = r) :
    Calls Tryz.prog 25 #[.agg #[.string x.title, .string x.addr, .string x.summ, .int .i64 x.day], .agg #[.string y.title, .string y.addr, .string y.summ, .int .i64 y.day]] w fun e w' => e = .returned (.bool r) ∧ Below w.heap.size w w' := by
  subst hr
  have HE := Lib.hid (show Op.bytesLess x.addr.toList y.addr.toList = decide (x.addr.data.toList < y.addr.data.toList) by rw [Go.ByteArray.toList_eq, Go.ByteArray.toList_eq, Go.Proofs.bytesLess_eq])
  obtain ⟨xt, xa, xs, xd⟩ := x
  obtain ⟨yt, ya, ys, yd⟩ := y
  simp only at HE
  have HB := Lib.hid (fun (X Y : Obj) => ((Below.refl w.heap.size w).alloc (Nat.le_refl _) X).alloc (by simp) Y)
  rcases Int.lt_trichotomy yd xd with hgt | heq | hlt
  · have HV := Lib.hid (show ltF ⟨xt, xa, xs, xd⟩ ⟨yt, ya, ys, yd⟩ = true by simp [ltF, ltH, toH, hgt])
    have t1 : decide (yd < xd) = true := by simpa using hgt
    clear HE
    have HG := Lib.hid hgt; clear hgt
    go_enter Tryz.func25, Tryz.ntmps25
    go_wp2_with fail
    go_ret
    exact ⟨by rw [HV.out]; rfl, HB.out _ _⟩
  · subst heq
    have HV := Lib.hid (show ltF ⟨xt, xa, xs, yd⟩ ⟨yt, ya, ys, yd⟩ = Op.bytesLess xa.toList ya.toList by rw [HE.out]; simp [ltF, ltH, toH, hAddr])
    have t1 : decide (yd < yd) = false := by simp
    have t3 : (yd == yd) = true := by simp
    clear HE
    go_enter Tryz.func25, Tryz.ntmps25
    go_wp2_with fail
    go_ret
    exact ⟨by rw [HV.out]; rfl, HB.out _ _⟩
  · have HV := Lib.hid (show ltF ⟨xt, xa, xs, xd⟩ ⟨yt, ya, ys, yd⟩ = false by
      cases h9 : ltF ⟨xt, xa, xs, xd⟩ ⟨yt, ya, ys, yd⟩ with
      | false => rfl
      | true =>
        exfalso
        rcases ltF_iff.1 h9 with h8 | ⟨h8, _⟩
        · simp only [toH] at h8; omega
        · simp only [toH] at h8; omega)
    have t1 : decide (yd < xd) = false := by simp; omega
    have t3 : (xd == yd) = false := by simp; omega
    clear HE
    have HG := Lib.hid hlt; clear hlt
    go_enter Tryz.func25, Tryz.ntmps25
    go_wp2_with fail
    go_ret
    exact ⟨by rw [HV.out]; rfl, HB.out _ _⟩

theorem dateS_le {n : Nat} (h : n ≤ 84005) : (dateS n).size ≤ 12 := by
  obtain ⟨h1, h2, h3, h4, h5⟩ := civil_date h
  have a := year_size (y := (dateZ n).1) (by omega) (by omega)
  have b := twoS_le (n := (dateZ n).2.1) (by omega)
  have c := twoS_le (n := (dateZ n).2.2) (by omega)
  have d : (⟨#[45]⟩ : ByteArray).size = 1 := rfl
  unfold dateS
  simp only [ByteArray.size_append]
  omega
theorem cat_snoc (out : ByteArray) (P : List UInt8) (base : ByteArray) (x : EntF) (h : out.data.toList = P) (u1 u2 u3 dt : ByteArray) (h1 : escA x.title = u1) (h2 : escA (base ++ x.addr) = u2) (h3 : escA x.summ = u3) (hd : dateS x.day.toNat = dt) :
    (out ++ (fe1 ++ u1 ++ fe2 ++ u2 ++ fe3 ++ dt ++ fe4 ++ u3 ++ fe5)).data.toList = P ++ catL (entP base x) := by
  subst h h1 h2 h3 hd
  simp [catL, entP, ByteArray.data_append, Array.toList_append]
theorem cat_head (title base : ByteArray) (day : Nat) (et eb dt : ByteArray) (h1 : escA title = et) (h2 : escA base = eb) (hd : dateS day = dt) :
    (fk1 ++ et ++ fk2 ++ eb ++ fk3 ++ dt ++ fk4).data.toList = catL (headP title base day) ++ [] := by
  subst h1 h2 hd
  simp [catL, headP, ByteArray.data_append, Array.toList_append]
def FeedRefPost (title base : ByteArray) (day : Nat) (l : List EntF) (most : Nat) (w : World) (e : Ending) (w' : World) : Prop :=
  Below w.heap.size w w' ∧ ∃ R : List EntF, R.Perm l ∧ R.Pairwise FeedR ∧ e = .returned (.string ⟨(feedL title base day (R.take most)).toArray⟩)
theorem cat_cons (a : ByteArray) (l : List ByteArray) : (catL (a :: l)).length = a.size + (catL l).length := by rw [catL, List.flatMap_cons, List.length_append, size_toList]; rfl
theorem cat_nil : (catL []).length = 0 := rfl
theorem ent_at_most {base : ByteArray} (hb : base.size ≤ 1048576) {x : EntF} (hx : x.title.size + x.addr.size + x.summ.size ≤ 1048576) (hd : x.day ≤ 84005) : (catL (entP base x)).length ≤ 20000000 := by
  have s1 := escA_size x.title
  have s2 := escA_size (base ++ x.addr)
  have s3 := escA_size x.summ
  have s4 := dateS_le (n := x.day.toNat) (by omega)
  rw [ByteArray.size_append] at s2
  rw [entP, cat_cons, cat_cons, cat_cons, cat_cons, cat_cons, cat_cons, cat_cons, cat_cons, cat_cons, cat_nil]
  have k1 : fe1.size ≤ 100 := by decide
  have k2 : fe2.size ≤ 100 := by decide
  have k3 : fe3.size ≤ 100 := by decide
  have k4 : fe4.size ≤ 100 := by decide
  have k5 : fe5.size ≤ 100 := by decide
  omega
theorem ents_at_most {base : ByteArray} (hb : base.size ≤ 1048576) (E : List EntF) (h : ∀ x ∈ E, x.title.size + x.addr.size + x.summ.size ≤ 1048576 ∧ x.day ≤ 84005) : (E.flatMap (fun x => catL (entP base x))).length ≤ E.length * 20000000 := by
  induction E with
  | nil => simp
  | cons x r ih =>
    have h1 := ih (fun y hy => h y (List.mem_cons_of_mem _ hy))
    have h2 := h x (List.mem_cons_self)
    have h3 := ent_at_most hb h2.1 h2.2
    rw [List.flatMap_cons, List.length_append, List.length_cons, Nat.add_mul, Nat.one_mul]
    omega
theorem head_at_most {title base : ByteArray} {day : Nat} (ht : title.size ≤ 1048576) (hb : base.size ≤ 1048576) (hd : day ≤ 84005) : (catL (headP title base day)).length ≤ 13000000 := by
  have s1 := escA_size title
  have s2 := escA_size base
  have s4 := dateS_le hd
  rw [headP, cat_cons, cat_cons, cat_cons, cat_cons, cat_cons, cat_cons, cat_cons, cat_nil]
  have k1 : fk1.size ≤ 100 := by decide
  have k2 : fk2.size ≤ 100 := by decide
  have k3 : fk3.size ≤ 100 := by decide
  have k4 : fk4.size ≤ 100 := by decide
  omega

set_option maxRecDepth 100000 in
set_option maxHeartbeats 8000000 in
theorem feedText_q (title base : ByteArray) (day : Nat) (l : List EntF) (most : Nat) (v : Value) (w : World) (h : EntsFAt w v l) (ht : title.size ≤ 1048576) (hbs : base.size ≤ 1048576) (hz : ∀ x ∈ l, x.title.size + x.addr.size + x.summ.size ≤ 1048576) (hday : day ≤ 84005) (hf : FineE l) (hl : l.length ≤ 60) (htab : TabOk w) :
    Calls Tryz.prog 7 #[.string title, .string base, .int .i64 day, v, .int .i64 most] w (FeedRefPost title base day l most w) := by
  have HF := Lib.hid h
  obtain ⟨A, c, b, o, rfl, hlc, hc, _, _⟩ := h
  unfold maxLen at hc
  have HZ := Lib.hid hz; clear hz
  have HTab := Lib.hid htab; clear htab
  have HFi := Lib.hid hf; clear hf
  obtain ⟨N, hN⟩ : ∃ N, w.heap.size = N := ⟨_, rfl⟩
  have HN := Lib.hid hN
  unfold FeedRefPost
  obtain ⟨m0, hm0⟩ : ∃ m, 0 + l.length = m := ⟨_, rfl⟩
  have hm9 : m0 ≤ 60 := by omega
  have HM0 := Lib.hid hm0
  clear hm0
  have hown0 := World.ownsRow_made (base := N) (e := 48) (size := 4) w #[] 0 (by omega) (by simp [maxLen]) rfl
  rw [hN] at hown0
  have HO0 := Lib.hid hown0; clear hown0
  have HFa := Lib.hid (show EntsFAt (w.alloc (.cells #[] 48)) (.slice A l.length c) l from HF.out.keep (Keeps.of_below ((Below.refl w.heap.size w).alloc (Nat.le_refl _) _)))
  have HB0 := Lib.hid (show Below N w (w.alloc (.cells #[] 48)) from (Below.refl N w).alloc (by omega) _)
  go_enter Tryz.func7, Tryz.ntmps7
  go_wp2_with (at_builtin; go_loud (go_must (refine wpList_joinE _ rfl (.tmp 25) (.tmp 26) 22 rfl N 48 _ 56 Tryz.underlying22 info_entF rfl _ 0 [] rfl HO0.out A c l rfl HFa.out (by omega) (by unfold maxLen; omega) (by simp; omega) ?_); intro A7 c7 w7 own7 hb7; rw [HM0.out, List.nil_append] at own7; rw [HM0.out]; have HO7 := Lib.hid own7; have HB7 := Lib.hid (HB0.out.trans hb7); clear own7 hb7))
  clear hN HO0 HFa HB0
  have HAp := Lib.hid HFi.out.apart
  obtain ⟨A9, c9, hv9, hc9, hmc, hA9⟩ := own_form HO7.out
  cases hv9
  have HA9 := Lib.hid hA9
  unfold maxLen at hc9
  clear hA9
  go_loopw [30] (fun t30 wr => ∃ (i : Nat) (S C : List EntF), i ≤ m0 ∧ t30 = .int .i64 i ∧ Hid (S.length = i) ∧ Hid (S.length + C.length = m0) ∧ Hid ((S ++ C).Perm l) ∧ Hid (S.Pairwise FeedR) ∧ Hid (wr.ownsRow N 48 4 (.slice A7 m0 c7) m0 (entsFC (S ++ C))) ∧ Hid (Below N w wr)) (fun t _ => m0 - (intOf t).toNat)
  case atStart => exact ⟨0, [], l, Nat.zero_le _, rfl, rfl, Lib.hid (by have h9 := HM0.out; simp only [List.length_nil]; omega), Lib.hid (by rw [List.nil_append]), List.Pairwise.nil, HO7, HB7⟩
  case round =>
    clear HO7 HB7
    obtain ⟨i, S, C, hi, rfl, HSl, HSc, HPm, HSs, HOw, HBw⟩ := hrel
    by_cases hlt : i < m0
    · obtain ⟨x, C', rfl⟩ : ∃ x C', C = x :: C' := by
        cases C with
        | nil => have h1 := HSc.out; have h2 := HSl.out; simp at h1; omega
        | cons x C' => exact ⟨x, C', rfl⟩
      obtain ⟨gg, rfl, hgg5, hgl⟩ := HA9.out (by omega)
      have HIn := Lib.hid (InsAt.start HPm.out HSs.out)
      have hi64 : (i : Int) < 9223372036854775807 := by omega
      clear HA9
      go_wp2_with fail
      go_loopw [13] (fun t13 wr => ∃ (k : Nat) (A' B : List EntF), k ≤ i ∧ t13 = .int .i64 k ∧ Hid (A'.length = k) ∧ Hid (A'.length + B.length = i) ∧ Hid (InsAt FeedR l A' x B C') ∧ Hid (wr.ownsRow N 48 4 (.slice (some ⟨gg, 0, none⟩) m0 c7) m0 (entsFC (A' ++ x :: (B ++ C')))) ∧ Hid (Below N w wr)) (fun t _ => (intOf t).toNat)
      case atStart => exact ⟨i, S, [], Nat.le_refl _, rfl, HSl, Lib.hid (by have h9 := HSl.out; simp only [List.length_nil]; omega), HIn, HOw, HBw⟩
      case round =>
        clear HOw HBw HIn HSs HPm
        obtain ⟨k, A', B, hk, rfl, HAl, HBl, HIn, HOw, HBw⟩ := hrel
        have hNr : N ≤ wr.heap.size := by have := HBw.out.size; have := HN.out; omega
        have HQx := Lib.hid (own_entF HOw.out (j := k) (x := x) (by rw [List.getElem?_append_right (by rw [HAl.out]; exact Nat.le_refl _), HAl.out]; simp))
        have HCl : Hid (i + 1 + C'.length = m0) := Lib.hid (by have h1 := HSc.out; have h2 := HSl.out; simp at h1; omega)
        by_cases hk0 : k = 0
        · subst hk0
          obtain rfl : A' = [] := List.eq_nil_of_length_eq_zero HAl.out
          have HFi2 := Lib.hid HIn.out.first
          clear HQx
          go_wp2_with fail
          go_quiet (fail)
          go_wp2_with fail
          go_roundw
          case rel => exact ⟨i + 1, x :: B, C', by omega, by go_num, Lib.hid (by have h9 := HBl.out; simp only [List.length_nil] at h9; simp only [List.length_cons]; omega), Lib.hid (by have h1 := HBl.out; have h2 := HCl.out; simp only [List.length_nil] at h1; simp only [List.length_cons]; omega), HFi2.out.2, HFi2.out.1, own_drewN HOw.out _, Below.drewN' HBw.out _⟩
          case measure => simp [intOf]; omega
        · obtain ⟨A'', y, rfl⟩ : ∃ A'' y, A' = A'' ++ [y] := by
            rcases List.eq_nil_or_concat A' with h9 | ⟨a, b, h9⟩
            · exact absurd (by rw [← HAl.out, h9]; rfl) hk0
            · exact ⟨a, b, by rw [h9, List.concat_eq_append]⟩
          have hq1 : A''.length + 1 = k := by have := HAl.out; simpa using this
          obtain ⟨p, hp⟩ : ∃ p, A''.length = p := ⟨_, rfl⟩
          rw [hp] at hq1
          have HGy := Lib.hid (show (A'' ++ [y] ++ x :: (B ++ C'))[p]? = some y by rw [List.append_assoc, List.getElem?_append_right (by omega), show p - A''.length = 0 by omega]; rfl)
          have HGx := Lib.hid (show (A'' ++ [y] ++ x :: (B ++ C'))[k]? = some x by rw [List.getElem?_append_right (by rw [HAl.out]; exact Nat.le_refl _), HAl.out]; simp)
          have HQy := Lib.hid (own_entF HOw.out HGy.out)
          have hxp := HQx.out.1.1
          have hxb := HQx.out.1.2.1
          have hxc := HQx.out.1.2.2.1
          have hxd := HQx.out.1.2.2.2
          have hyp := HQy.out.1.1
          have hyb := HQy.out.1.2.1
          have hyc := HQy.out.1.2.2.1
          have hyd := HQy.out.1.2.2.2
          have hk1 : (0 : Int) < (k : Int) := by omega
          have hk6 : 0 < k := by omega
          have hk7 : decide (0 < k) = true := by simpa using hk6
          have hk2 : (k : Int) - 1 = (p : Int) := by omega
          have hk4 : (p : Int) < (m0 : Int) := by omega
          have hk5 : (k : Int) < (m0 : Int) := by omega
          have hk9 : p ≤ i := by omega
          have hk8 : p < k := by omega
          have hk3 : IntKind.i64.wrap (p : Int) = (p : Int) := IntWalk.i64_in _ (by omega)
          have HQ1 := Lib.hid (show A''.length = p ∧ p + 1 = k from ⟨hp, hq1⟩)
          clear hq1 hp
          have hne : x.addr ≠ y.addr := by
            have h9 := HAp.out.perm HIn.out.perm.symm
            rw [List.append_assoc] at h9
            have h8 := (List.pairwise_append.1 h9).2.1
            have h7 := (List.pairwise_cons.1 h8).1 x (by simp)
            exact fun e => h7 e.symm
          have HNe := Lib.hid hne; clear hne
          cases hxy : ltF x y with
          | true =>
            have HXY := Lib.hid (ltF_iff.1 hxy)
            have HNw := Lib.hid (fun w => newer_q x y true w hxy)
            clear hxy
            go_wp2_with fail
            go_still_tail 12, (by kernel_rfl)
            change wpList _ _ _ _ _ (World.drew wr)
            go_wp2_with (go_at_call 25; go_must (refine (HNw.out _).mono ?_); rintro e w5 ⟨rfl, hb5⟩; have HO5 := Lib.hid (own_keepB2 (own_drew HOw.out) hb5); have HB5 := Lib.hid (HBw.out.drew.trans (hb5.mono (show N ≤ (World.drew wr).heap.size from hNr))); clear hb5)
            clear hxp hxb hxc hxd hyp hyb hyc hyd HQx HQy hk0 HOw HBw
            have HQx5 := Lib.hid (own_entF HO5.out HGx.out)
            have HQy5 := Lib.hid (own_entF HO5.out HGy.out)
            have d0 := HQx5.out.1.1
            have d1 := HQx5.out.1.2.1
            have d2 := HQx5.out.1.2.2.1
            have d3 := HQx5.out.1.2.2.2
            have d4 := HQy5.out.1.1
            have d5 := HQy5.out.1.2.1
            have d6 := HQy5.out.1.2.2.1
            have d7 := HQy5.out.1.2.2.2
            have f0 := HQx5.out.2 (k * 4)
            have f1 := HQx5.out.2 (k * 4 + 1)
            have f2 := HQx5.out.2 (k * 4 + 2)
            have f3 := HQx5.out.2 (k * 4 + 3)
            have f4 := HQy5.out.2 (p * 4)
            have f5 := HQy5.out.2 (p * 4 + 1)
            have f6 := HQy5.out.2 (p * 4 + 2)
            have f7 := HQy5.out.2 (p * 4 + 3)
            have HOq := HO5
            have HBq := HB5
            clear HQx5 HQy5
            go_region
            go_wp2_with fail
            go_roundw
            case rel =>
              obtain ⟨hq, hq2⟩ := HQ1.out
              subst hq
              subst hq2
              refine ⟨A''.length, A'', y :: B, by omega, by go_num, rfl, Lib.hid (by have h9 := HBl.out; simp only [List.length_append, List.length_cons, List.length_nil] at h9 ⊢; omega), HIn.out.down HXY.out, ?_, ?_⟩
              · have h4 := own_put (own_put (own_put (own_put (own_put (own_put (own_put (own_put (HOq.out) ((A''.length + 1) * 4) (.string y.title)) ((A''.length + 1) * 4 + 1) (.string y.addr)) ((A''.length + 1) * 4 + 2) (.string y.summ)) ((A''.length + 1) * 4 + 3) (.int .i64 y.day)) (A''.length * 4) (.string x.title)) (A''.length * 4 + 1) (.string x.addr)) (A''.length * 4 + 2) (.string x.summ)) (A''.length * 4 + 3) (.int .i64 x.day)
                rw [show A'' ++ [y] ++ x :: (B ++ C') = A'' ++ y :: x :: (B ++ C') by simp, entsF_swap A'' (B ++ C') y x] at h4
                exact own_drew h4
              · have hgN : N ≤ gg := by omega
                exact (((((((((HBq.out.setCell hgN _).setCell hgN _).setCell hgN _).setCell hgN _).setCell hgN _).setCell hgN _).setCell hgN _).setCell hgN _)).drew
            case measure => simp [intOf]; omega
          | false =>
            have HXY := Lib.hid (show FeedR y x from FeedR.total (fun h9 => by rw [← ltF_iff, hxy] at h9; cases h9) HNe.out)
            have HNw := Lib.hid (fun w => newer_q x y false w hxy)
            have HSt := Lib.hid (HIn.out.stop FeedR.tr HXY.out)
            clear hxy
            go_wp2_with fail
            go_still_tail 12, (by kernel_rfl)
            change wpList _ _ _ _ _ (World.drew wr)
            go_wp2_with (go_at_call 25; go_must (refine (HNw.out _).mono ?_); rintro e w5 ⟨rfl, hb5⟩; have HO5 := Lib.hid (own_keepB2 (own_drew HOw.out) hb5); have HB5 := Lib.hid (HBw.out.drew.trans (hb5.mono (show N ≤ (World.drew wr).heap.size from hNr))); clear hb5)
            go_roundw
            case rel => exact ⟨i + 1, A'' ++ [y] ++ x :: B, C', by omega, by go_num, Lib.hid (by have h9 := HBl.out; simp only [List.length_append, List.length_cons, List.length_nil] at h9 ⊢; omega), Lib.hid (by have h1 := HBl.out; have h2 := HCl.out; simp only [List.length_append, List.length_cons, List.length_nil] at h1 ⊢; omega), HSt.out.2, HSt.out.1, Lib.hid (by have h9 := HO5.out; rw [show A'' ++ [y] ++ x :: B ++ C' = A'' ++ [y] ++ x :: (B ++ C') by simp]; exact h9), HB5⟩
            case measure => simp [intOf]; omega
    · obtain rfl : i = m0 := by omega
      obtain rfl : C = [] := List.eq_nil_of_length_eq_zero (by have h1 := HSc.out; have h2 := HSl.out; omega)
      rw [List.append_nil] at HPm HOw
      obtain ⟨et, het⟩ : ∃ u, escA title = u := ⟨_, rfl⟩
      obtain ⟨eb, heb⟩ : ∃ u, escA base = u := ⟨_, rfl⟩
      obtain ⟨dt, hdt⟩ : ∃ u, dateS day = u := ⟨_, rfl⟩
      have hes := escA_size title
      have hebs := escA_size base
      have hds := dateS_le (n := day) hday
      rw [het] at hes
      rw [heb] at hebs
      rw [hdt] at hds
      have hdo := dateOf_any day wr hday (HTab.out.keep (by rw [HN.out]; exact HBw.out))
      unfold FourRes at hdo
      rw [hdt] at hdo
      have HDo := Lib.hid hdo; clear hdo
      have HEt := Lib.hid het; have HEb := Lib.hid heb; have HDt := Lib.hid hdt
      clear het heb hdt
      obtain ⟨kk, hkk⟩ : ∃ kk : Nat, min (most : Int) (i : Int) = (kk : Int) := ⟨min most i, by omega⟩
      have hkn : kk ≤ i := by omega
      have HKm := Lib.hid (show kk = min most i by omega)
      have hNr : N ≤ wr.heap.size := by have := HBw.out.size; have := HN.out; omega
      have hem := (fun k => Nat.add_le_add (head_at_most ht hbs hday) (Nat.le_trans (ents_at_most hbs (S.take k) (fun x hx => by have hxl := HPm.out.mem_iff.1 (List.mem_of_mem_take hx); exact ⟨HZ.out x hxl, (HFi.out.day x hxl).2⟩)) (Nat.mul_le_mul_right _ (Nat.le_trans (by rw [List.length_take]; exact Nat.min_le_right _ _) (show S.length ≤ 60 by rw [HSl.out]; exact hm9)))) : ∀ k, (catL (headP title base day)).length + ((S.take k).flatMap (fun x => catL (entP base x))).length ≤ 13000000 + 60 * 20000000)
      go_wp2_with (first
        | (go_at_call 26; go_must (refine HDo.out.mono ?_); rintro e w8 ⟨⟨a8, b8, c8, rfl⟩, hb8⟩; have HO8 := Lib.hid (own_keepB2 HOw.out hb8); have HB8 := Lib.hid (HBw.out.trans (hb8.mono hNr)); clear hb8)
        | (go_at_call 27; go_must (refine (escapedF_q _ _ _ (by first | exact HEt.out | exact HEb.out) (by omega)).mono ?_); rintro e w9 ⟨rfl, rfl⟩))
      clear hkk
      go_loopw [18, 92] (fun t18 t92 wv => ∃ (k : Nat) (out : ByteArray), k ≤ kk ∧ t92 = .int .i64 k ∧ t18 = .string out ∧ Hid (out.data.toList = catL (headP title base day) ++ (S.take k).flatMap (fun x => catL (entP base x))) ∧ Hid (wv.ownsRow N 48 4 (.slice A7 i c7) i (entsFC S)) ∧ Hid (Below N w wv)) (fun _ t _ => kk - (intOf t).toNat)
      case atStart => exact ⟨0, _, Nat.zero_le _, rfl, rfl, Lib.hid (cat_head title base day et eb dt HEt.out HEb.out HDt.out), HO8, HB8⟩
      case round =>
        clear HO8 HB8 HOw HBw hNr HDo
        obtain ⟨k, out, hk, rfl, rfl, HOut, HOw, HBw⟩ := hrel
        have hNr : N ≤ wr.heap.size := by have := HBw.out.size; have := HN.out; omega
        have hos : out.size ≤ 1300000000 := by
          have h1 := congrArg List.length HOut.out
          rw [size_toList, List.length_append] at h1
          have h2 := hem k
          omega
        by_cases hlt2 : k < kk
        · obtain ⟨x, hx⟩ : ∃ x, S[k]? = some x := ⟨_, List.getElem?_eq_getElem (by rw [HSl.out]; omega)⟩
          obtain ⟨gg, rfl, hgg5, hgl⟩ := HA9.out (by omega)
          have HQx := Lib.hid (own_entF HOw.out hx)
          have hxl : x ∈ l := HPm.out.mem_iff.1 (List.mem_of_getElem? hx)
          have hxz := HZ.out x hxl
          obtain ⟨hx0, hx1⟩ := HFi.out.day x hxl
          have hxn : x.day = ((x.day.toNat : Nat) : Int) := by omega
          obtain ⟨dn, hdn⟩ : ∃ dn : Nat, x.day.toNat = dn := ⟨_, rfl⟩
          rw [hdn] at hxn
          obtain ⟨dx, hdx⟩ : ∃ u, dateS dn = u := ⟨_, rfl⟩
          obtain ⟨u1, hu1⟩ : ∃ u, escA x.title = u := ⟨_, rfl⟩
          obtain ⟨u2, hu2⟩ : ∃ u, escA (base ++ x.addr) = u := ⟨_, rfl⟩
          obtain ⟨u3, hu3⟩ : ∃ u, escA x.summ = u := ⟨_, rfl⟩
          have s1 := escA_size x.title; rw [hu1] at s1
          have s2 := escA_size (base ++ x.addr); rw [hu2, ByteArray.size_append] at s2
          have s3 := escA_size x.summ; rw [hu3] at s3
          have s4 := dateS_le (n := dn) (by omega); rw [hdx] at s4
          have HNx := Lib.hid (cat_snoc out _ base x HOut.out u1 u2 u3 dx hu1 hu2 hu3 (by rw [hdn]; exact hdx))
          have HTk := Lib.hid (show (S.take (k + 1)).flatMap (fun x => catL (entP base x)) = (S.take k).flatMap (fun x => catL (entP base x)) ++ catL (entP base x) by rw [List.take_add_one, hx]; simp)
          have HU1 := Lib.hid hu1; have HU2 := Lib.hid hu2; have HU3 := Lib.hid hu3; have HDx := Lib.hid hdx
          clear hu1 hu2 hu3 hdx hx hdn HOut
          have hxp := HQx.out.1.1
          have hxb := HQx.out.1.2.1
          have hxc := HQx.out.1.2.2.1
          have hxd := HQx.out.1.2.2.2
          obtain ⟨xt, xa, xs, xd⟩ := x
          simp only at hxp hxb hxc hxd hxn hxz hx0 hx1 s1 s2 s3
          subst hxn
          have HXc := Lib.hid (CB.new wr #[.string xt, .string xa, .string xs, .int .i64 (dn : Int)] 48)
          obtain ⟨W1, hW1⟩ : ∃ W1, wr.alloc (.cells #[.string xt, .string xa, .string xs, .int .i64 (dn : Int)] 48) = W1 := ⟨_, rfl⟩
          obtain ⟨nx, hnx⟩ : ∃ nx, wr.heap.size = nx := ⟨_, rfl⟩
          rw [hW1, hnx] at HXc
          have HB1 := Lib.hid (show Below N w W1 by rw [← hW1]; exact HBw.out.alloc hNr _)
          have HO1 := Lib.hid (show W1.ownsRow N 48 4 (.slice (some ⟨gg, 0, none⟩) i c7) i (entsFC S) by rw [← hW1]; exact own_alloc HOw.out _)
          have hN1 : N ≤ W1.heap.size := by have := HXc.out.lt; omega
          have e0 := HXc.out.c 0
          have e1 := HXc.out.c 1
          have e2 := HXc.out.c 2
          have e3 := HXc.out.c 3
          have esh := HXc.out.sh
          have hdo := dateOf_any dn W1 (by omega) (HTab.out.keep (by rw [HN.out]; exact HB1.out))
          unfold FourRes at hdo
          rw [HDx.out] at hdo
          have HDo := Lib.hid hdo; clear hdo
          go_wp2_with (go_at_call 26; go_must (refine HDo.out.mono ?_); rintro e w8 ⟨⟨a8, b8, c8, rfl⟩, hb8⟩; have HX8 := Lib.hid (HXc.out.below hb8); have HO8 := Lib.hid (own_keepB2 HO1.out hb8); have HB8 := Lib.hid (HB1.out.trans (hb8.mono hN1)); clear hb8; have g0 := HX8.out.c 0; have g1 := HX8.out.c 1; have g2 := HX8.out.c 2; have g3 := HX8.out.c 3; have gsh := HX8.out.sh)
          clear hW1 hnx hxp hxb hxc hxd e0 e1 e2 e3 esh HDo HQx
          go_quiet (first | (go_at_call 27; exact Calls.quiet_of_same ((escapedF_q _ _ _ (by first | exact HU1.out | exact HU2.out | exact HU3.out) (by first | omega | (rw [ByteArray.size_append]; omega))).mono fun e w' h9 => ⟨h9.1, h9.2.symm⟩)))
          go_wp2_with fail
          go_roundw
          case rel => exact ⟨k + 1, _, by omega, by go_num, rfl, by rw [HTk.out, ← List.append_assoc]; exact HNx, own_drewN HO8.out _, Below.drewN' HB8.out _⟩
          case measure => simp [intOf]; omega
        · obtain rfl : k = kk := by omega
          have HFin := Lib.hid (show (out ++ fkz) = ⟨(feedL title base day (S.take most)).toArray⟩ by
            apply Go.WideShapes.bytes_inj
            have e9 : S.take k = S.take most := by
              rw [HKm.out, ← HSl.out, ← List.take_take, List.take_length]
            rw [ByteArray.data_append, Array.toList_append, HOut.out, e9]
            simp [feedL])
          go_wp2_with fail
          go_ret
          exact ⟨by rw [HN.out]; exact HBw.out, S, HPm.out, HSs.out, by rw [← HFin.out]; rfl⟩
end Go.Proofs.YtnanogcppglapaaGreatDoor
