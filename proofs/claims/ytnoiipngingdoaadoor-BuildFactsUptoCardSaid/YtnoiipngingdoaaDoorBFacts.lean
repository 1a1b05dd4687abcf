/-
  The law of build's facts, walked.
-/
import Derived.Test.YtnoiipngingdoaaDoorRCont
import Derived.Test.YtnoiipngingdoaaDoorSameVal
namespace Go.Proofs.YtnoiipngingdoaaDoor
open Go.RowKit Go.Deep

/-- what the law's own search has found -/
def FRel (l : List (ByteArray × Val)) (nm : ByteArray) (k : Nat) (h : Bool) (r : Val) : Prop :=
  (h = false ∧ r = valZ ∧ ∀ (j : Nat) (y : ByteArray × Val), l[j]? = some y → j < k → (y.1.toList == nm.toList) = false) ∨
  (h = true ∧ foundB l nm = true ∧ factO l nm = r)

theorem keepsIn_lt {B : Nat} {w w' : World} (h : Below B w w') : KeepsIn (fun b => b < B) w w' := fun a x hp hx => by rw [World.cell?_of_block (h.block a.block hp)]; exact hx
theorem FRel.skip {l : List (ByteArray × Val)} {nm : ByteArray} {k : Nat} {h : Bool} {r : Val} {x : ByteArray × Val} (hr : FRel l nm k h r) (hx : l[k]? = some x) (hq : h = true ∨ (x.1.toList == nm.toList) = false) : FRel l nm (k + 1) h r := by
  rcases hr with ⟨h1, h2, h3⟩ | h1
  · refine Or.inl ⟨h1, h2, fun j y hj hk => ?_⟩
    rcases Nat.lt_succ_iff_lt_or_eq.1 hk with h5 | rfl
    · exact h3 j y hj h5
    · rw [hx] at hj
      cases hj
      rcases hq with hq | hq
      · rw [h1] at hq; cases hq
      · exact hq
  · exact Or.inr h1
theorem FRel.hit {l : List (ByteArray × Val)} {nm : ByteArray} {k : Nat} {r : Val} {x : ByteArray × Val} (hr : FRel l nm k false r) (hx : l[k]? = some x) (hq : (x.1.toList == nm.toList) = true) : FRel l nm (k + 1) true x.2 := by
  rcases hr with ⟨_, _, h3⟩ | ⟨h1, _⟩
  · exact Or.inr ⟨rfl, foundB_at hx hq, factO_at hx hq h3⟩
  · cases h1
theorem FRel.fin {l : List (ByteArray × Val)} {nm : ByteArray} {h : Bool} {r : Val} (hr : FRel l nm l.length h r) : h = foundB l nm ∧ r = factO l nm := by
  rcases hr with ⟨h1, h2, h3⟩ | ⟨h1, h2, h3⟩
  · have hall : ∀ (j : Nat) (y : ByteArray × Val), l[j]? = some y → (y.1.toList == nm.toList) = false := fun j y hj => h3 j y hj (List.getElem?_eq_some_iff.1 hj).1
    exact ⟨by rw [h1, foundB_none hall], by rw [h2, factO_none hall]⟩
  · exact ⟨by rw [h1, h2], h3.symm⟩

def RC (cv : Val) (x : Value) (w : World) : Prop := ∃ iv kv : Value, x = valAgg cv iv kv ∧ ValIn w AnyB x cv
theorem RC.below {cv : Val} {x : Value} {w w' : World} (h : RC cv x w) (hb : Below w.heap.size w w') : RC cv x w' := by obtain ⟨iv, kv, h1, h2⟩ := h; exact ⟨iv, kv, h1, h2.keeps (Keeps.of_below hb)⟩
def Inv9 (fr : Value → Value → Value → Value → Value → Value → Value → Value → Value → Value → Value → Value → Value → Value → Value → Value → Value → Value → Value → Value → Value → Value → Value → Value → Act) (f sm : Bool) (f1 f2 fa fb : Value) (bx : Array Value) (cv : Val) (W1 : World) (L : Array Bool) (a : Act) (w : World) : Prop :=
  ∃ x0 x1 x2 x3 x4 x5 x6 x7 x8 x9 x10 x11 x12 x13 x14 x15 x16 x17 x18 x19 x20 x21 x22 x23 : Value, a = fr x0 x1 x2 x3 x4 x5 x6 x7 x8 x9 x10 x11 x12 x13 x14 x15 x16 x17 x18 x19 x20 x21 x22 x23 ∧ Below W1.heap.size W1 w ∧ (L.getD 0 false = true → x0 = .bool f) ∧ (L.getD 1 false = true → x1 = .bool f) ∧ (L.getD 2 false = true → x2 = .bool true) ∧ (L.getD 3 false = true → x3 = .bool true) ∧ (L.getD 4 false = true → x4 = f1) ∧ (L.getD 5 false = true → x5 = f2) ∧ (L.getD 6 false = true → x6 = .bool true) ∧ (L.getD 7 false = true → x7 = .bool true) ∧ (L.getD 8 false = true → x8 = .bool true) ∧ (L.getD 9 false = true → x9 = .agg bx) ∧ (L.getD 10 false = true → RC cv x10 w) ∧ (L.getD 11 false = true → x11 = .agg bx) ∧ (L.getD 12 false = true → RC cv x12 w) ∧ (L.getD 13 false = true → x13 = .bool true) ∧ (L.getD 14 false = true → x14 = .bool true) ∧ (L.getD 15 false = true → x15 = .bool true) ∧ (L.getD 16 false = true → x16 = fa) ∧ (L.getD 17 false = true → x17 = fb) ∧ (L.getD 18 false = true → x18 = .bool sm) ∧ (L.getD 19 false = true → x19 = fa) ∧ (L.getD 20 false = true → x20 = fb) ∧ (L.getD 21 false = true → x21 = .bool sm) ∧ (L.getD 22 false = true → x22 = .bool true) ∧ (L.getD 23 false = true → x23 = .bool true)
theorem Inv9.start {m : Nat} {fr : Value → Value → Value → Value → Value → Value → Value → Value → Value → Value → Value → Value → Value → Value → Value → Value → Value → Value → Value → Value → Value → Value → Value → Value → Act} {f sm : Bool} {f1 f2 fa fb : Value} {bx : Array Value} {cv : Val} {W1 : World} {a : Act} (x0 x1 x2 x3 x4 x5 x6 x7 x8 x9 x10 x11 x12 x13 x14 x15 x16 x17 x18 x19 x20 x21 x22 x23 : Value) (h : a = fr x0 x1 x2 x3 x4 x5 x6 x7 x8 x9 x10 x11 x12 x13 x14 x15 x16 x17 x18 x19 x20 x21 x22 x23) : Inv9 fr f sm f1 f2 fa fb bx cv W1 (Array.replicate m false) a W1 :=
  ⟨x0, x1, x2, x3, x4, x5, x6, x7, x8, x9, x10, x11, x12, x13, x14, x15, x16, x17, x18, x19, x20, x21, x22, x23, h, Below.refl _ _, (fun h => by rw [getD_replicate_false] at h; cases h), (fun h => by rw [getD_replicate_false] at h; cases h), (fun h => by rw [getD_replicate_false] at h; cases h), (fun h => by rw [getD_replicate_false] at h; cases h), (fun h => by rw [getD_replicate_false] at h; cases h), (fun h => by rw [getD_replicate_false] at h; cases h), (fun h => by rw [getD_replicate_false] at h; cases h), (fun h => by rw [getD_replicate_false] at h; cases h), (fun h => by rw [getD_replicate_false] at h; cases h), (fun h => by rw [getD_replicate_false] at h; cases h), (fun h => by rw [getD_replicate_false] at h; cases h), (fun h => by rw [getD_replicate_false] at h; cases h), (fun h => by rw [getD_replicate_false] at h; cases h), (fun h => by rw [getD_replicate_false] at h; cases h), (fun h => by rw [getD_replicate_false] at h; cases h), (fun h => by rw [getD_replicate_false] at h; cases h), (fun h => by rw [getD_replicate_false] at h; cases h), (fun h => by rw [getD_replicate_false] at h; cases h), (fun h => by rw [getD_replicate_false] at h; cases h), (fun h => by rw [getD_replicate_false] at h; cases h), (fun h => by rw [getD_replicate_false] at h; cases h), (fun h => by rw [getD_replicate_false] at h; cases h), (fun h => by rw [getD_replicate_false] at h; cases h), (fun h => by rw [getD_replicate_false] at h; cases h)⟩

set_option maxRecDepth 100000 in
set_option maxHeartbeats 4000000 in
theorem bfacts_walk (l : List (ByteArray × Val)) (v : Value) (nm : ByteArray) (html su pl : ByteArray) (le : List Entry) (A : Option Addr) (n0 c : Nat) (wd : Int) (A1 : Option Addr) (n1 c1 : Nat) (A2 : Option Addr) (n2 c2 : Nat) (va vb : Val) (xa xb : Value) (w : World)
    (hN : NamedsAt w v l) (hm : ∀ x ∈ l, valW x.2 ≤ 1073741824) (hE : EntriesAt w (.slice A n0 c) le) (hl : le.length ≤ 1073741823) (hsp : SpOk w) (hz1 : html.size ≤ maxLen) (hz2 : pl.size ≤ maxLen) (hz3 : su.size ≤ maxLen) (hz4 : I64 wd)
    (ha : ValIn w AnyB xa va) (hb : ValIn w AnyB xb vb) :
    Calls Tryd.prog 3 #[v, .string nm, .agg (boxS html su pl A n0 c wd A1 n1 c1 A2 n2 c2), xa, xb] w fun e w' => e = .returned (.bool true) ∧ Below w.heap.size w w' := by
  have HNm := Lib.hid hN
  have HM := Lib.hid hm; clear hm
  have HE := Lib.hid hE
  have HSp := Lib.hid hsp; clear hsp
  have HZs := Lib.hid (And.intro hz1 (And.intro hz2 (And.intro hz3 hz4))); clear hz1 hz2 hz3 hz4
  have HVa := Lib.hid ha
  have HVb := Lib.hid hb
  obtain ⟨Af, cf, bf, of_, ivf, kvf, rfl, hlf, hcf, hAf, hcell⟩ := hN
  obtain ⟨A', c', b, o, hv, hlc, hc, _, _⟩ := hE
  cases hv
  unfold maxLen at hc hcf
  have HC := Lib.hid hcell; clear hcell
  have HA := Lib.hid hAf; clear hAf
  obtain ⟨iva, kva, rfl, hoa, hia, hka⟩ := ha
  obtain ⟨ivb, kvb, rfl, hob, hib, hkb⟩ := hb
  obtain ⟨Ba, ca, _, _, _, _, e1, _, _, _, _, _, _⟩ := hia.inv
  obtain ⟨Bb, cb, _, _, _, _, e2, _, _, _, _, _, _⟩ := hib.inv
  obtain ⟨Ca, da, _, _, e3, _, _, _, _⟩ := hka.inv
  obtain ⟨Cb, db, _, _, e4, _, _, _, _⟩ := hkb.inv
  subst e1 e2 e3 e4
  clear hoa hob hia hib hka hkb
  unfold valAgg boxS
  go_enter Tryd.func3, Tryd.ntmps3
  go_wp2_with fail
  obtain ⟨w1, hw1⟩ : ∃ w1, ((w.alloc (.cells #[.string html, .string su, .string pl, .slice A le.length c, .int .i64 wd, .slice A1 n1 c1, .slice A2 n2 c2] 26)).alloc (.cells #[.int .i64 va.kind, .bool va.flag, .int .i64 va.num, .string va.text, .slice Ba va.items.length ca, .slice Ca va.keys.length da] 29)).alloc (.cells #[.int .i64 vb.kind, .bool vb.flag, .int .i64 vb.num, .string vb.text, .slice Bb vb.items.length cb, .slice Cb vb.keys.length db] 29) = w1 := ⟨_, rfl⟩
  obtain ⟨n, hn⟩ : ∃ n, w.heap.size = n := ⟨_, rfl⟩
  have HB1 := Lib.hid (show Below w.heap.size w w1 by rw [← hw1]; exact (((Below.refl _ _).alloc (Nat.le_refl _) _).alloc (by simp) _).alloc (by simp; omega) _)
  have HX1 := Lib.hid (show CB w1 n 26 (boxS html su pl A le.length c wd A1 n1 c1 A2 n2 c2) by rw [← hw1, ← hn]; exact ((CB.new w _ _).alloc _).alloc _)
  have HA1 := Lib.hid (show CB w1 (n + 1) 29 (valC va (.slice Ba va.items.length ca) (.slice Ca va.keys.length da)) by rw [← hw1, ← hn]; have h := CB.new (w.alloc (.cells #[.string html, .string su, .string pl, .slice A le.length c, .int .i64 wd, .slice A1 n1 c1, .slice A2 n2 c2] 26)) (valC va (.slice Ba va.items.length ca) (.slice Ca va.keys.length da)) 29; rw [World.size_alloc] at h; exact h.alloc _)
  have HD1 := Lib.hid (show CB w1 (n + 2) 29 (valC vb (.slice Bb vb.items.length cb) (.slice Cb vb.keys.length db)) by rw [← hw1, ← hn]; have h := CB.new ((w.alloc (.cells #[.string html, .string su, .string pl, .slice A le.length c, .int .i64 wd, .slice A1 n1 c1, .slice A2 n2 c2] 26)).alloc (.cells #[.int .i64 va.kind, .bool va.flag, .int .i64 va.num, .string va.text, .slice Ba va.items.length ca, .slice Ca va.keys.length da] 29)) (valC vb (.slice Bb vb.items.length cb) (.slice Cb vb.keys.length db)) 29; rw [World.size_alloc, World.size_alloc] at h; exact h)
  have hs1 : w1.heap.size = n + 3 := by rw [← hw1, ← hn]; simp
  rw [hw1, hn]
  clear hw1
  have hnw : w.heap.size ≤ n := by omega
  have HNn := Lib.hid hn; clear hn
  have hcall := bfact_q l (.slice Af l.length cf) nm w1 (HNm.out.keep (Keeps.of_below HB1.out)) HM.out
  refine hcall.mono ?_
  clear hcall
  rintro e w2 ⟨B1, m1, d1, B2, m2, d2, rfl, hv2, hb2⟩
  have HV2 := Lib.hid hv2; clear hv2
  have HX2 := Lib.hid (HX1.out.below hb2)
  have HA2 := Lib.hid (HA1.out.below hb2)
  have HD2 := Lib.hid (HD1.out.below hb2)
  have HB2 := Lib.hid (HB1.out.trans (hb2.mono HB1.out.size))
  have hs2 := hb2.size
  clear hb2 HX1 HA1 HD1 HB1
  unfold valAgg
  go_wp2_with fail
  obtain ⟨w3, hw3⟩ : ∃ w3, (w2.alloc (.cells #[.int .i64 (factO l nm).kind, .bool (factO l nm).flag, .int .i64 (factO l nm).num, .string (factO l nm).text, .slice B1 m1 d1, .slice B2 m2 d2] 29)).alloc (.cells #[.int .i64 0, .bool false, .int .i64 0, .string ⟨#[]⟩, .slice none 0 0, .slice none 0 0] 29) = w3 := ⟨_, rfl⟩
  have HB23 := Lib.hid (show Below w2.heap.size w2 w3 by rw [← hw3]; exact ((Below.refl _ _).alloc (Nat.le_refl _) _).alloc (by simp) _)
  have HF3 := Lib.hid (show CB w3 w2.heap.size 29 (valC (factO l nm) (.slice B1 m1 d1) (.slice B2 m2 d2)) by rw [← hw3]; exact (CB.new w2 _ _).alloc _)
  have HW3 := Lib.hid (show CB w3 (w2.heap.size + 1) 29 (valC valZ (.slice none 0 0) (.slice none 0 0)) by rw [← hw3]; have h := CB.new (w2.alloc (.cells #[.int .i64 (factO l nm).kind, .bool (factO l nm).flag, .int .i64 (factO l nm).num, .string (factO l nm).text, .slice B1 m1 d1, .slice B2 m2 d2] 29)) (valC valZ (.slice none 0 0) (.slice none 0 0)) 29; rw [World.size_alloc] at h; exact h)
  have hs3 : w3.heap.size = w2.heap.size + 2 := by rw [← hw3]; simp
  rw [hw3]
  clear hw3
  have HV3 := Lib.hid (HV2.out.keep (KeepsIn.of_keeps (Keeps.of_below HB23.out)) (Q := fun b => b < w2.heap.size + 1) (fun b hb _ => by omega))
  have HX3 := Lib.hid (HX2.out.below HB23.out)
  have HA3 := Lib.hid (HA2.out.below HB23.out)
  have HD3 := Lib.hid (HD2.out.below HB23.out)
  have HB3 := Lib.hid (HB2.out.trans (HB23.out.mono HB2.out.size))
  have hwm := HB2.out.size
  obtain ⟨m, hm⟩ : ∃ m, w2.heap.size = m := ⟨_, rfl⟩
  rw [hm] at HF3 HW3 hs3 hs2 hwm HV3
  rw [hm]
  clear HV2 HX2 HA2 HD2 HB2 HB23 hm
  go_loopw [14, 26] (fun t14 t wr => ∃ (k : Nat) (h : Bool) (r : Val) (E1 : Option Addr) (p1 q1 : Nat) (E2 : Option Addr) (p2 q2 : Nat), k ≤ l.length ∧ t = .int .i64 k ∧ t14 = .bool h ∧ Hid (FRel l nm k h r) ∧ Hid (CB wr (m + 1) 29 (valC r (.slice E1 p1 q1) (.slice E2 p2 q2))) ∧ Hid (ValIn wr (fun b => b < m + 1) (valAgg r (.slice E1 p1 q1) (.slice E2 p2 q2)) r) ∧ Hid (Below (m + 1) w3 wr)) (fun _ t _ => l.length - (intOf t).toNat)
  case atStart => exact ⟨0, false, valZ, none, 0, 0, none, 0, 0, Nat.zero_le _, rfl, rfl, Or.inl ⟨rfl, rfl, fun j y _ h => absurd h (by omega)⟩, HW3.out, ⟨_, _, rfl, ⟨i64_0, i64_0, Nat.zero_le _⟩, valsIn_nil _ _, strsIn_nil _ _⟩, Below.refl _ _⟩
  case round =>
    clear HW3
    obtain ⟨k, h, r, E1, p1, q1, E2, p2, q2, hk, rfl, rfl, HR, HW, HVr, HBr⟩ := hrel
    have hnl := HW.out.lt
    have hbs := HBr.out.size
    by_cases hlt : k < l.length
    · have hA2 := HA.out (by rintro rfl; simp at hlt)
      subst hA2
      obtain ⟨x, hx⟩ : ∃ x, l[k]? = some x := ⟨_, List.getElem?_eq_getElem hlt⟩
      have HBw := Lib.hid (show Below w.heap.size w wr from HB3.out.trans (HBr.out.mono (by omega)))
      obtain ⟨q0, q1, q2'⟩ := HC.out k x hx
      obtain ⟨⟨F1, g1, e1⟩, ⟨F2, g2, e2⟩⟩ := q2'.form
      rw [e1, e2] at q1 q2'
      have kp := Keeps.of_below HBw.out
      have x0 := kp _ _ q0
      obtain ⟨x1, x2, x3, x4, x5, x6⟩ := q1.keep kp
      have HQ := Lib.hid (show ValIn wr (fun b => b < m + 1) _ x.2 from q2'.keep (KeepsIn.of_keeps kp) (fun b hb _ => by omega))
      have HX0 := Lib.hid hx
      clear q0 q1 q2' e1 e2 kp hx
      cases hq : (x.1.toList == nm.toList)
      · have HRs := Lib.hid (HR.out.skip HX0.out (Or.inr hq))
        cases h
        · go_wp2_with fail
          go_roundw
          case rel => exact ⟨k + 1, _, r, E1, p1, q1, E2, p2, q2, by omega, by go_num, rfl, HRs.out, HW.out.alloc _, HVr.out.keep (KeepsIn.of_keeps (Keeps.alloc wr _)) (fun _ _ x => x), HBr.out.alloc (by omega) _⟩
          case measure => simp [intOf]; omega
        · go_wp2_with fail
          go_roundw
          case rel => exact ⟨k + 1, _, r, E1, p1, q1, E2, p2, q2, by omega, by go_num, rfl, HRs.out, HW.out.alloc _, HVr.out.keep (KeepsIn.of_keeps (Keeps.alloc wr _)) (fun _ _ x => x), HBr.out.alloc (by omega) _⟩
          case measure => simp [intOf]; omega
      · cases h
        · have HRs := Lib.hid (HR.out.hit HX0.out hq)
          have zc0 := HW.out.c 0
          have zf0 := HW.out.f 0
          have zc1 := HW.out.c 1
          have zf1 := HW.out.f 1
          have zc2 := HW.out.c 2
          have zf2 := HW.out.f 2
          have zc3 := HW.out.c 3
          have zf3 := HW.out.f 3
          have zc4 := HW.out.c 4
          have zf4 := HW.out.f 4
          have zc5 := HW.out.c 5
          have zf5 := HW.out.f 5
          have zsh := HW.out.sh
          simp only [valC] at zc0 zc1 zc2 zc3 zc4 zc5 zsh
          go_wp2_with fail
          go_roundw
          case rel => exact ⟨k + 1, true, x.2, F1, _, g1, F2, _, g2, by omega, by go_num, rfl, HRs.out, ((((((HW.out.put 0 _).put 1 _).put 2 _).put 3 _).put 4 _).put 5 _).alloc _, HQ.out.keep (keepsIn_lt ((((((((Below.refl (m + 1) wr).setB (Nat.le_refl _) 0 _).setB (Nat.le_refl _) 1 _).setB (Nat.le_refl _) 2 _).setB (Nat.le_refl _) 3 _).setB (Nat.le_refl _) 4 _).setB (Nat.le_refl _) 5 _).alloc (by simp [World.setCell]; omega) _)) (fun _ _ x => x), HBr.out.trans ((((((((Below.refl (m + 1) wr).setB (Nat.le_refl _) 0 _).setB (Nat.le_refl _) 1 _).setB (Nat.le_refl _) 2 _).setB (Nat.le_refl _) 3 _).setB (Nat.le_refl _) 4 _).setB (Nat.le_refl _) 5 _).alloc (by simp [World.setCell]; omega) _)⟩
          case measure => simp [intOf]; omega
        · have HRs := Lib.hid (HR.out.skip HX0.out (Or.inl rfl))
          go_wp2_with fail
          go_roundw
          case rel => exact ⟨k + 1, _, r, E1, p1, q1, E2, p2, q2, by omega, by go_num, rfl, HRs.out, HW.out.alloc _, HVr.out.keep (KeepsIn.of_keeps (Keeps.alloc wr _)) (fun _ _ x => x), HBr.out.alloc (by omega) _⟩
          case measure => simp [intOf]; omega
    · have hkl : k = l.length := by omega
      subst hkl
      obtain ⟨e1, e2⟩ := HR.out.fin
      subst e1 e2
      go_wp2_with fail
      have HBw := Lib.hid (show Below w.heap.size w wr from HB3.out.trans (HBr.out.mono (by omega)))
      refine wp_region_any (by kernel_rfl) ?_
      change wpAny _ _ _ _ _ _ _ wr.drew
      obtain ⟨W9, hW9⟩ : ∃ W9, wr.drew = W9 := ⟨_, rfl⟩
      have HF9 := Lib.hid (show CB W9 m 29 (valC (factO l nm) (.slice B1 m1 d1) (.slice B2 m2 d2)) by rw [← hW9]; exact ((HBr.out.block m (by omega)).trans HF3.out : wr.heap[m]? = _))
      have HW9 := Lib.hid (show CB W9 (m + 1) 29 (valC (factO l nm) (.slice E1 p1 q1) (.slice E2 p2 q2)) by rw [← hW9]; exact HW.out.drew)
      have HX9 := Lib.hid (show CB W9 n 26 (boxS html su pl A le.length c wd A1 n1 c1 A2 n2 c2) by rw [← hW9]; exact ((HBr.out.block n (by omega)).trans HX3.out : wr.heap[n]? = _))
      have HA9 := Lib.hid (show CB W9 (n + 1) 29 (valC va (.slice Ba va.items.length ca) (.slice Ca va.keys.length da)) by rw [← hW9]; exact ((HBr.out.block (n + 1) (by omega)).trans HA3.out : wr.heap[n + 1]? = _))
      have HD9 := Lib.hid (show CB W9 (n + 2) 29 (valC vb (.slice Bb vb.items.length cb) (.slice Cb vb.keys.length db)) by rw [← hW9]; exact ((HBr.out.block (n + 2) (by omega)).trans HD3.out : wr.heap[n + 2]? = _))
      have HB9 := Lib.hid (show Below w.heap.size w W9 by rw [← hW9]; exact HBw.out.drew)
      have HE9 := Lib.hid (HE.out.keep (Keeps.of_below HB9.out))
      have HSp9 := Lib.hid (HSp.out.keep HB9.out)
      have HVa9 := Lib.hid (HVa.out.keeps (Keeps.of_below HB9.out))
      have HVb9 := Lib.hid (HVb.out.keeps (Keeps.of_below HB9.out))
      have HBd := Lib.hid (show Below wr.heap.size wr W9 by rw [← hW9]; exact (Below.refl _ _).drew)
      have HVf9 := Lib.hid ((HV3.out.keep (keepsIn_lt HBr.out) (Q := AnyB) (fun _ _ _ => trivial)).keeps (Keeps.of_below HBd.out))
      have HVw9 := Lib.hid ((HVr.out.keep (KeepsIn.refl _ _) (Q := AnyB) (fun _ _ _ => trivial)).keeps (Keeps.of_below HBd.out))
      rw [hW9]
      clear hW9
      refine wpAny_inv [0, 1, 2, 3, 4, 5, 6, 7, 8, 9, 10, 11, 12, 13, 14, 15, 16, 17, 18, 19, 20, 21, 22, 23] (Inv9 (fun v41 v42 v43 v44 v45 v46 v47 v48 v49 v50 v51 v52 v53 v54 v55 v56 v57 v58 v59 v60 v61 v62 v63 v64 => ⟨#[.slice Af l.length cf, .string nm, .agg #[.string html, .string su, .string pl, .slice A le.length c, .int .i64 wd, .slice A1 n1 c1, .slice A2 n2 c2], .agg #[.int .i64 va.kind, .bool va.flag, .int .i64 va.num, .string va.text, .slice Ba va.items.length ca, .slice Ca va.keys.length da], .agg #[.int .i64 vb.kind, .bool vb.flag, .int .i64 vb.num, .string vb.text, .slice Bb vb.items.length cb, .slice Cb vb.keys.length db], undef, undef, .pointer (some ⟨n, 0, none⟩), .pointer (some ⟨n + 1, 0, none⟩), .pointer (some ⟨n + 1 + 1, 0, none⟩), .bool false, .pointer (some ⟨m, 0, none⟩), .bool (foundB l nm), .pointer (some ⟨m + 1, 0, none⟩), .bool (foundB l nm), undef, u16, .tuple #[.agg #[.int .i64 (factO l nm).kind, .bool (factO l nm).flag, .int .i64 (factO l nm).num, .string (factO l nm).text, .slice B1 m1 d1, .slice B2 m2 d2], .bool (foundB l nm)], .slice Af l.length cf, .string nm, .tuple #[.agg #[.int .i64 (factO l nm).kind, .bool (factO l nm).flag, .int .i64 (factO l nm).num, .string (factO l nm).text, .slice B1 m1 d1, .slice B2 m2 d2], .bool (foundB l nm)], .agg #[.int .i64 (factO l nm).kind, .bool (factO l nm).flag, .int .i64 (factO l nm).num, .string (factO l nm).text, .slice B1 m1 d1, .slice B2 m2 d2], .bool (foundB l nm), .agg #[.int .i64 0, .bool false, .int .i64 0, .string ⟨#[]⟩, .slice none 0 0, .slice none 0 0], .slice Af l.length cf, .int .i64 ↑l.length, .int .i64 ↑l.length, .bool false, u28, u29, u30, u31, u32, u33, u34, u35, u36, u37, u38, u39, u40, v41, v42, v43, v44, v45, v46, v47, v48, v49, v50, v51, v52, v53, v54, v55, v56, v57, v58, v59, v60, v61, v62, v63, v64], []⟩) (foundB l nm) (sameV va vb) (.agg (valC (factO l nm) (.slice B1 m1 d1) (.slice B2 m2 d2))) (.agg (valC (factO l nm) (.slice E1 p1 q1) (.slice E2 p2 q2))) (.agg (valC va (.slice Ba va.items.length ca) (.slice Ca va.keys.length da))) (.agg (valC vb (.slice Bb vb.items.length cb) (.slice Cb vb.keys.length db))) (boxS html su pl A le.length c wd A1 n1 c1 A2 n2 c2) (contV html su pl le wd) W9) #[true, true, true, true, true, true, true, true, true, true, true, true, true, true, true, true, true, true, true, true, true, true, true, true, false] (g := 1) (by kernel_rfl) (by kernel_rfl) (by kernel_rfl) (Inv9.start undef undef undef undef undef undef undef undef undef undef undef undef undef undef undef undef undef undef undef undef undef undef undef undef rfl) ?step ?last
      case step =>
        intro i hi L a' w' hs hr hI
        obtain ⟨x0, x1, x2, x3, x4, x5, x6, x7, x8, x9, x10, x11, x12, x13, x14, x15, x16, x17, x18, x19, x20, x21, x22, x23, rfl, hB, h0, h1, h2, h3, h4, h5, h6, h7, h8, h9, h10, h11, h12, h13, h14, h15, h16, h17, h18, h19, h20, h21, h22, h23⟩ := hI
        simp only [List.mem_cons, List.not_mem_nil, or_false] at hi
        rcases hi with rfl | rfl | rfl | rfl | rfl | rfl | rfl | rfl | rfl | rfl | rfl | rfl | rfl | rfl | rfl | rfl | rfl | rfl | rfl | rfl | rfl | rfl | rfl | rfl
        · refine wpOp_step rfl (fun K hK => ?_)
          go_simp
          exact hK _ _ ⟨_, _, _, _, _, _, _, _, _, _, _, _, _, _, _, _, _, _, _, _, _, _, _, _, rfl, hB, fun _ => rfl, fun h => h1 (getD_was (by decide) h), fun h => h2 (getD_was (by decide) h), fun h => h3 (getD_was (by decide) h), fun h => h4 (getD_was (by decide) h), fun h => h5 (getD_was (by decide) h), fun h => h6 (getD_was (by decide) h), fun h => h7 (getD_was (by decide) h), fun h => h8 (getD_was (by decide) h), fun h => h9 (getD_was (by decide) h), fun h => h10 (getD_was (by decide) h), fun h => h11 (getD_was (by decide) h), fun h => h12 (getD_was (by decide) h), fun h => h13 (getD_was (by decide) h), fun h => h14 (getD_was (by decide) h), fun h => h15 (getD_was (by decide) h), fun h => h16 (getD_was (by decide) h), fun h => h17 (getD_was (by decide) h), fun h => h18 (getD_was (by decide) h), fun h => h19 (getD_was (by decide) h), fun h => h20 (getD_was (by decide) h), fun h => h21 (getD_was (by decide) h), fun h => h22 (getD_was (by decide) h), fun h => h23 (getD_was (by decide) h)⟩
        · refine wpOp_step rfl (fun K hK => ?_)
          go_simp
          exact hK _ _ ⟨_, _, _, _, _, _, _, _, _, _, _, _, _, _, _, _, _, _, _, _, _, _, _, _, rfl, hB, fun h => h0 (getD_was (by decide) h), fun _ => rfl, fun h => h2 (getD_was (by decide) h), fun h => h3 (getD_was (by decide) h), fun h => h4 (getD_was (by decide) h), fun h => h5 (getD_was (by decide) h), fun h => h6 (getD_was (by decide) h), fun h => h7 (getD_was (by decide) h), fun h => h8 (getD_was (by decide) h), fun h => h9 (getD_was (by decide) h), fun h => h10 (getD_was (by decide) h), fun h => h11 (getD_was (by decide) h), fun h => h12 (getD_was (by decide) h), fun h => h13 (getD_was (by decide) h), fun h => h14 (getD_was (by decide) h), fun h => h15 (getD_was (by decide) h), fun h => h16 (getD_was (by decide) h), fun h => h17 (getD_was (by decide) h), fun h => h18 (getD_was (by decide) h), fun h => h19 (getD_was (by decide) h), fun h => h20 (getD_was (by decide) h), fun h => h21 (getD_was (by decide) h), fun h => h22 (getD_was (by decide) h), fun h => h23 (getD_was (by decide) h)⟩
        · have q0 := h0 (ready_dep hr (by kernel_rfl))
          have q1 := h1 (ready_dep hr (by kernel_rfl))
          subst q0
          subst q1
          refine wpOp_step rfl (fun K hK => ?_)
          go_simp
          exact hK _ _ ⟨_, _, _, _, _, _, _, _, _, _, _, _, _, _, _, _, _, _, _, _, _, _, _, _, rfl, hB, fun _ => rfl, fun _ => rfl, fun _ => rfl, fun h => h3 (getD_was (by decide) h), fun h => h4 (getD_was (by decide) h), fun h => h5 (getD_was (by decide) h), fun h => h6 (getD_was (by decide) h), fun h => h7 (getD_was (by decide) h), fun h => h8 (getD_was (by decide) h), fun h => h9 (getD_was (by decide) h), fun h => h10 (getD_was (by decide) h), fun h => h11 (getD_was (by decide) h), fun h => h12 (getD_was (by decide) h), fun h => h13 (getD_was (by decide) h), fun h => h14 (getD_was (by decide) h), fun h => h15 (getD_was (by decide) h), fun h => h16 (getD_was (by decide) h), fun h => h17 (getD_was (by decide) h), fun h => h18 (getD_was (by decide) h), fun h => h19 (getD_was (by decide) h), fun h => h20 (getD_was (by decide) h), fun h => h21 (getD_was (by decide) h), fun h => h22 (getD_was (by decide) h), fun h => h23 (getD_was (by decide) h)⟩
        · have q2 := h2 (ready_dep hr (by kernel_rfl))
          subst q2
          refine wpOp_step rfl (fun K hK => ?_)
          go_simp
          exact hK _ _ ⟨_, _, _, _, _, _, _, _, _, _, _, _, _, _, _, _, _, _, _, _, _, _, _, _, rfl, hB, fun h => h0 (getD_was (by decide) h), fun h => h1 (getD_was (by decide) h), fun _ => rfl, fun _ => rfl, fun h => h4 (getD_was (by decide) h), fun h => h5 (getD_was (by decide) h), fun h => h6 (getD_was (by decide) h), fun h => h7 (getD_was (by decide) h), fun h => h8 (getD_was (by decide) h), fun h => h9 (getD_was (by decide) h), fun h => h10 (getD_was (by decide) h), fun h => h11 (getD_was (by decide) h), fun h => h12 (getD_was (by decide) h), fun h => h13 (getD_was (by decide) h), fun h => h14 (getD_was (by decide) h), fun h => h15 (getD_was (by decide) h), fun h => h16 (getD_was (by decide) h), fun h => h17 (getD_was (by decide) h), fun h => h18 (getD_was (by decide) h), fun h => h19 (getD_was (by decide) h), fun h => h20 (getD_was (by decide) h), fun h => h21 (getD_was (by decide) h), fun h => h22 (getD_was (by decide) h), fun h => h23 (getD_was (by decide) h)⟩
        · have q3 := h3 (ready_dep hr (by kernel_rfl))
          subst q3
          have z0 := (HF9.out.below hB).c 0
          have z1 := (HF9.out.below hB).c 1
          have z2 := (HF9.out.below hB).c 2
          have z3 := (HF9.out.below hB).c 3
          have z4 := (HF9.out.below hB).c 4
          have z5 := (HF9.out.below hB).c 5
          have zsh := (HF9.out.below hB).sh
          simp only [valC] at z0 z1 z2 z3 z4 z5 zsh
          refine wpOp_step rfl (fun K hK => ?_)
          go_simp
          exact hK _ _ ⟨_, _, _, _, _, _, _, _, _, _, _, _, _, _, _, _, _, _, _, _, _, _, _, _, rfl, hB, fun h => h0 (getD_was (by decide) h), fun h => h1 (getD_was (by decide) h), fun h => h2 (getD_was (by decide) h), fun _ => rfl, fun _ => rfl, fun h => h5 (getD_was (by decide) h), fun h => h6 (getD_was (by decide) h), fun h => h7 (getD_was (by decide) h), fun h => h8 (getD_was (by decide) h), fun h => h9 (getD_was (by decide) h), fun h => h10 (getD_was (by decide) h), fun h => h11 (getD_was (by decide) h), fun h => h12 (getD_was (by decide) h), fun h => h13 (getD_was (by decide) h), fun h => h14 (getD_was (by decide) h), fun h => h15 (getD_was (by decide) h), fun h => h16 (getD_was (by decide) h), fun h => h17 (getD_was (by decide) h), fun h => h18 (getD_was (by decide) h), fun h => h19 (getD_was (by decide) h), fun h => h20 (getD_was (by decide) h), fun h => h21 (getD_was (by decide) h), fun h => h22 (getD_was (by decide) h), fun h => h23 (getD_was (by decide) h)⟩
        · have q3 := h3 (ready_dep hr (by kernel_rfl))
          subst q3
          have z0 := (HW9.out.below hB).c 0
          have z1 := (HW9.out.below hB).c 1
          have z2 := (HW9.out.below hB).c 2
          have z3 := (HW9.out.below hB).c 3
          have z4 := (HW9.out.below hB).c 4
          have z5 := (HW9.out.below hB).c 5
          have zsh := (HW9.out.below hB).sh
          simp only [valC] at z0 z1 z2 z3 z4 z5 zsh
          refine wpOp_step rfl (fun K hK => ?_)
          go_simp
          exact hK _ _ ⟨_, _, _, _, _, _, _, _, _, _, _, _, _, _, _, _, _, _, _, _, _, _, _, _, rfl, hB, fun h => h0 (getD_was (by decide) h), fun h => h1 (getD_was (by decide) h), fun h => h2 (getD_was (by decide) h), fun _ => rfl, fun h => h4 (getD_was (by decide) h), fun _ => rfl, fun h => h6 (getD_was (by decide) h), fun h => h7 (getD_was (by decide) h), fun h => h8 (getD_was (by decide) h), fun h => h9 (getD_was (by decide) h), fun h => h10 (getD_was (by decide) h), fun h => h11 (getD_was (by decide) h), fun h => h12 (getD_was (by decide) h), fun h => h13 (getD_was (by decide) h), fun h => h14 (getD_was (by decide) h), fun h => h15 (getD_was (by decide) h), fun h => h16 (getD_was (by decide) h), fun h => h17 (getD_was (by decide) h), fun h => h18 (getD_was (by decide) h), fun h => h19 (getD_was (by decide) h), fun h => h20 (getD_was (by decide) h), fun h => h21 (getD_was (by decide) h), fun h => h22 (getD_was (by decide) h), fun h => h23 (getD_was (by decide) h)⟩
        · have q3 := h3 (ready_dep hr (by kernel_rfl))
          have q4 := h4 (ready_dep hr (by kernel_rfl))
          have q5 := h5 (ready_dep hr (by kernel_rfl))
          subst q3
          subst q4
          subst q5
          refine wpOp_step rfl (fun K hK => ?_)
          go_simp
          refine (sameRef_q _ _ _ _ _ w' (Nat.le_refl _) (HVf9.out.keeps (Keeps.of_below hB)) (HVw9.out.keeps (Keeps.of_below hB))).mono ?_
          rw [sameV_refl]
          rintro e w'' ⟨rfl, hb⟩
          exact hK _ _ ⟨_, _, _, _, _, _, _, _, _, _, _, _, _, _, _, _, _, _, _, _, _, _, _, _, rfl, hB.trans (hb.mono hB.size), fun h => h0 (getD_was (by decide) h), fun h => h1 (getD_was (by decide) h), fun h => h2 (getD_was (by decide) h), fun _ => rfl, fun _ => rfl, fun _ => rfl, fun _ => rfl, fun h => h7 (getD_was (by decide) h), fun h => h8 (getD_was (by decide) h), fun h => h9 (getD_was (by decide) h), fun h => (h10 (getD_was (by decide) h)).below hb, fun h => h11 (getD_was (by decide) h), fun h => (h12 (getD_was (by decide) h)).below hb, fun h => h13 (getD_was (by decide) h), fun h => h14 (getD_was (by decide) h), fun h => h15 (getD_was (by decide) h), fun h => h16 (getD_was (by decide) h), fun h => h17 (getD_was (by decide) h), fun h => h18 (getD_was (by decide) h), fun h => h19 (getD_was (by decide) h), fun h => h20 (getD_was (by decide) h), fun h => h21 (getD_was (by decide) h), fun h => h22 (getD_was (by decide) h), fun h => h23 (getD_was (by decide) h)⟩
        · have q3 := h3 (ready_dep hr (by kernel_rfl))
          have q6 := h6 (ready_dep hr (by kernel_rfl))
          subst q3
          subst q6
          refine wpOp_step rfl (fun K hK => ?_)
          go_simp
          exact hK _ _ ⟨_, _, _, _, _, _, _, _, _, _, _, _, _, _, _, _, _, _, _, _, _, _, _, _, rfl, hB, fun h => h0 (getD_was (by decide) h), fun h => h1 (getD_was (by decide) h), fun h => h2 (getD_was (by decide) h), fun _ => rfl, fun h => h4 (getD_was (by decide) h), fun h => h5 (getD_was (by decide) h), fun _ => rfl, fun _ => rfl, fun h => h8 (getD_was (by decide) h), fun h => h9 (getD_was (by decide) h), fun h => h10 (getD_was (by decide) h), fun h => h11 (getD_was (by decide) h), fun h => h12 (getD_was (by decide) h), fun h => h13 (getD_was (by decide) h), fun h => h14 (getD_was (by decide) h), fun h => h15 (getD_was (by decide) h), fun h => h16 (getD_was (by decide) h), fun h => h17 (getD_was (by decide) h), fun h => h18 (getD_was (by decide) h), fun h => h19 (getD_was (by decide) h), fun h => h20 (getD_was (by decide) h), fun h => h21 (getD_was (by decide) h), fun h => h22 (getD_was (by decide) h), fun h => h23 (getD_was (by decide) h)⟩
        · have q7 := h7 (ready_dep hr (by kernel_rfl))
          subst q7
          refine wpOp_step rfl (fun K hK => ?_)
          go_simp
          exact hK _ _ ⟨_, _, _, _, _, _, _, _, _, _, _, _, _, _, _, _, _, _, _, _, _, _, _, _, rfl, hB, fun h => h0 (getD_was (by decide) h), fun h => h1 (getD_was (by decide) h), fun h => h2 (getD_was (by decide) h), fun h => h3 (getD_was (by decide) h), fun h => h4 (getD_was (by decide) h), fun h => h5 (getD_was (by decide) h), fun h => h6 (getD_was (by decide) h), fun _ => rfl, fun _ => rfl, fun h => h9 (getD_was (by decide) h), fun h => h10 (getD_was (by decide) h), fun h => h11 (getD_was (by decide) h), fun h => h12 (getD_was (by decide) h), fun h => h13 (getD_was (by decide) h), fun h => h14 (getD_was (by decide) h), fun h => h15 (getD_was (by decide) h), fun h => h16 (getD_was (by decide) h), fun h => h17 (getD_was (by decide) h), fun h => h18 (getD_was (by decide) h), fun h => h19 (getD_was (by decide) h), fun h => h20 (getD_was (by decide) h), fun h => h21 (getD_was (by decide) h), fun h => h22 (getD_was (by decide) h), fun h => h23 (getD_was (by decide) h)⟩
        · have q8 := h8 (ready_dep hr (by kernel_rfl))
          subst q8
          have z0 := (HX9.out.below hB).c 0
          have z1 := (HX9.out.below hB).c 1
          have z2 := (HX9.out.below hB).c 2
          have z3 := (HX9.out.below hB).c 3
          have z4 := (HX9.out.below hB).c 4
          have z5 := (HX9.out.below hB).c 5
          have z6 := (HX9.out.below hB).c 6
          have zsh := (HX9.out.below hB).sh
          simp only [boxS] at z0 z1 z2 z3 z4 z5 z6 zsh
          refine wpOp_step rfl (fun K hK => ?_)
          go_simp
          exact hK _ _ ⟨_, _, _, _, _, _, _, _, _, _, _, _, _, _, _, _, _, _, _, _, _, _, _, _, rfl, hB, fun h => h0 (getD_was (by decide) h), fun h => h1 (getD_was (by decide) h), fun h => h2 (getD_was (by decide) h), fun h => h3 (getD_was (by decide) h), fun h => h4 (getD_was (by decide) h), fun h => h5 (getD_was (by decide) h), fun h => h6 (getD_was (by decide) h), fun h => h7 (getD_was (by decide) h), fun _ => rfl, fun _ => rfl, fun h => h10 (getD_was (by decide) h), fun h => h11 (getD_was (by decide) h), fun h => h12 (getD_was (by decide) h), fun h => h13 (getD_was (by decide) h), fun h => h14 (getD_was (by decide) h), fun h => h15 (getD_was (by decide) h), fun h => h16 (getD_was (by decide) h), fun h => h17 (getD_was (by decide) h), fun h => h18 (getD_was (by decide) h), fun h => h19 (getD_was (by decide) h), fun h => h20 (getD_was (by decide) h), fun h => h21 (getD_was (by decide) h), fun h => h22 (getD_was (by decide) h), fun h => h23 (getD_was (by decide) h)⟩
        · have q8 := h8 (ready_dep hr (by kernel_rfl))
          have q9 := h9 (ready_dep hr (by kernel_rfl))
          subst q8
          subst q9
          refine wpOp_step rfl (fun K hK => ?_)
          go_simp
          refine (bcont_q html su pl le A le.length c wd A1 n1 c1 A2 n2 c2 w' (HE9.out.keep (Keeps.of_below hB)) hl (HSp9.out.keep hB) HZs.out.1 HZs.out.2.1 HZs.out.2.2.1 HZs.out.2.2.2).mono ?_
          rintro e w'' ⟨_, _, _, _, _, _, rfl, hv, hb⟩
          replace hv := hv.keep (KeepsIn.refl _ _) (Q := AnyB) (fun _ _ _ => trivial)
          exact hK _ _ ⟨_, _, _, _, _, _, _, _, _, _, _, _, _, _, _, _, _, _, _, _, _, _, _, _, rfl, hB.trans (hb.mono hB.size), fun h => h0 (getD_was (by decide) h), fun h => h1 (getD_was (by decide) h), fun h => h2 (getD_was (by decide) h), fun h => h3 (getD_was (by decide) h), fun h => h4 (getD_was (by decide) h), fun h => h5 (getD_was (by decide) h), fun h => h6 (getD_was (by decide) h), fun h => h7 (getD_was (by decide) h), fun _ => rfl, fun _ => rfl, fun _ => ⟨_, _, rfl, hv⟩, fun h => h11 (getD_was (by decide) h), fun h => (h12 (getD_was (by decide) h)).below hb, fun h => h13 (getD_was (by decide) h), fun h => h14 (getD_was (by decide) h), fun h => h15 (getD_was (by decide) h), fun h => h16 (getD_was (by decide) h), fun h => h17 (getD_was (by decide) h), fun h => h18 (getD_was (by decide) h), fun h => h19 (getD_was (by decide) h), fun h => h20 (getD_was (by decide) h), fun h => h21 (getD_was (by decide) h), fun h => h22 (getD_was (by decide) h), fun h => h23 (getD_was (by decide) h)⟩
        · have q8 := h8 (ready_dep hr (by kernel_rfl))
          subst q8
          have z0 := (HX9.out.below hB).c 0
          have z1 := (HX9.out.below hB).c 1
          have z2 := (HX9.out.below hB).c 2
          have z3 := (HX9.out.below hB).c 3
          have z4 := (HX9.out.below hB).c 4
          have z5 := (HX9.out.below hB).c 5
          have z6 := (HX9.out.below hB).c 6
          have zsh := (HX9.out.below hB).sh
          simp only [boxS] at z0 z1 z2 z3 z4 z5 z6 zsh
          refine wpOp_step rfl (fun K hK => ?_)
          go_simp
          exact hK _ _ ⟨_, _, _, _, _, _, _, _, _, _, _, _, _, _, _, _, _, _, _, _, _, _, _, _, rfl, hB, fun h => h0 (getD_was (by decide) h), fun h => h1 (getD_was (by decide) h), fun h => h2 (getD_was (by decide) h), fun h => h3 (getD_was (by decide) h), fun h => h4 (getD_was (by decide) h), fun h => h5 (getD_was (by decide) h), fun h => h6 (getD_was (by decide) h), fun h => h7 (getD_was (by decide) h), fun _ => rfl, fun h => h9 (getD_was (by decide) h), fun h => h10 (getD_was (by decide) h), fun _ => rfl, fun h => h12 (getD_was (by decide) h), fun h => h13 (getD_was (by decide) h), fun h => h14 (getD_was (by decide) h), fun h => h15 (getD_was (by decide) h), fun h => h16 (getD_was (by decide) h), fun h => h17 (getD_was (by decide) h), fun h => h18 (getD_was (by decide) h), fun h => h19 (getD_was (by decide) h), fun h => h20 (getD_was (by decide) h), fun h => h21 (getD_was (by decide) h), fun h => h22 (getD_was (by decide) h), fun h => h23 (getD_was (by decide) h)⟩
        · have q8 := h8 (ready_dep hr (by kernel_rfl))
          have q11 := h11 (ready_dep hr (by kernel_rfl))
          subst q8
          subst q11
          refine wpOp_step rfl (fun K hK => ?_)
          go_simp
          refine (rcont_q html su pl le A le.length c wd A1 n1 c1 A2 n2 c2 w' (HE9.out.keep (Keeps.of_below hB)) hl HZs.out.1 HZs.out.2.1 HZs.out.2.2.1 HZs.out.2.2.2).mono ?_
          rintro e w'' ⟨_, _, _, _, _, _, rfl, hv, hb⟩
          replace hv := hv.keep (KeepsIn.refl _ _) (Q := AnyB) (fun _ _ _ => trivial)
          exact hK _ _ ⟨_, _, _, _, _, _, _, _, _, _, _, _, _, _, _, _, _, _, _, _, _, _, _, _, rfl, hB.trans (hb.mono hB.size), fun h => h0 (getD_was (by decide) h), fun h => h1 (getD_was (by decide) h), fun h => h2 (getD_was (by decide) h), fun h => h3 (getD_was (by decide) h), fun h => h4 (getD_was (by decide) h), fun h => h5 (getD_was (by decide) h), fun h => h6 (getD_was (by decide) h), fun h => h7 (getD_was (by decide) h), fun _ => rfl, fun h => h9 (getD_was (by decide) h), fun h => (h10 (getD_was (by decide) h)).below hb, fun _ => rfl, fun _ => ⟨_, _, rfl, hv⟩, fun h => h13 (getD_was (by decide) h), fun h => h14 (getD_was (by decide) h), fun h => h15 (getD_was (by decide) h), fun h => h16 (getD_was (by decide) h), fun h => h17 (getD_was (by decide) h), fun h => h18 (getD_was (by decide) h), fun h => h19 (getD_was (by decide) h), fun h => h20 (getD_was (by decide) h), fun h => h21 (getD_was (by decide) h), fun h => h22 (getD_was (by decide) h), fun h => h23 (getD_was (by decide) h)⟩
        · have q8 := h8 (ready_dep hr (by kernel_rfl))
          have q10 := h10 (ready_dep hr (by kernel_rfl))
          have q12 := h12 (ready_dep hr (by kernel_rfl))
          subst q8
          obtain ⟨iv10, kv10, rfl, hv10⟩ := q10
          obtain ⟨iv12, kv12, rfl, hv12⟩ := q12
          refine wpOp_step rfl (fun K hK => ?_)
          go_simp
          refine (sameRef_q _ _ _ _ _ w' (Nat.le_refl _) hv10 hv12).mono ?_
          rw [sameV_refl]
          rintro e w'' ⟨rfl, hb⟩
          exact hK _ _ ⟨_, _, _, _, _, _, _, _, _, _, _, _, _, _, _, _, _, _, _, _, _, _, _, _, rfl, hB.trans (hb.mono hB.size), fun h => h0 (getD_was (by decide) h), fun h => h1 (getD_was (by decide) h), fun h => h2 (getD_was (by decide) h), fun h => h3 (getD_was (by decide) h), fun h => h4 (getD_was (by decide) h), fun h => h5 (getD_was (by decide) h), fun h => h6 (getD_was (by decide) h), fun h => h7 (getD_was (by decide) h), fun _ => rfl, fun h => h9 (getD_was (by decide) h), fun _ => ⟨iv10, kv10, rfl, hv10.keeps (Keeps.of_below hb)⟩, fun h => h11 (getD_was (by decide) h), fun _ => ⟨iv12, kv12, rfl, hv12.keeps (Keeps.of_below hb)⟩, fun _ => rfl, fun h => h14 (getD_was (by decide) h), fun h => h15 (getD_was (by decide) h), fun h => h16 (getD_was (by decide) h), fun h => h17 (getD_was (by decide) h), fun h => h18 (getD_was (by decide) h), fun h => h19 (getD_was (by decide) h), fun h => h20 (getD_was (by decide) h), fun h => h21 (getD_was (by decide) h), fun h => h22 (getD_was (by decide) h), fun h => h23 (getD_was (by decide) h)⟩
        · have q8 := h8 (ready_dep hr (by kernel_rfl))
          have q13 := h13 (ready_dep hr (by kernel_rfl))
          subst q8
          subst q13
          refine wpOp_step rfl (fun K hK => ?_)
          go_simp
          exact hK _ _ ⟨_, _, _, _, _, _, _, _, _, _, _, _, _, _, _, _, _, _, _, _, _, _, _, _, rfl, hB, fun h => h0 (getD_was (by decide) h), fun h => h1 (getD_was (by decide) h), fun h => h2 (getD_was (by decide) h), fun h => h3 (getD_was (by decide) h), fun h => h4 (getD_was (by decide) h), fun h => h5 (getD_was (by decide) h), fun h => h6 (getD_was (by decide) h), fun h => h7 (getD_was (by decide) h), fun _ => rfl, fun h => h9 (getD_was (by decide) h), fun h => h10 (getD_was (by decide) h), fun h => h11 (getD_was (by decide) h), fun h => h12 (getD_was (by decide) h), fun _ => rfl, fun _ => rfl, fun h => h15 (getD_was (by decide) h), fun h => h16 (getD_was (by decide) h), fun h => h17 (getD_was (by decide) h), fun h => h18 (getD_was (by decide) h), fun h => h19 (getD_was (by decide) h), fun h => h20 (getD_was (by decide) h), fun h => h21 (getD_was (by decide) h), fun h => h22 (getD_was (by decide) h), fun h => h23 (getD_was (by decide) h)⟩
        · have q14 := h14 (ready_dep hr (by kernel_rfl))
          subst q14
          refine wpOp_step rfl (fun K hK => ?_)
          go_simp
          exact hK _ _ ⟨_, _, _, _, _, _, _, _, _, _, _, _, _, _, _, _, _, _, _, _, _, _, _, _, rfl, hB, fun h => h0 (getD_was (by decide) h), fun h => h1 (getD_was (by decide) h), fun h => h2 (getD_was (by decide) h), fun h => h3 (getD_was (by decide) h), fun h => h4 (getD_was (by decide) h), fun h => h5 (getD_was (by decide) h), fun h => h6 (getD_was (by decide) h), fun h => h7 (getD_was (by decide) h), fun h => h8 (getD_was (by decide) h), fun h => h9 (getD_was (by decide) h), fun h => h10 (getD_was (by decide) h), fun h => h11 (getD_was (by decide) h), fun h => h12 (getD_was (by decide) h), fun h => h13 (getD_was (by decide) h), fun _ => rfl, fun _ => rfl, fun h => h16 (getD_was (by decide) h), fun h => h17 (getD_was (by decide) h), fun h => h18 (getD_was (by decide) h), fun h => h19 (getD_was (by decide) h), fun h => h20 (getD_was (by decide) h), fun h => h21 (getD_was (by decide) h), fun h => h22 (getD_was (by decide) h), fun h => h23 (getD_was (by decide) h)⟩
        · have q15 := h15 (ready_dep hr (by kernel_rfl))
          subst q15
          have z0 := (HA9.out.below hB).c 0
          have z1 := (HA9.out.below hB).c 1
          have z2 := (HA9.out.below hB).c 2
          have z3 := (HA9.out.below hB).c 3
          have z4 := (HA9.out.below hB).c 4
          have z5 := (HA9.out.below hB).c 5
          have zsh := (HA9.out.below hB).sh
          simp only [valC] at z0 z1 z2 z3 z4 z5 zsh
          refine wpOp_step rfl (fun K hK => ?_)
          go_simp
          exact hK _ _ ⟨_, _, _, _, _, _, _, _, _, _, _, _, _, _, _, _, _, _, _, _, _, _, _, _, rfl, hB, fun h => h0 (getD_was (by decide) h), fun h => h1 (getD_was (by decide) h), fun h => h2 (getD_was (by decide) h), fun h => h3 (getD_was (by decide) h), fun h => h4 (getD_was (by decide) h), fun h => h5 (getD_was (by decide) h), fun h => h6 (getD_was (by decide) h), fun h => h7 (getD_was (by decide) h), fun h => h8 (getD_was (by decide) h), fun h => h9 (getD_was (by decide) h), fun h => h10 (getD_was (by decide) h), fun h => h11 (getD_was (by decide) h), fun h => h12 (getD_was (by decide) h), fun h => h13 (getD_was (by decide) h), fun h => h14 (getD_was (by decide) h), fun _ => rfl, fun _ => rfl, fun h => h17 (getD_was (by decide) h), fun h => h18 (getD_was (by decide) h), fun h => h19 (getD_was (by decide) h), fun h => h20 (getD_was (by decide) h), fun h => h21 (getD_was (by decide) h), fun h => h22 (getD_was (by decide) h), fun h => h23 (getD_was (by decide) h)⟩
        · have q15 := h15 (ready_dep hr (by kernel_rfl))
          subst q15
          have z0 := (HD9.out.below hB).c 0
          have z1 := (HD9.out.below hB).c 1
          have z2 := (HD9.out.below hB).c 2
          have z3 := (HD9.out.below hB).c 3
          have z4 := (HD9.out.below hB).c 4
          have z5 := (HD9.out.below hB).c 5
          have zsh := (HD9.out.below hB).sh
          simp only [valC] at z0 z1 z2 z3 z4 z5 zsh
          refine wpOp_step rfl (fun K hK => ?_)
          go_simp
          exact hK _ _ ⟨_, _, _, _, _, _, _, _, _, _, _, _, _, _, _, _, _, _, _, _, _, _, _, _, rfl, hB, fun h => h0 (getD_was (by decide) h), fun h => h1 (getD_was (by decide) h), fun h => h2 (getD_was (by decide) h), fun h => h3 (getD_was (by decide) h), fun h => h4 (getD_was (by decide) h), fun h => h5 (getD_was (by decide) h), fun h => h6 (getD_was (by decide) h), fun h => h7 (getD_was (by decide) h), fun h => h8 (getD_was (by decide) h), fun h => h9 (getD_was (by decide) h), fun h => h10 (getD_was (by decide) h), fun h => h11 (getD_was (by decide) h), fun h => h12 (getD_was (by decide) h), fun h => h13 (getD_was (by decide) h), fun h => h14 (getD_was (by decide) h), fun _ => rfl, fun h => h16 (getD_was (by decide) h), fun _ => rfl, fun h => h18 (getD_was (by decide) h), fun h => h19 (getD_was (by decide) h), fun h => h20 (getD_was (by decide) h), fun h => h21 (getD_was (by decide) h), fun h => h22 (getD_was (by decide) h), fun h => h23 (getD_was (by decide) h)⟩
        · have q15 := h15 (ready_dep hr (by kernel_rfl))
          have q16 := h16 (ready_dep hr (by kernel_rfl))
          have q17 := h17 (ready_dep hr (by kernel_rfl))
          subst q15
          subst q16
          subst q17
          refine wpOp_step rfl (fun K hK => ?_)
          go_simp
          refine (sameBuild_q _ _ _ _ _ w' (Nat.le_refl _) (HVa9.out.keeps (Keeps.of_below hB)) (HVb9.out.keeps (Keeps.of_below hB))).mono ?_
          rintro e w'' ⟨rfl, hb⟩
          exact hK _ _ ⟨_, _, _, _, _, _, _, _, _, _, _, _, _, _, _, _, _, _, _, _, _, _, _, _, rfl, hB.trans (hb.mono hB.size), fun h => h0 (getD_was (by decide) h), fun h => h1 (getD_was (by decide) h), fun h => h2 (getD_was (by decide) h), fun h => h3 (getD_was (by decide) h), fun h => h4 (getD_was (by decide) h), fun h => h5 (getD_was (by decide) h), fun h => h6 (getD_was (by decide) h), fun h => h7 (getD_was (by decide) h), fun h => h8 (getD_was (by decide) h), fun h => h9 (getD_was (by decide) h), fun h => (h10 (getD_was (by decide) h)).below hb, fun h => h11 (getD_was (by decide) h), fun h => (h12 (getD_was (by decide) h)).below hb, fun h => h13 (getD_was (by decide) h), fun h => h14 (getD_was (by decide) h), fun _ => rfl, fun _ => rfl, fun _ => rfl, fun _ => rfl, fun h => h19 (getD_was (by decide) h), fun h => h20 (getD_was (by decide) h), fun h => h21 (getD_was (by decide) h), fun h => h22 (getD_was (by decide) h), fun h => h23 (getD_was (by decide) h)⟩
        · have q15 := h15 (ready_dep hr (by kernel_rfl))
          subst q15
          have z0 := (HA9.out.below hB).c 0
          have z1 := (HA9.out.below hB).c 1
          have z2 := (HA9.out.below hB).c 2
          have z3 := (HA9.out.below hB).c 3
          have z4 := (HA9.out.below hB).c 4
          have z5 := (HA9.out.below hB).c 5
          have zsh := (HA9.out.below hB).sh
          simp only [valC] at z0 z1 z2 z3 z4 z5 zsh
          refine wpOp_step rfl (fun K hK => ?_)
          go_simp
          exact hK _ _ ⟨_, _, _, _, _, _, _, _, _, _, _, _, _, _, _, _, _, _, _, _, _, _, _, _, rfl, hB, fun h => h0 (getD_was (by decide) h), fun h => h1 (getD_was (by decide) h), fun h => h2 (getD_was (by decide) h), fun h => h3 (getD_was (by decide) h), fun h => h4 (getD_was (by decide) h), fun h => h5 (getD_was (by decide) h), fun h => h6 (getD_was (by decide) h), fun h => h7 (getD_was (by decide) h), fun h => h8 (getD_was (by decide) h), fun h => h9 (getD_was (by decide) h), fun h => h10 (getD_was (by decide) h), fun h => h11 (getD_was (by decide) h), fun h => h12 (getD_was (by decide) h), fun h => h13 (getD_was (by decide) h), fun h => h14 (getD_was (by decide) h), fun _ => rfl, fun h => h16 (getD_was (by decide) h), fun h => h17 (getD_was (by decide) h), fun h => h18 (getD_was (by decide) h), fun _ => rfl, fun h => h20 (getD_was (by decide) h), fun h => h21 (getD_was (by decide) h), fun h => h22 (getD_was (by decide) h), fun h => h23 (getD_was (by decide) h)⟩
        · have q15 := h15 (ready_dep hr (by kernel_rfl))
          subst q15
          have z0 := (HD9.out.below hB).c 0
          have z1 := (HD9.out.below hB).c 1
          have z2 := (HD9.out.below hB).c 2
          have z3 := (HD9.out.below hB).c 3
          have z4 := (HD9.out.below hB).c 4
          have z5 := (HD9.out.below hB).c 5
          have zsh := (HD9.out.below hB).sh
          simp only [valC] at z0 z1 z2 z3 z4 z5 zsh
          refine wpOp_step rfl (fun K hK => ?_)
          go_simp
          exact hK _ _ ⟨_, _, _, _, _, _, _, _, _, _, _, _, _, _, _, _, _, _, _, _, _, _, _, _, rfl, hB, fun h => h0 (getD_was (by decide) h), fun h => h1 (getD_was (by decide) h), fun h => h2 (getD_was (by decide) h), fun h => h3 (getD_was (by decide) h), fun h => h4 (getD_was (by decide) h), fun h => h5 (getD_was (by decide) h), fun h => h6 (getD_was (by decide) h), fun h => h7 (getD_was (by decide) h), fun h => h8 (getD_was (by decide) h), fun h => h9 (getD_was (by decide) h), fun h => h10 (getD_was (by decide) h), fun h => h11 (getD_was (by decide) h), fun h => h12 (getD_was (by decide) h), fun h => h13 (getD_was (by decide) h), fun h => h14 (getD_was (by decide) h), fun _ => rfl, fun h => h16 (getD_was (by decide) h), fun h => h17 (getD_was (by decide) h), fun h => h18 (getD_was (by decide) h), fun h => h19 (getD_was (by decide) h), fun _ => rfl, fun h => h21 (getD_was (by decide) h), fun h => h22 (getD_was (by decide) h), fun h => h23 (getD_was (by decide) h)⟩
        · have q15 := h15 (ready_dep hr (by kernel_rfl))
          have q19 := h19 (ready_dep hr (by kernel_rfl))
          have q20 := h20 (ready_dep hr (by kernel_rfl))
          subst q15
          subst q19
          subst q20
          refine wpOp_step rfl (fun K hK => ?_)
          go_simp
          refine (sameRef_q _ _ _ _ _ w' (Nat.le_refl _) (HVa9.out.keeps (Keeps.of_below hB)) (HVb9.out.keeps (Keeps.of_below hB))).mono ?_
          rintro e w'' ⟨rfl, hb⟩
          exact hK _ _ ⟨_, _, _, _, _, _, _, _, _, _, _, _, _, _, _, _, _, _, _, _, _, _, _, _, rfl, hB.trans (hb.mono hB.size), fun h => h0 (getD_was (by decide) h), fun h => h1 (getD_was (by decide) h), fun h => h2 (getD_was (by decide) h), fun h => h3 (getD_was (by decide) h), fun h => h4 (getD_was (by decide) h), fun h => h5 (getD_was (by decide) h), fun h => h6 (getD_was (by decide) h), fun h => h7 (getD_was (by decide) h), fun h => h8 (getD_was (by decide) h), fun h => h9 (getD_was (by decide) h), fun h => (h10 (getD_was (by decide) h)).below hb, fun h => h11 (getD_was (by decide) h), fun h => (h12 (getD_was (by decide) h)).below hb, fun h => h13 (getD_was (by decide) h), fun h => h14 (getD_was (by decide) h), fun _ => rfl, fun h => h16 (getD_was (by decide) h), fun h => h17 (getD_was (by decide) h), fun h => h18 (getD_was (by decide) h), fun _ => rfl, fun _ => rfl, fun _ => rfl, fun h => h22 (getD_was (by decide) h), fun h => h23 (getD_was (by decide) h)⟩
        · have q15 := h15 (ready_dep hr (by kernel_rfl))
          have q18 := h18 (ready_dep hr (by kernel_rfl))
          have q21 := h21 (ready_dep hr (by kernel_rfl))
          subst q15
          subst q18
          subst q21
          refine wpOp_step rfl (fun K hK => ?_)
          go_simp
          exact hK _ _ ⟨_, _, _, _, _, _, _, _, _, _, _, _, _, _, _, _, _, _, _, _, _, _, _, _, rfl, hB, fun h => h0 (getD_was (by decide) h), fun h => h1 (getD_was (by decide) h), fun h => h2 (getD_was (by decide) h), fun h => h3 (getD_was (by decide) h), fun h => h4 (getD_was (by decide) h), fun h => h5 (getD_was (by decide) h), fun h => h6 (getD_was (by decide) h), fun h => h7 (getD_was (by decide) h), fun h => h8 (getD_was (by decide) h), fun h => h9 (getD_was (by decide) h), fun h => h10 (getD_was (by decide) h), fun h => h11 (getD_was (by decide) h), fun h => h12 (getD_was (by decide) h), fun h => h13 (getD_was (by decide) h), fun h => h14 (getD_was (by decide) h), fun _ => rfl, fun h => h16 (getD_was (by decide) h), fun h => h17 (getD_was (by decide) h), fun _ => rfl, fun h => h19 (getD_was (by decide) h), fun h => h20 (getD_was (by decide) h), fun _ => rfl, fun _ => rfl, fun h => h23 (getD_was (by decide) h)⟩
        · have q15 := h15 (ready_dep hr (by kernel_rfl))
          have q22 := h22 (ready_dep hr (by kernel_rfl))
          subst q15
          subst q22
          refine wpOp_step rfl (fun K hK => ?_)
          go_simp
          exact hK _ _ ⟨_, _, _, _, _, _, _, _, _, _, _, _, _, _, _, _, _, _, _, _, _, _, _, _, rfl, hB, fun h => h0 (getD_was (by decide) h), fun h => h1 (getD_was (by decide) h), fun h => h2 (getD_was (by decide) h), fun h => h3 (getD_was (by decide) h), fun h => h4 (getD_was (by decide) h), fun h => h5 (getD_was (by decide) h), fun h => h6 (getD_was (by decide) h), fun h => h7 (getD_was (by decide) h), fun h => h8 (getD_was (by decide) h), fun h => h9 (getD_was (by decide) h), fun h => h10 (getD_was (by decide) h), fun h => h11 (getD_was (by decide) h), fun h => h12 (getD_was (by decide) h), fun h => h13 (getD_was (by decide) h), fun h => h14 (getD_was (by decide) h), fun _ => rfl, fun h => h16 (getD_was (by decide) h), fun h => h17 (getD_was (by decide) h), fun h => h18 (getD_was (by decide) h), fun h => h19 (getD_was (by decide) h), fun h => h20 (getD_was (by decide) h), fun h => h21 (getD_was (by decide) h), fun _ => rfl, fun _ => rfl⟩
      case last =>
        intro a' w' hI
        obtain ⟨x0, x1, x2, x3, x4, x5, x6, x7, x8, x9, x10, x11, x12, x13, x14, x15, x16, x17, x18, x19, x20, x21, x22, x23, rfl, hB, h0, h1, h2, h3, h4, h5, h6, h7, h8, h9, h10, h11, h12, h13, h14, h15, h16, h17, h18, h19, h20, h21, h22, h23⟩ := hI
        have q23 := h23 rfl
        clear h0 h1 h2 h3 h4 h5 h6 h7 h8 h9 h10 h11 h12 h13 h14 h15 h16 h17 h18 h19 h20 h21 h22 h23
        subst q23
        refine wpAny_of_seqA 1 24 rfl (by kernel_rfl) ?_
        simp only [List.drop_succ_cons, List.drop_zero]
        go_wp2_with fail
        go_ret
        exact ⟨rfl, HB9.out.trans (hB.mono HB9.out.size)⟩

end Go.Proofs.YtnoiipngingdoaaDoor
