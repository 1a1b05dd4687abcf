/-
  Inlines that can be printed: mark.inlineFits, inlinesFit, lineFits.
-/
import Derived.Test.YtlganccpgchmeaaDoorFitTgt
import Derived.Deep.Cut
namespace Go.Proofs.YtlganccpgchmeaaDoor
open Go.RowKit Go.Deep

/-- the boxes of inlineFits, kept -/
structure Fit4 (nn nw na nb : Nat) (cn cw ca cb : Array Value) (w0 w : World) : Prop where
  n : CB w nn 31 cn
  wi : CB w nw 86 cw
  a : CB w na 31 ca
  b : CB w nb 31 cb
  bel : Below w0.heap.size w0 w
theorem Fit4.below {nn nw na nb : Nat} {cn cw ca cb : Array Value} {w0 w w' : World} (h : Fit4 nn nw na nb cn cw ca cb w0 w) (hb : Below w.heap.size w w') : Fit4 nn nw na nb cn cw ca cb w0 w' := ⟨h.n.below hb, h.wi.below hb, h.a.below hb, h.b.below hb, h.bel.trans (hb.mono h.bel.size)⟩
/-- the boxes of lineFits, kept -/
structure Firsts (na nb : Nat) (ca cb : Array Value) (w0 w : World) : Prop where
  a : CB w na 31 ca
  b : CB w nb 31 cb
  bel : Below w0.heap.size w0 w
theorem Firsts.below {na nb : Nat} {ca cb : Array Value} {w0 w w' : World} (h : Firsts na nb ca cb w0 w) (hb : Below w.heap.size w w') : Firsts na nb ca cb w0 w' := ⟨h.a.below hb, h.b.below hb, h.bel.trans (hb.mono h.bel.size)⟩
theorem Firsts.ab (w : World) (ca cb : Array Value) : Firsts w.heap.size (w.heap.size + 1) ca cb w ((w.alloc (.cells ca 31)).alloc (.cells cb 31)).drew :=
  ⟨((CB.new w ca 31).alloc _).drew, by have := CB.new (w.alloc (.cells ca 31)) cb 31; rw [World.size_alloc] at this; exact this.drew, (((Below.refl _ _).alloc (Nat.le_refl _) _).alloc (by simp) _).drew⟩
theorem Firsts.ba (w : World) (ca cb : Array Value) : Firsts (w.heap.size + 1) w.heap.size ca cb w ((w.alloc (.cells cb 31)).alloc (.cells ca 31)).drew :=
  ⟨by have := CB.new (w.alloc (.cells cb 31)) ca 31; rw [World.size_alloc] at this; exact this.drew, ((CB.new w cb 31).alloc _).drew, (((Below.refl _ _).alloc (Nat.le_refl _) _).alloc (by simp) _).drew⟩

theorem edge_ends {ks : List Node} {q : Nat} {a b : Node} (hq : ks.length = q + 1) (ha : ks[0]? = some a) (hb : ks[q]? = some b) (p : Int) : edgeB p ks = !(brk a.kind || brk b.kind || (star p && (star a.kind || star b.kind))) := by
  have h1 : ks.head? = some a := by rw [← ha]; cases ks <;> rfl
  have h2 : ks.getLast? = some b := by rw [List.getLast?_eq_getElem?, hq]; exact hb
  unfold edgeB
  rw [h1, h2]
theorem ends_ends {ks : List Node} {q : Nat} {a b : Node} (hq : ks.length = q + 1) (ha : ks[0]? = some a) (hb : ks[q]? = some b) : endsB ks = !((a.kind == 11 && hdB (txt a)) || (b.kind == 11 && ltB (txt b))) := by
  have h1 : ks.head? = some a := by rw [← ha]; cases ks <;> rfl
  have h2 : ks.getLast? = some b := by rw [List.getLast?_eq_getElem?, hq]; exact hb
  unfold endsB
  rw [h1, h2]
theorem link_any (d t : ByteArray) : Lib.containsAny (d ++ t).data.toList (⟨#[91, 93, 96]⟩ : ByteArray).data.toList = linkC d t := by
  rw [containsAny_any]
  unfold linkC
  rw [show (d ++ t).data.toList = d.data.toList ++ t.data.toList by simp]
  congr 1
  funext c
  simp only [List.contains, List.elem]
  cases c == 91 <;> cases c == 93 <;> cases c == 96 <;> rfl
theorem has_idx (s : ByteArray) (c : UInt8) : decide (Lib.indexByte s.data.toList c < 0) = !s.data.toList.contains c := by
  rw [Lib.contains_iff_indexByte]
  by_cases h : 0 ≤ Lib.indexByte s.data.toList c
  · simp [h]
  · simp [h]; omega
def InlRes (b : Bool) (w : World) (e : Ending) (w' : World) : Prop := e = .returned (.bool b) ∧ Below w.heap.size w w'
theorem InlRes.mk {a b : Bool} {w w' : World} (h : a = b) (hb : Below w.heap.size w w') : InlRes b w (.returned (.bool a)) w' := ⟨by rw [h], hb⟩

set_option maxRecDepth 100000 in
set_option maxHeartbeats 16000000 in
theorem inlineFits_str (lv : Int) (x d t : ByteArray) (ks : List Node) (A : Option Addr) (c : Nat) (em st li : Bool) (kd : Int) (w : World) (hsz : x.size ≤ 1073741824 ∧ d.size + t.size ≤ 1073741824) :
    Calls Tryd.prog 105 #[.agg #[.int .i64 11, .int .i64 lv, .string x, .string d, .string t, .slice A ks.length c], .agg #[.bool em, .bool st, .bool li, .int .i64 kd]] w (InlRes (inlN (.mk 11 lv x d t ks) em st li kd) w) := by
  have HT := Lib.hid (show TwoW (w.heap.size + 1) w.heap.size #[.bool em, .bool st, .bool li, .int .i64 kd] #[.int .i64 11, .int .i64 lv, .string x, .string d, .string t, .slice A ks.length c] w ((w.alloc (.cells #[.int .i64 11, .int .i64 lv, .string x, .string d, .string t, .slice A ks.length c] 31)).alloc (.cells #[.bool em, .bool st, .bool li, .int .i64 kd] 86)) from
    ⟨by have := CB.new (w.alloc (.cells #[.int .i64 11, .int .i64 lv, .string x, .string d, .string t, .slice A ks.length c] 31)) #[.bool em, .bool st, .bool li, .int .i64 kd] 86; rwa [World.size_alloc] at this, (CB.new w #[.int .i64 11, .int .i64 lv, .string x, .string d, .string t, .slice A ks.length c] 31).alloc _, ((Below.refl _ _).alloc (Nat.le_refl _) _).alloc (by simp) _⟩)
  obtain ⟨hx, hdt⟩ := hsz
  by_cases h0 : 0 < x.size
  · obtain ⟨f1, f2, f3, f4⟩ := nonempty_forms h0
    have HV := Lib.hid (show inlN (.mk 11 lv x d t ks) em st li kd = true by
      show (!x.data.toList.isEmpty) = true
      rw [← Go.ByteArray.toList_eq, f3]; rfl)
    go_enter Tryd.func105, Tryd.ntmps105
    go_wp2_with fail
    go_ret
    exact InlRes.mk HV.out.symm HT.out.bel
  · obtain rfl := empty_lit h0
    go_enter Tryd.func105, Tryd.ntmps105
    go_wp2_with fail
    go_ret
    exact InlRes.mk rfl HT.out.bel

set_option maxRecDepth 100000 in
set_option maxHeartbeats 16000000 in
theorem inlineFits_code (lv : Int) (x d t : ByteArray) (ks : List Node) (A : Option Addr) (c : Nat) (em st li : Bool) (kd : Int) (w : World) (hsz : x.size ≤ 1073741824 ∧ d.size + t.size ≤ 1073741824) :
    Calls Tryd.prog 105 #[.agg #[.int .i64 16, .int .i64 lv, .string x, .string d, .string t, .slice A ks.length c], .agg #[.bool em, .bool st, .bool li, .int .i64 kd]] w (InlRes (inlN (.mk 16 lv x d t ks) em st li kd) w) := by
  have HT := Lib.hid (show TwoW (w.heap.size + 1) w.heap.size #[.bool em, .bool st, .bool li, .int .i64 kd] #[.int .i64 16, .int .i64 lv, .string x, .string d, .string t, .slice A ks.length c] w ((w.alloc (.cells #[.int .i64 16, .int .i64 lv, .string x, .string d, .string t, .slice A ks.length c] 31)).alloc (.cells #[.bool em, .bool st, .bool li, .int .i64 kd] 86)) from
    ⟨by have := CB.new (w.alloc (.cells #[.int .i64 16, .int .i64 lv, .string x, .string d, .string t, .slice A ks.length c] 31)) #[.bool em, .bool st, .bool li, .int .i64 kd] 86; rwa [World.size_alloc] at this, (CB.new w #[.int .i64 16, .int .i64 lv, .string x, .string d, .string t, .slice A ks.length c] 31).alloc _, ((Below.refl _ _).alloc (Nat.le_refl _) _).alloc (by simp) _⟩)
  obtain ⟨hx, hdt⟩ := hsz
  have HV := Lib.hid (show inlN (.mk 16 lv x d t ks) em st li kd = (!x.data.toList.isEmpty && !x.data.toList.contains 96 && !barB kd x) from rfl)
  by_cases h0 : 0 < x.size
  · obtain ⟨f1, f2, f3, f4⟩ := nonempty_forms h0
    have HE := Lib.hid (show x.data.toList.isEmpty = false by rw [← Go.ByteArray.toList_eq]; exact f3)
    have HI := Lib.hid (fun W => Tryd.strings_IndexByte x 96 W)
    obtain ⟨ix, hix⟩ : ∃ ix, Lib.indexByte x.data.toList 96 = ix := ⟨_, rfl⟩
    have hxb := has_idx x 96
    rw [hix] at hxb
    have HIx := Lib.hid (show Lib.indexByte x.data.toList ((96 : Int).toNat.toUInt8) = ix from hix)
    obtain ⟨vb, hvb⟩ : ∃ vb, (!barB kd x) = vb := ⟨_, rfl⟩
    have HVb := Lib.hid hvb
    cases hc : x.data.toList.contains 96 with
    | true =>
      have hdi : decide (ix < 0) = false := by rw [hxb, hc]; rfl
      have HV2 := Lib.hid (show inlN (.mk 16 lv x d t ks) em st li kd = false by rw [HV.out, hc]; simp)
      clear hxb hix hvb hc
      go_enter Tryd.func105, Tryd.ntmps105
      go_wp2_with (go_at_call 101; go_must (refine (HI.out _).mono ?_); rw [HIx.out]; rintro e w3 ⟨rfl, hw3⟩; obtain rfl := hw3.symm)
      go_ret
      exact InlRes.mk HV2.out.symm HT.out.bel
    | false =>
      have hdi : decide (ix < 0) = true := by rw [hxb, hc]; rfl
      have HV2 := Lib.hid (show inlN (.mk 16 lv x d t ks) em st li kd = vb by rw [HV.out, hc, HE.out, hvb]; simp)
      clear hxb hix hvb hc
      have p0 := HT.out.b.c 0
      have p1 := HT.out.b.c 1
      have p2 := HT.out.b.c 2
      have p3 := HT.out.b.c 3
      have p4 := HT.out.b.c 4
      have p5 := HT.out.b.c 5
      have q0 := HT.out.a.c 0
      have q1 := HT.out.a.c 1
      have q2 := HT.out.a.c 2
      have q3 := HT.out.a.c 3
      simp only [List.getElem?_toArray, List.getElem?_cons_zero, List.getElem?_cons_succ] at p0 p1 p2 p3 p4 p5 q0 q1 q2 q3
      go_enter Tryd.func105, Tryd.ntmps105
      go_wp2_with (first
        | (go_at_call 101; go_must (refine (HI.out _).mono ?_); rw [HIx.out]; rintro e w3 ⟨rfl, hw3⟩; obtain rfl := hw3.symm)
        | (go_at_call 124; go_must (refine (barless_q em st li kd x vb _ HVb.out).mono ?_); rintro e w3 ⟨rfl, hb⟩; have HT := Lib.hid (HT.out.below hb); clear hb))
      go_ret
      exact InlRes.mk HV2.out.symm HT.out.bel
  · obtain rfl := empty_lit h0
    have HV2 := Lib.hid (show inlN (.mk 16 lv ⟨#[]⟩ d t ks) em st li kd = false from rfl)
    clear h0
    go_enter Tryd.func105, Tryd.ntmps105
    go_wp2_with fail
    go_ret
    exact InlRes.mk HV2.out.symm HT.out.bel

set_option maxRecDepth 100000 in
set_option maxHeartbeats 16000000 in
theorem inlineFits_soft (lv : Int) (x d t : ByteArray) (ks : List Node) (A : Option Addr) (c : Nat) (em st li : Bool) (kd : Int) (w : World) (hsz : x.size ≤ 1073741824 ∧ d.size + t.size ≤ 1073741824) :
    Calls Tryd.prog 105 #[.agg #[.int .i64 12, .int .i64 lv, .string x, .string d, .string t, .slice A ks.length c], .agg #[.bool em, .bool st, .bool li, .int .i64 kd]] w (InlRes (inlN (.mk 12 lv x d t ks) em st li kd) w) := by
  have HT := Lib.hid (show TwoW (w.heap.size + 1) w.heap.size #[.bool em, .bool st, .bool li, .int .i64 kd] #[.int .i64 12, .int .i64 lv, .string x, .string d, .string t, .slice A ks.length c] w ((w.alloc (.cells #[.int .i64 12, .int .i64 lv, .string x, .string d, .string t, .slice A ks.length c] 31)).alloc (.cells #[.bool em, .bool st, .bool li, .int .i64 kd] 86)) from
    ⟨by have := CB.new (w.alloc (.cells #[.int .i64 12, .int .i64 lv, .string x, .string d, .string t, .slice A ks.length c] 31)) #[.bool em, .bool st, .bool li, .int .i64 kd] 86; rwa [World.size_alloc] at this, (CB.new w #[.int .i64 12, .int .i64 lv, .string x, .string d, .string t, .slice A ks.length c] 31).alloc _, ((Below.refl _ _).alloc (Nat.le_refl _) _).alloc (by simp) _⟩)
  obtain ⟨hx, hdt⟩ := hsz
  have HV := Lib.hid (show inlN (.mk 12 lv x d t ks) em st li kd = (kd == 2) from rfl)
  obtain ⟨vb, hvb⟩ : ∃ vb, (kd == 2) = vb := ⟨_, rfl⟩
  have HVb := Lib.hid hvb
  go_enter Tryd.func105, Tryd.ntmps105
  go_wp2_with fail
  go_ret
  exact InlRes.mk (HV.out.trans HVb.out).symm HT.out.bel

set_option maxRecDepth 100000 in
set_option maxHeartbeats 16000000 in
theorem inlineFits_hard (lv : Int) (x d t : ByteArray) (ks : List Node) (A : Option Addr) (c : Nat) (em st li : Bool) (kd : Int) (w : World) (hsz : x.size ≤ 1073741824 ∧ d.size + t.size ≤ 1073741824) :
    Calls Tryd.prog 105 #[.agg #[.int .i64 13, .int .i64 lv, .string x, .string d, .string t, .slice A ks.length c], .agg #[.bool em, .bool st, .bool li, .int .i64 kd]] w (InlRes (inlN (.mk 13 lv x d t ks) em st li kd) w) := by
  have HT := Lib.hid (show TwoW (w.heap.size + 1) w.heap.size #[.bool em, .bool st, .bool li, .int .i64 kd] #[.int .i64 13, .int .i64 lv, .string x, .string d, .string t, .slice A ks.length c] w ((w.alloc (.cells #[.int .i64 13, .int .i64 lv, .string x, .string d, .string t, .slice A ks.length c] 31)).alloc (.cells #[.bool em, .bool st, .bool li, .int .i64 kd] 86)) from
    ⟨by have := CB.new (w.alloc (.cells #[.int .i64 13, .int .i64 lv, .string x, .string d, .string t, .slice A ks.length c] 31)) #[.bool em, .bool st, .bool li, .int .i64 kd] 86; rwa [World.size_alloc] at this, (CB.new w #[.int .i64 13, .int .i64 lv, .string x, .string d, .string t, .slice A ks.length c] 31).alloc _, ((Below.refl _ _).alloc (Nat.le_refl _) _).alloc (by simp) _⟩)
  obtain ⟨hx, hdt⟩ := hsz
  have HV := Lib.hid (show inlN (.mk 13 lv x d t ks) em st li kd = (kd == 2) from rfl)
  obtain ⟨vb, hvb⟩ : ∃ vb, (kd == 2) = vb := ⟨_, rfl⟩
  have HVb := Lib.hid hvb
  go_enter Tryd.func105, Tryd.ntmps105
  go_wp2_with fail
  go_ret
  exact InlRes.mk (HV.out.trans HVb.out).symm HT.out.bel

set_option maxRecDepth 100000 in
set_option maxHeartbeats 16000000 in
theorem inlineFits_image (lv : Int) (x d t : ByteArray) (ks : List Node) (A : Option Addr) (c : Nat) (em st li : Bool) (kd : Int) (w : World) (hsz : x.size ≤ 1073741824 ∧ d.size + t.size ≤ 1073741824) :
    Calls Tryd.prog 105 #[.agg #[.int .i64 18, .int .i64 lv, .string x, .string d, .string t, .slice A ks.length c], .agg #[.bool em, .bool st, .bool li, .int .i64 kd]] w (InlRes (inlN (.mk 18 lv x d t ks) em st li kd) w) := by
  have HT := Lib.hid (show TwoW (w.heap.size + 1) w.heap.size #[.bool em, .bool st, .bool li, .int .i64 kd] #[.int .i64 18, .int .i64 lv, .string x, .string d, .string t, .slice A ks.length c] w ((w.alloc (.cells #[.int .i64 18, .int .i64 lv, .string x, .string d, .string t, .slice A ks.length c] 31)).alloc (.cells #[.bool em, .bool st, .bool li, .int .i64 kd] 86)) from
    ⟨by have := CB.new (w.alloc (.cells #[.int .i64 18, .int .i64 lv, .string x, .string d, .string t, .slice A ks.length c] 31)) #[.bool em, .bool st, .bool li, .int .i64 kd] 86; rwa [World.size_alloc] at this, (CB.new w #[.int .i64 18, .int .i64 lv, .string x, .string d, .string t, .slice A ks.length c] 31).alloc _, ((Below.refl _ _).alloc (Nat.le_refl _) _).alloc (by simp) _⟩)
  obtain ⟨hx, hdt⟩ := hsz
  have HV := Lib.hid (show inlN (.mk 18 lv x d t ks) em st li kd = (!(li && linkC d t) && tgtB d t kd && !barB kd x) from rfl)
  have HC := Lib.hid (fun W => containsAny_q ⟨#[91, 93, 96]⟩ rfl (by decide) (d ++ t) (by rw [ByteArray.size_append]; omega) W)
  have hfit : ¬ 9223372036854775807 < d.size + t.size := by omega
  obtain ⟨va, hva⟩ : ∃ va, tgtB d t kd = va := ⟨_, rfl⟩
  obtain ⟨vb, hvb⟩ : ∃ vb, (!barB kd x) = vb := ⟨_, rfl⟩
  obtain ⟨vc, hvc⟩ : ∃ vc, linkC d t = vc := ⟨_, rfl⟩
  have HVa := Lib.hid hva
  have HVb := Lib.hid hvb
  have HVc := Lib.hid ((link_any d t).trans hvc)
  have HV2 := Lib.hid (show inlN (.mk 18 lv x d t ks) em st li kd = (!(li && vc) && va && vb) by rw [HV.out, hva, hvb, hvc])
  clear hva hvb hvc
  cases li with
  | true =>
    cases vc with
    | true =>
      have p0 := HT.out.b.c 0
      have p1 := HT.out.b.c 1
      have p2 := HT.out.b.c 2
      have p3 := HT.out.b.c 3
      have p4 := HT.out.b.c 4
      have p5 := HT.out.b.c 5
      have q0 := HT.out.a.c 0
      have q1 := HT.out.a.c 1
      have q2 := HT.out.a.c 2
      have q3 := HT.out.a.c 3
      simp only [List.getElem?_toArray, List.getElem?_cons_zero, List.getElem?_cons_succ] at p0 p1 p2 p3 p4 p5 q0 q1 q2 q3
      go_enter Tryd.func105, Tryd.ntmps105
      go_wp2_with (go_at_call 107; go_must (refine (HC.out _).mono ?_); rw [HVc.out]; rintro e w3 ⟨rfl, hb⟩; have HT := Lib.hid (HT.out.below hb); clear hb)
      go_ret
      exact InlRes.mk HV2.out.symm HT.out.bel
    | false =>
      cases va with
      | true =>
        have p0 := HT.out.b.c 0
        have p1 := HT.out.b.c 1
        have p2 := HT.out.b.c 2
        have p3 := HT.out.b.c 3
        have p4 := HT.out.b.c 4
        have p5 := HT.out.b.c 5
        have q0 := HT.out.a.c 0
        have q1 := HT.out.a.c 1
        have q2 := HT.out.a.c 2
        have q3 := HT.out.a.c 3
        simp only [List.getElem?_toArray, List.getElem?_cons_zero, List.getElem?_cons_succ] at p0 p1 p2 p3 p4 p5 q0 q1 q2 q3
        go_enter Tryd.func105, Tryd.ntmps105
        go_wp2_with (first
          | (go_at_call 107; go_must (refine (HC.out _).mono ?_); rw [HVc.out]; rintro e w3 ⟨rfl, hb⟩; have HT := Lib.hid (HT.out.below hb); clear hb; have p0 := HT.out.b.c 0; have p1 := HT.out.b.c 1; have p2 := HT.out.b.c 2; have p3 := HT.out.b.c 3; have p4 := HT.out.b.c 4; have p5 := HT.out.b.c 5; have q0 := HT.out.a.c 0; have q1 := HT.out.a.c 1; have q2 := HT.out.a.c 2; have q3 := HT.out.a.c 3; simp only [List.getElem?_toArray, List.getElem?_cons_zero, List.getElem?_cons_succ] at p0 p1 p2 p3 p4 p5 q0 q1 q2 q3)
          | (go_at_call 125; go_must (refine (target_q em st true kd _ lv x d t A _ c true _ HVa.out (by omega) (by omega)).mono ?_); rintro e w3 ⟨rfl, hb⟩; have HT := Lib.hid (HT.out.below hb); clear hb; have p0 := HT.out.b.c 0; have p1 := HT.out.b.c 1; have p2 := HT.out.b.c 2; have p3 := HT.out.b.c 3; have p4 := HT.out.b.c 4; have p5 := HT.out.b.c 5; have q0 := HT.out.a.c 0; have q1 := HT.out.a.c 1; have q2 := HT.out.a.c 2; have q3 := HT.out.a.c 3; simp only [List.getElem?_toArray, List.getElem?_cons_zero, List.getElem?_cons_succ] at p0 p1 p2 p3 p4 p5 q0 q1 q2 q3)
          | (go_at_call 124; go_must (refine (barless_q em st true kd x vb _ HVb.out).mono ?_); rintro e w3 ⟨rfl, hb⟩; have HT := Lib.hid (HT.out.below hb); clear hb))
        go_ret
        exact InlRes.mk HV2.out.symm HT.out.bel
      | false =>
        have p0 := HT.out.b.c 0
        have p1 := HT.out.b.c 1
        have p2 := HT.out.b.c 2
        have p3 := HT.out.b.c 3
        have p4 := HT.out.b.c 4
        have p5 := HT.out.b.c 5
        have q0 := HT.out.a.c 0
        have q1 := HT.out.a.c 1
        have q2 := HT.out.a.c 2
        have q3 := HT.out.a.c 3
        simp only [List.getElem?_toArray, List.getElem?_cons_zero, List.getElem?_cons_succ] at p0 p1 p2 p3 p4 p5 q0 q1 q2 q3
        go_enter Tryd.func105, Tryd.ntmps105
        go_wp2_with (first
          | (go_at_call 107; go_must (refine (HC.out _).mono ?_); rw [HVc.out]; rintro e w3 ⟨rfl, hb⟩; have HT := Lib.hid (HT.out.below hb); clear hb; have p0 := HT.out.b.c 0; have p1 := HT.out.b.c 1; have p2 := HT.out.b.c 2; have p3 := HT.out.b.c 3; have p4 := HT.out.b.c 4; have p5 := HT.out.b.c 5; have q0 := HT.out.a.c 0; have q1 := HT.out.a.c 1; have q2 := HT.out.a.c 2; have q3 := HT.out.a.c 3; simp only [List.getElem?_toArray, List.getElem?_cons_zero, List.getElem?_cons_succ] at p0 p1 p2 p3 p4 p5 q0 q1 q2 q3)
          | (go_at_call 125; go_must (refine (target_q em st true kd _ lv x d t A _ c false _ HVa.out (by omega) (by omega)).mono ?_); rintro e w3 ⟨rfl, hb⟩; have HT := Lib.hid (HT.out.below hb); clear hb; have p0 := HT.out.b.c 0; have p1 := HT.out.b.c 1; have p2 := HT.out.b.c 2; have p3 := HT.out.b.c 3; have p4 := HT.out.b.c 4; have p5 := HT.out.b.c 5; have q0 := HT.out.a.c 0; have q1 := HT.out.a.c 1; have q2 := HT.out.a.c 2; have q3 := HT.out.a.c 3; simp only [List.getElem?_toArray, List.getElem?_cons_zero, List.getElem?_cons_succ] at p0 p1 p2 p3 p4 p5 q0 q1 q2 q3)
          | (go_at_call 124; go_must (refine (barless_q em st true kd x vb _ HVb.out).mono ?_); rintro e w3 ⟨rfl, hb⟩; have HT := Lib.hid (HT.out.below hb); clear hb))
        go_ret
        exact InlRes.mk HV2.out.symm HT.out.bel
  | false =>
    cases va with
    | true =>
      have p0 := HT.out.b.c 0
      have p1 := HT.out.b.c 1
      have p2 := HT.out.b.c 2
      have p3 := HT.out.b.c 3
      have p4 := HT.out.b.c 4
      have p5 := HT.out.b.c 5
      have q0 := HT.out.a.c 0
      have q1 := HT.out.a.c 1
      have q2 := HT.out.a.c 2
      have q3 := HT.out.a.c 3
      simp only [List.getElem?_toArray, List.getElem?_cons_zero, List.getElem?_cons_succ] at p0 p1 p2 p3 p4 p5 q0 q1 q2 q3
      go_enter Tryd.func105, Tryd.ntmps105
      go_wp2_with (first
        | (go_at_call 125; go_must (refine (target_q em st false kd _ lv x d t A _ c true _ HVa.out (by omega) (by omega)).mono ?_); rintro e w3 ⟨rfl, hb⟩; have HT := Lib.hid (HT.out.below hb); clear hb; have p0 := HT.out.b.c 0; have p1 := HT.out.b.c 1; have p2 := HT.out.b.c 2; have p3 := HT.out.b.c 3; have p4 := HT.out.b.c 4; have p5 := HT.out.b.c 5; have q0 := HT.out.a.c 0; have q1 := HT.out.a.c 1; have q2 := HT.out.a.c 2; have q3 := HT.out.a.c 3; simp only [List.getElem?_toArray, List.getElem?_cons_zero, List.getElem?_cons_succ] at p0 p1 p2 p3 p4 p5 q0 q1 q2 q3)
        | (go_at_call 124; go_must (refine (barless_q em st false kd x vb _ HVb.out).mono ?_); rintro e w3 ⟨rfl, hb⟩; have HT := Lib.hid (HT.out.below hb); clear hb))
      go_ret
      exact InlRes.mk HV2.out.symm HT.out.bel
    | false =>
      have p0 := HT.out.b.c 0
      have p1 := HT.out.b.c 1
      have p2 := HT.out.b.c 2
      have p3 := HT.out.b.c 3
      have p4 := HT.out.b.c 4
      have p5 := HT.out.b.c 5
      have q0 := HT.out.a.c 0
      have q1 := HT.out.a.c 1
      have q2 := HT.out.a.c 2
      have q3 := HT.out.a.c 3
      simp only [List.getElem?_toArray, List.getElem?_cons_zero, List.getElem?_cons_succ] at p0 p1 p2 p3 p4 p5 q0 q1 q2 q3
      go_enter Tryd.func105, Tryd.ntmps105
      go_wp2_with (first
        | (go_at_call 125; go_must (refine (target_q em st false kd _ lv x d t A _ c false _ HVa.out (by omega) (by omega)).mono ?_); rintro e w3 ⟨rfl, hb⟩; have HT := Lib.hid (HT.out.below hb); clear hb; have p0 := HT.out.b.c 0; have p1 := HT.out.b.c 1; have p2 := HT.out.b.c 2; have p3 := HT.out.b.c 3; have p4 := HT.out.b.c 4; have p5 := HT.out.b.c 5; have q0 := HT.out.a.c 0; have q1 := HT.out.a.c 1; have q2 := HT.out.a.c 2; have q3 := HT.out.a.c 3; simp only [List.getElem?_toArray, List.getElem?_cons_zero, List.getElem?_cons_succ] at p0 p1 p2 p3 p4 p5 q0 q1 q2 q3)
        | (go_at_call 124; go_must (refine (barless_q em st false kd x vb _ HVb.out).mono ?_); rintro e w3 ⟨rfl, hb⟩; have HT := Lib.hid (HT.out.below hb); clear hb))
      go_ret
      exact InlRes.mk HV2.out.symm HT.out.bel

set_option maxRecDepth 100000 in
set_option maxHeartbeats 16000000 in
theorem inlineFits_emph (lv : Int) (x d t : ByteArray) (ks : List Node) (A : Option Addr) (c : Nat) (em st li : Bool) (kd : Int) (w : World) (h : NodesAt w (.slice A ks.length c) ks) (hsz : x.size ≤ 1073741824 ∧ d.size + t.size ≤ 1073741824) (hlen : ks.length ≤ 1073741824)
    (hrec : ∀ (em st li : Bool) (W : World), Keeps w W → Calls Tryd.prog 83 #[.slice A ks.length c, .agg #[.bool em, .bool st, .bool li, .int .i64 kd]] W (InlRes (inlL ks none em st li kd) W)) :
    Calls Tryd.prog 105 #[.agg #[.int .i64 14, .int .i64 lv, .string x, .string d, .string t, .slice A ks.length c], .agg #[.bool em, .bool st, .bool li, .int .i64 kd]] w (InlRes (inlN (.mk 14 lv x d t ks) em st li kd) w) := by
  have HT := Lib.hid (show TwoW (w.heap.size + 1) w.heap.size #[.bool em, .bool st, .bool li, .int .i64 kd] #[.int .i64 14, .int .i64 lv, .string x, .string d, .string t, .slice A ks.length c] w ((w.alloc (.cells #[.int .i64 14, .int .i64 lv, .string x, .string d, .string t, .slice A ks.length c] 31)).alloc (.cells #[.bool em, .bool st, .bool li, .int .i64 kd] 86)) from
    ⟨by have := CB.new (w.alloc (.cells #[.int .i64 14, .int .i64 lv, .string x, .string d, .string t, .slice A ks.length c] 31)) #[.bool em, .bool st, .bool li, .int .i64 kd] 86; rwa [World.size_alloc] at this, (CB.new w #[.int .i64 14, .int .i64 lv, .string x, .string d, .string t, .slice A ks.length c] 31).alloc _, ((Below.refl _ _).alloc (Nat.le_refl _) _).alloc (by simp) _⟩)
  obtain ⟨hx, hdt⟩ := hsz
  have HV := Lib.hid (show inlN (.mk 14 lv x d t ks) em st li kd = (!em && (!ks.isEmpty && edgeB 14 ks && inlL ks none true st li kd)) from rfl)
  cases em with
  | true =>
    go_enter Tryd.func105, Tryd.ntmps105
    go_wp2_with fail
    go_ret
    exact InlRes.mk HV.out.symm HT.out.bel
  | false =>
    have HT2 := Lib.hid (show TwoW (w.heap.size + 1) w.heap.size #[.bool true, .bool st, .bool li, .int .i64 kd] #[.int .i64 14, .int .i64 lv, .string x, .string d, .string t, .slice A ks.length c] w ((w.alloc (.cells #[.int .i64 14, .int .i64 lv, .string x, .string d, .string t, .slice A ks.length c] 31)).alloc (.cells #[.bool true, .bool st, .bool li, .int .i64 kd] 86)) from
      ⟨by have := CB.new (w.alloc (.cells #[.int .i64 14, .int .i64 lv, .string x, .string d, .string t, .slice A ks.length c] 31)) #[.bool true, .bool st, .bool li, .int .i64 kd] 86; rwa [World.size_alloc] at this, (CB.new w #[.int .i64 14, .int .i64 lv, .string x, .string d, .string t, .slice A ks.length c] 31).alloc _, ((Below.refl _ _).alloc (Nat.le_refl _) _).alloc (by simp) _⟩)
    by_cases hke : ks.length = 0
    · have HV2 := Lib.hid (show inlN (.mk 14 lv x d t ks) false st li kd = false by rw [HV.out]; have : ks = [] := List.length_eq_zero_iff.1 hke; rw [this]; simp)
      have hkz : ((ks.length : Int) == 0) = true := by rw [hke]; rfl
      clear hke
      go_enter Tryd.func105, Tryd.ntmps105
      go_wp2_with fail
      go_ret
      exact InlRes.mk HV2.out.symm (by first | exact HT.out.bel | exact HT2.out.bel | exact HTput.out.bel)
    · obtain ⟨q, hq⟩ : ∃ q, ks.length = q + 1 := ⟨ks.length - 1, by omega⟩
      obtain ⟨A', cc, bl, o, kv, hv, hlc, hcm, hA, hcell, hkid⟩ := h.inv
      cases hv
      have hA2 := hA (by intro h0; rw [h0] at hq; simp at hq)
      subst hA2
      obtain ⟨a, ha⟩ : ∃ a, ks[0]? = some a := ⟨_, List.getElem?_eq_getElem (by omega)⟩
      obtain ⟨b, hb⟩ : ∃ b, ks[q]? = some b := ⟨_, List.getElem?_eq_getElem (by omega)⟩
      obtain ⟨A1, c1, b3, o3, k3, e3, _, _, _, _, _⟩ := (hkid 0 a ha).inv
      obtain ⟨A2, c2, b4, o4, k4, e4, _, _, _, _, _⟩ := (hkid q b hb).inv
      have HCa := Lib.hid (hcell 0 a ha)
      have HCb := Lib.hid (hcell q b hb)
      rw [e3] at HCa
      rw [e4] at HCb
      have HEd := Lib.hid (edge_ends hq ha hb 14)
      have hkz : (((q : Int) + 1) == 0) = false := by simp; omega
      have hrec2 := hrec true st li
      rw [hq] at hrec2
      obtain ⟨r, hr⟩ : ∃ r, inlL ks none true st li kd = r := ⟨_, rfl⟩
      rw [hr] at hrec2
      have HRec := Lib.hid hrec2
      have HV2 := Lib.hid (show inlN (.mk 14 lv x d t ks) false st li kd = (edgeB 14 ks && r) by
        rw [HV.out, hr]
        cases ks with
        | nil => simp at hq
        | cons _ _ => simp)
      have hcm2 : c ≤ 9223372036854775807 := by unfold maxLen at hcm; omega
      have hqc : q + 1 ≤ c := by omega
      have hq9 : q ≤ 1073741824 := by omega
      rw [hq] at HT
      try rw [hq] at HT2
      try rw [hq] at HVa
      clear hrec hrec2 hr e3 e4 hcell hkid hA ha hb hcm hke h hlc
      rw [hq]
      go_enter Tryd.func105, Tryd.ntmps105
      go_wp2_with fail
      obtain ⟨W3, hW3⟩ : ∃ W, (w.alloc (.cells #[.int .i64 14, .int .i64 lv, .string x, .string d, .string t, .slice (some ⟨bl, o, none⟩) (q + 1) c] 31)).alloc (.cells #[.bool true, .bool st, .bool li, .int .i64 kd] 86) = W := ⟨_, rfl⟩
      have HT3 := Lib.hid (show TwoW (w.heap.size + 1) w.heap.size #[.bool true, .bool st, .bool li, .int .i64 kd] #[.int .i64 14, .int .i64 lv, .string x, .string d, .string t, .slice (some ⟨bl, o, none⟩) (q + 1) c] w W3 by rw [← hW3]; exact HT2.out)
      rw [hW3]
      have u5 := HT3.out.b.c 5
      simp only [List.getElem?_toArray, List.getElem?_cons_zero, List.getElem?_cons_succ] at u5
      obtain ⟨a0, a1, a2, a3, a4, a5, _, _, _, _, _⟩ := HCa.out.keep (Keeps.of_below HT3.out.bel)
      obtain ⟨b0, b1, b2, b3', b4', b5, _, _, _, _, _⟩ := HCb.out.keep (Keeps.of_below HT3.out.bel)
      simp only [Nat.zero_mul, Nat.add_zero] at a0 a1 a2 a3 a4 a5
      have bb := World.block_lt_of_cell? _ _ a0
      simp only at bb
      have bn := HT3.out.b.lt
      have hwq : IntKind.i64.wrap (q : Int) = (q : Int) := IntWalk.i64_in _ (by omega)
      clear hW3
      go_cut [5, 6] from 83 (fun s5 s6 wx => ∃ na nb, s5 = .pointer (some ⟨na, 0, none⟩) ∧ s6 = .pointer (some ⟨nb, 0, none⟩) ∧ Hid (Firsts na nb #[.int .i64 a.kind, .int .i64 a.level, .string a.text, .string a.dest, .string a.title, .slice A1 a.kids.length c1] #[.int .i64 b.kind, .int .i64 b.level, .string b.text, .string b.dest, .string b.title, .slice A2 b.kids.length c2] W3 wx))
      case first =>
        go_region
        all_goals
          go_wp2_with fail
          go_meet
        all_goals first
          | exact ⟨_, _, rfl, rfl, Firsts.ab _ _ _⟩
          | exact ⟨_, _, rfl, rfl, Firsts.ba _ _ _⟩
      case rest =>
        obtain ⟨na, nb, rfl, rfl, HF⟩ := hcut
        have H4 := Lib.hid (show Fit4 w.heap.size (w.heap.size + 1) na nb #[.int .i64 14, .int .i64 lv, .string x, .string d, .string t, .slice (some ⟨bl, o, none⟩) (q + 1) c] #[.bool true, .bool st, .bool li, .int .i64 kd] #[.int .i64 a.kind, .int .i64 a.level, .string a.text, .string a.dest, .string a.title, .slice A1 a.kids.length c1] #[.int .i64 b.kind, .int .i64 b.level, .string b.text, .string b.dest, .string b.title, .slice A2 b.kids.length c2] w wc from
          ⟨HT3.out.b.below HF.out.bel, HT3.out.a.below HF.out.bel, HF.out.a, HF.out.b, HT3.out.bel.trans (HF.out.bel.mono HT3.out.bel.size)⟩)
        clear HT3 HF a0 a1 a2 a3 a4 a5 b0 b1 b2 b3' b4' b5 u5 bb bn hwq
        have p0 := H4.out.n.c 0
        have p1 := H4.out.n.c 1
        have p2 := H4.out.n.c 2
        have p3 := H4.out.n.c 3
        have p4 := H4.out.n.c 4
        have p5 := H4.out.n.c 5
        have q0 := H4.out.wi.c 0
        have q1 := H4.out.wi.c 1
        have q2 := H4.out.wi.c 2
        have q3 := H4.out.wi.c 3
        have a0 := H4.out.a.c 0
        have a1 := H4.out.a.c 1
        have a2 := H4.out.a.c 2
        have a3 := H4.out.a.c 3
        have a4 := H4.out.a.c 4
        have a5 := H4.out.a.c 5
        have b0 := H4.out.b.c 0
        have b1 := H4.out.b.c 1
        have b2 := H4.out.b.c 2
        have b3 := H4.out.b.c 3
        have b4 := H4.out.b.c 4
        have b5 := H4.out.b.c 5
        simp only [List.getElem?_toArray, List.getElem?_cons_zero, List.getElem?_cons_succ] at p0 p1 p2 p3 p4 p5 q0 q1 q2 q3 a0 a1 a2 a3 a4 a5 b0 b1 b2 b3 b4 b5
        cases hva : brk a.kind with
        | true =>
          have HVA := Lib.hid hva
          obtain ⟨vb, hvb⟩ : ∃ v, brk b.kind = v := ⟨_, rfl⟩
          have HVB := Lib.hid hvb
          obtain ⟨sa, hsa⟩ : ∃ v, star a.kind = v := ⟨_, rfl⟩
          have HSA := Lib.hid hsa
          obtain ⟨sb, hsb⟩ : ∃ v, star b.kind = v := ⟨_, rfl⟩
          have HSB := Lib.hid hsb
          have HV3 := Lib.hid (show inlN (.mk 14 lv x d t ks) false st li kd = false by rw [HV2.out, HEd.out, hva]; simp [star])
          clear hva hvb hsa hsb
          go_wp2_with (first
            | (go_at_call_of 81 a.kind; go_must (refine (isBreak_q a.kind _ _ _ _ _ _ _ _ _ HVA.out).mono ?_); rintro e w3 ⟨rfl, hb⟩; have H4 := Lib.hid (H4.out.below hb); clear hb; have p0 := H4.out.n.c 0; have p1 := H4.out.n.c 1; have p2 := H4.out.n.c 2; have p3 := H4.out.n.c 3; have p4 := H4.out.n.c 4; have p5 := H4.out.n.c 5; have q0 := H4.out.wi.c 0; have q1 := H4.out.wi.c 1; have q2 := H4.out.wi.c 2; have q3 := H4.out.wi.c 3; have a0 := H4.out.a.c 0; have a1 := H4.out.a.c 1; have a2 := H4.out.a.c 2; have a3 := H4.out.a.c 3; have a4 := H4.out.a.c 4; have a5 := H4.out.a.c 5; have b0 := H4.out.b.c 0; have b1 := H4.out.b.c 1; have b2 := H4.out.b.c 2; have b3 := H4.out.b.c 3; have b4 := H4.out.b.c 4; have b5 := H4.out.b.c 5; simp only [List.getElem?_toArray, List.getElem?_cons_zero, List.getElem?_cons_succ] at p0 p1 p2 p3 p4 p5 q0 q1 q2 q3 a0 a1 a2 a3 a4 a5 b0 b1 b2 b3 b4 b5)
            | (go_at_call_of 81 b.kind; go_must (refine (isBreak_q b.kind _ _ _ _ _ _ _ _ _ HVB.out).mono ?_); rintro e w3 ⟨rfl, hb⟩; have H4 := Lib.hid (H4.out.below hb); clear hb; have p0 := H4.out.n.c 0; have p1 := H4.out.n.c 1; have p2 := H4.out.n.c 2; have p3 := H4.out.n.c 3; have p4 := H4.out.n.c 4; have p5 := H4.out.n.c 5; have q0 := H4.out.wi.c 0; have q1 := H4.out.wi.c 1; have q2 := H4.out.wi.c 2; have q3 := H4.out.wi.c 3; have a0 := H4.out.a.c 0; have a1 := H4.out.a.c 1; have a2 := H4.out.a.c 2; have a3 := H4.out.a.c 3; have a4 := H4.out.a.c 4; have a5 := H4.out.a.c 5; have b0 := H4.out.b.c 0; have b1 := H4.out.b.c 1; have b2 := H4.out.b.c 2; have b3 := H4.out.b.c 3; have b4 := H4.out.b.c 4; have b5 := H4.out.b.c 5; simp only [List.getElem?_toArray, List.getElem?_cons_zero, List.getElem?_cons_succ] at p0 p1 p2 p3 p4 p5 q0 q1 q2 q3 a0 a1 a2 a3 a4 a5 b0 b1 b2 b3 b4 b5)
            | (go_at_call_of 123 a.kind; go_must (refine (isStar_q a.kind _ _ _ _ _ _ _ _ _ HSA.out).mono ?_); rintro e w3 ⟨rfl, hb⟩; have H4 := Lib.hid (H4.out.below hb); clear hb; have p0 := H4.out.n.c 0; have p1 := H4.out.n.c 1; have p2 := H4.out.n.c 2; have p3 := H4.out.n.c 3; have p4 := H4.out.n.c 4; have p5 := H4.out.n.c 5; have q0 := H4.out.wi.c 0; have q1 := H4.out.wi.c 1; have q2 := H4.out.wi.c 2; have q3 := H4.out.wi.c 3; have a0 := H4.out.a.c 0; have a1 := H4.out.a.c 1; have a2 := H4.out.a.c 2; have a3 := H4.out.a.c 3; have a4 := H4.out.a.c 4; have a5 := H4.out.a.c 5; have b0 := H4.out.b.c 0; have b1 := H4.out.b.c 1; have b2 := H4.out.b.c 2; have b3 := H4.out.b.c 3; have b4 := H4.out.b.c 4; have b5 := H4.out.b.c 5; simp only [List.getElem?_toArray, List.getElem?_cons_zero, List.getElem?_cons_succ] at p0 p1 p2 p3 p4 p5 q0 q1 q2 q3 a0 a1 a2 a3 a4 a5 b0 b1 b2 b3 b4 b5)
            | (go_at_call_of 123 b.kind; go_must (refine (isStar_q b.kind _ _ _ _ _ _ _ _ _ HSB.out).mono ?_); rintro e w3 ⟨rfl, hb⟩; have H4 := Lib.hid (H4.out.below hb); clear hb; have p0 := H4.out.n.c 0; have p1 := H4.out.n.c 1; have p2 := H4.out.n.c 2; have p3 := H4.out.n.c 3; have p4 := H4.out.n.c 4; have p5 := H4.out.n.c 5; have q0 := H4.out.wi.c 0; have q1 := H4.out.wi.c 1; have q2 := H4.out.wi.c 2; have q3 := H4.out.wi.c 3; have a0 := H4.out.a.c 0; have a1 := H4.out.a.c 1; have a2 := H4.out.a.c 2; have a3 := H4.out.a.c 3; have a4 := H4.out.a.c 4; have a5 := H4.out.a.c 5; have b0 := H4.out.b.c 0; have b1 := H4.out.b.c 1; have b2 := H4.out.b.c 2; have b3 := H4.out.b.c 3; have b4 := H4.out.b.c 4; have b5 := H4.out.b.c 5; simp only [List.getElem?_toArray, List.getElem?_cons_zero, List.getElem?_cons_succ] at p0 p1 p2 p3 p4 p5 q0 q1 q2 q3 a0 a1 a2 a3 a4 a5 b0 b1 b2 b3 b4 b5)
            | (go_at_call 123; go_must (refine (isStar_q 14 _ _ _ _ _ _ _ true _ (by rfl)).mono ?_); rintro e w3 ⟨rfl, hb⟩; have H4 := Lib.hid (H4.out.below hb); clear hb; have p0 := H4.out.n.c 0; have p1 := H4.out.n.c 1; have p2 := H4.out.n.c 2; have p3 := H4.out.n.c 3; have p4 := H4.out.n.c 4; have p5 := H4.out.n.c 5; have q0 := H4.out.wi.c 0; have q1 := H4.out.wi.c 1; have q2 := H4.out.wi.c 2; have q3 := H4.out.wi.c 3; have a0 := H4.out.a.c 0; have a1 := H4.out.a.c 1; have a2 := H4.out.a.c 2; have a3 := H4.out.a.c 3; have a4 := H4.out.a.c 4; have a5 := H4.out.a.c 5; have b0 := H4.out.b.c 0; have b1 := H4.out.b.c 1; have b2 := H4.out.b.c 2; have b3 := H4.out.b.c 3; have b4 := H4.out.b.c 4; have b5 := H4.out.b.c 5; simp only [List.getElem?_toArray, List.getElem?_cons_zero, List.getElem?_cons_succ] at p0 p1 p2 p3 p4 p5 q0 q1 q2 q3 a0 a1 a2 a3 a4 a5 b0 b1 b2 b3 b4 b5)
            | (go_at_call 83; go_must (refine (HRec.out _ (Keeps.of_below H4.out.bel)).mono ?_); rintro e w3 ⟨rfl, hb⟩; have H4 := Lib.hid (H4.out.below hb); clear hb))
          go_ret
          exact InlRes.mk HV3.out.symm H4.out.bel
        | false =>
          have HVA := Lib.hid hva
          cases hvb : brk b.kind with
          | true =>
            have HVB := Lib.hid hvb
            obtain ⟨sa, hsa⟩ : ∃ v, star a.kind = v := ⟨_, rfl⟩
            have HSA := Lib.hid hsa
            obtain ⟨sb, hsb⟩ : ∃ v, star b.kind = v := ⟨_, rfl⟩
            have HSB := Lib.hid hsb
            have HV3 := Lib.hid (show inlN (.mk 14 lv x d t ks) false st li kd = false by rw [HV2.out, HEd.out, hva, hvb]; simp [star])
            clear hva hvb hsa hsb
            go_wp2_with (first
              | (go_at_call_of 81 a.kind; go_must (refine (isBreak_q a.kind _ _ _ _ _ _ _ _ _ HVA.out).mono ?_); rintro e w3 ⟨rfl, hb⟩; have H4 := Lib.hid (H4.out.below hb); clear hb; have p0 := H4.out.n.c 0; have p1 := H4.out.n.c 1; have p2 := H4.out.n.c 2; have p3 := H4.out.n.c 3; have p4 := H4.out.n.c 4; have p5 := H4.out.n.c 5; have q0 := H4.out.wi.c 0; have q1 := H4.out.wi.c 1; have q2 := H4.out.wi.c 2; have q3 := H4.out.wi.c 3; have a0 := H4.out.a.c 0; have a1 := H4.out.a.c 1; have a2 := H4.out.a.c 2; have a3 := H4.out.a.c 3; have a4 := H4.out.a.c 4; have a5 := H4.out.a.c 5; have b0 := H4.out.b.c 0; have b1 := H4.out.b.c 1; have b2 := H4.out.b.c 2; have b3 := H4.out.b.c 3; have b4 := H4.out.b.c 4; have b5 := H4.out.b.c 5; simp only [List.getElem?_toArray, List.getElem?_cons_zero, List.getElem?_cons_succ] at p0 p1 p2 p3 p4 p5 q0 q1 q2 q3 a0 a1 a2 a3 a4 a5 b0 b1 b2 b3 b4 b5)
              | (go_at_call_of 81 b.kind; go_must (refine (isBreak_q b.kind _ _ _ _ _ _ _ _ _ HVB.out).mono ?_); rintro e w3 ⟨rfl, hb⟩; have H4 := Lib.hid (H4.out.below hb); clear hb; have p0 := H4.out.n.c 0; have p1 := H4.out.n.c 1; have p2 := H4.out.n.c 2; have p3 := H4.out.n.c 3; have p4 := H4.out.n.c 4; have p5 := H4.out.n.c 5; have q0 := H4.out.wi.c 0; have q1 := H4.out.wi.c 1; have q2 := H4.out.wi.c 2; have q3 := H4.out.wi.c 3; have a0 := H4.out.a.c 0; have a1 := H4.out.a.c 1; have a2 := H4.out.a.c 2; have a3 := H4.out.a.c 3; have a4 := H4.out.a.c 4; have a5 := H4.out.a.c 5; have b0 := H4.out.b.c 0; have b1 := H4.out.b.c 1; have b2 := H4.out.b.c 2; have b3 := H4.out.b.c 3; have b4 := H4.out.b.c 4; have b5 := H4.out.b.c 5; simp only [List.getElem?_toArray, List.getElem?_cons_zero, List.getElem?_cons_succ] at p0 p1 p2 p3 p4 p5 q0 q1 q2 q3 a0 a1 a2 a3 a4 a5 b0 b1 b2 b3 b4 b5)
              | (go_at_call_of 123 a.kind; go_must (refine (isStar_q a.kind _ _ _ _ _ _ _ _ _ HSA.out).mono ?_); rintro e w3 ⟨rfl, hb⟩; have H4 := Lib.hid (H4.out.below hb); clear hb; have p0 := H4.out.n.c 0; have p1 := H4.out.n.c 1; have p2 := H4.out.n.c 2; have p3 := H4.out.n.c 3; have p4 := H4.out.n.c 4; have p5 := H4.out.n.c 5; have q0 := H4.out.wi.c 0; have q1 := H4.out.wi.c 1; have q2 := H4.out.wi.c 2; have q3 := H4.out.wi.c 3; have a0 := H4.out.a.c 0; have a1 := H4.out.a.c 1; have a2 := H4.out.a.c 2; have a3 := H4.out.a.c 3; have a4 := H4.out.a.c 4; have a5 := H4.out.a.c 5; have b0 := H4.out.b.c 0; have b1 := H4.out.b.c 1; have b2 := H4.out.b.c 2; have b3 := H4.out.b.c 3; have b4 := H4.out.b.c 4; have b5 := H4.out.b.c 5; simp only [List.getElem?_toArray, List.getElem?_cons_zero, List.getElem?_cons_succ] at p0 p1 p2 p3 p4 p5 q0 q1 q2 q3 a0 a1 a2 a3 a4 a5 b0 b1 b2 b3 b4 b5)
              | (go_at_call_of 123 b.kind; go_must (refine (isStar_q b.kind _ _ _ _ _ _ _ _ _ HSB.out).mono ?_); rintro e w3 ⟨rfl, hb⟩; have H4 := Lib.hid (H4.out.below hb); clear hb; have p0 := H4.out.n.c 0; have p1 := H4.out.n.c 1; have p2 := H4.out.n.c 2; have p3 := H4.out.n.c 3; have p4 := H4.out.n.c 4; have p5 := H4.out.n.c 5; have q0 := H4.out.wi.c 0; have q1 := H4.out.wi.c 1; have q2 := H4.out.wi.c 2; have q3 := H4.out.wi.c 3; have a0 := H4.out.a.c 0; have a1 := H4.out.a.c 1; have a2 := H4.out.a.c 2; have a3 := H4.out.a.c 3; have a4 := H4.out.a.c 4; have a5 := H4.out.a.c 5; have b0 := H4.out.b.c 0; have b1 := H4.out.b.c 1; have b2 := H4.out.b.c 2; have b3 := H4.out.b.c 3; have b4 := H4.out.b.c 4; have b5 := H4.out.b.c 5; simp only [List.getElem?_toArray, List.getElem?_cons_zero, List.getElem?_cons_succ] at p0 p1 p2 p3 p4 p5 q0 q1 q2 q3 a0 a1 a2 a3 a4 a5 b0 b1 b2 b3 b4 b5)
              | (go_at_call 123; go_must (refine (isStar_q 14 _ _ _ _ _ _ _ true _ (by rfl)).mono ?_); rintro e w3 ⟨rfl, hb⟩; have H4 := Lib.hid (H4.out.below hb); clear hb; have p0 := H4.out.n.c 0; have p1 := H4.out.n.c 1; have p2 := H4.out.n.c 2; have p3 := H4.out.n.c 3; have p4 := H4.out.n.c 4; have p5 := H4.out.n.c 5; have q0 := H4.out.wi.c 0; have q1 := H4.out.wi.c 1; have q2 := H4.out.wi.c 2; have q3 := H4.out.wi.c 3; have a0 := H4.out.a.c 0; have a1 := H4.out.a.c 1; have a2 := H4.out.a.c 2; have a3 := H4.out.a.c 3; have a4 := H4.out.a.c 4; have a5 := H4.out.a.c 5; have b0 := H4.out.b.c 0; have b1 := H4.out.b.c 1; have b2 := H4.out.b.c 2; have b3 := H4.out.b.c 3; have b4 := H4.out.b.c 4; have b5 := H4.out.b.c 5; simp only [List.getElem?_toArray, List.getElem?_cons_zero, List.getElem?_cons_succ] at p0 p1 p2 p3 p4 p5 q0 q1 q2 q3 a0 a1 a2 a3 a4 a5 b0 b1 b2 b3 b4 b5)
              | (go_at_call 83; go_must (refine (HRec.out _ (Keeps.of_below H4.out.bel)).mono ?_); rintro e w3 ⟨rfl, hb⟩; have H4 := Lib.hid (H4.out.below hb); clear hb))
            go_ret
            exact InlRes.mk HV3.out.symm H4.out.bel
          | false =>
            have HVB := Lib.hid hvb
            cases hsa : star a.kind with
            | true =>
              have HSA := Lib.hid hsa
              obtain ⟨sb, hsb⟩ : ∃ v, star b.kind = v := ⟨_, rfl⟩
              have HSB := Lib.hid hsb
              have HV3 := Lib.hid (show inlN (.mk 14 lv x d t ks) false st li kd = false by rw [HV2.out, HEd.out, hva, hvb, hsa]; simp [star])
              clear hva hvb hsa hsb
              go_wp2_with (first
                | (go_at_call_of 81 a.kind; go_must (refine (isBreak_q a.kind _ _ _ _ _ _ _ _ _ HVA.out).mono ?_); rintro e w3 ⟨rfl, hb⟩; have H4 := Lib.hid (H4.out.below hb); clear hb; have p0 := H4.out.n.c 0; have p1 := H4.out.n.c 1; have p2 := H4.out.n.c 2; have p3 := H4.out.n.c 3; have p4 := H4.out.n.c 4; have p5 := H4.out.n.c 5; have q0 := H4.out.wi.c 0; have q1 := H4.out.wi.c 1; have q2 := H4.out.wi.c 2; have q3 := H4.out.wi.c 3; have a0 := H4.out.a.c 0; have a1 := H4.out.a.c 1; have a2 := H4.out.a.c 2; have a3 := H4.out.a.c 3; have a4 := H4.out.a.c 4; have a5 := H4.out.a.c 5; have b0 := H4.out.b.c 0; have b1 := H4.out.b.c 1; have b2 := H4.out.b.c 2; have b3 := H4.out.b.c 3; have b4 := H4.out.b.c 4; have b5 := H4.out.b.c 5; simp only [List.getElem?_toArray, List.getElem?_cons_zero, List.getElem?_cons_succ] at p0 p1 p2 p3 p4 p5 q0 q1 q2 q3 a0 a1 a2 a3 a4 a5 b0 b1 b2 b3 b4 b5)
                | (go_at_call_of 81 b.kind; go_must (refine (isBreak_q b.kind _ _ _ _ _ _ _ _ _ HVB.out).mono ?_); rintro e w3 ⟨rfl, hb⟩; have H4 := Lib.hid (H4.out.below hb); clear hb; have p0 := H4.out.n.c 0; have p1 := H4.out.n.c 1; have p2 := H4.out.n.c 2; have p3 := H4.out.n.c 3; have p4 := H4.out.n.c 4; have p5 := H4.out.n.c 5; have q0 := H4.out.wi.c 0; have q1 := H4.out.wi.c 1; have q2 := H4.out.wi.c 2; have q3 := H4.out.wi.c 3; have a0 := H4.out.a.c 0; have a1 := H4.out.a.c 1; have a2 := H4.out.a.c 2; have a3 := H4.out.a.c 3; have a4 := H4.out.a.c 4; have a5 := H4.out.a.c 5; have b0 := H4.out.b.c 0; have b1 := H4.out.b.c 1; have b2 := H4.out.b.c 2; have b3 := H4.out.b.c 3; have b4 := H4.out.b.c 4; have b5 := H4.out.b.c 5; simp only [List.getElem?_toArray, List.getElem?_cons_zero, List.getElem?_cons_succ] at p0 p1 p2 p3 p4 p5 q0 q1 q2 q3 a0 a1 a2 a3 a4 a5 b0 b1 b2 b3 b4 b5)
                | (go_at_call_of 123 a.kind; go_must (refine (isStar_q a.kind _ _ _ _ _ _ _ _ _ HSA.out).mono ?_); rintro e w3 ⟨rfl, hb⟩; have H4 := Lib.hid (H4.out.below hb); clear hb; have p0 := H4.out.n.c 0; have p1 := H4.out.n.c 1; have p2 := H4.out.n.c 2; have p3 := H4.out.n.c 3; have p4 := H4.out.n.c 4; have p5 := H4.out.n.c 5; have q0 := H4.out.wi.c 0; have q1 := H4.out.wi.c 1; have q2 := H4.out.wi.c 2; have q3 := H4.out.wi.c 3; have a0 := H4.out.a.c 0; have a1 := H4.out.a.c 1; have a2 := H4.out.a.c 2; have a3 := H4.out.a.c 3; have a4 := H4.out.a.c 4; have a5 := H4.out.a.c 5; have b0 := H4.out.b.c 0; have b1 := H4.out.b.c 1; have b2 := H4.out.b.c 2; have b3 := H4.out.b.c 3; have b4 := H4.out.b.c 4; have b5 := H4.out.b.c 5; simp only [List.getElem?_toArray, List.getElem?_cons_zero, List.getElem?_cons_succ] at p0 p1 p2 p3 p4 p5 q0 q1 q2 q3 a0 a1 a2 a3 a4 a5 b0 b1 b2 b3 b4 b5)
                | (go_at_call_of 123 b.kind; go_must (refine (isStar_q b.kind _ _ _ _ _ _ _ _ _ HSB.out).mono ?_); rintro e w3 ⟨rfl, hb⟩; have H4 := Lib.hid (H4.out.below hb); clear hb; have p0 := H4.out.n.c 0; have p1 := H4.out.n.c 1; have p2 := H4.out.n.c 2; have p3 := H4.out.n.c 3; have p4 := H4.out.n.c 4; have p5 := H4.out.n.c 5; have q0 := H4.out.wi.c 0; have q1 := H4.out.wi.c 1; have q2 := H4.out.wi.c 2; have q3 := H4.out.wi.c 3; have a0 := H4.out.a.c 0; have a1 := H4.out.a.c 1; have a2 := H4.out.a.c 2; have a3 := H4.out.a.c 3; have a4 := H4.out.a.c 4; have a5 := H4.out.a.c 5; have b0 := H4.out.b.c 0; have b1 := H4.out.b.c 1; have b2 := H4.out.b.c 2; have b3 := H4.out.b.c 3; have b4 := H4.out.b.c 4; have b5 := H4.out.b.c 5; simp only [List.getElem?_toArray, List.getElem?_cons_zero, List.getElem?_cons_succ] at p0 p1 p2 p3 p4 p5 q0 q1 q2 q3 a0 a1 a2 a3 a4 a5 b0 b1 b2 b3 b4 b5)
                | (go_at_call 123; go_must (refine (isStar_q 14 _ _ _ _ _ _ _ true _ (by rfl)).mono ?_); rintro e w3 ⟨rfl, hb⟩; have H4 := Lib.hid (H4.out.below hb); clear hb; have p0 := H4.out.n.c 0; have p1 := H4.out.n.c 1; have p2 := H4.out.n.c 2; have p3 := H4.out.n.c 3; have p4 := H4.out.n.c 4; have p5 := H4.out.n.c 5; have q0 := H4.out.wi.c 0; have q1 := H4.out.wi.c 1; have q2 := H4.out.wi.c 2; have q3 := H4.out.wi.c 3; have a0 := H4.out.a.c 0; have a1 := H4.out.a.c 1; have a2 := H4.out.a.c 2; have a3 := H4.out.a.c 3; have a4 := H4.out.a.c 4; have a5 := H4.out.a.c 5; have b0 := H4.out.b.c 0; have b1 := H4.out.b.c 1; have b2 := H4.out.b.c 2; have b3 := H4.out.b.c 3; have b4 := H4.out.b.c 4; have b5 := H4.out.b.c 5; simp only [List.getElem?_toArray, List.getElem?_cons_zero, List.getElem?_cons_succ] at p0 p1 p2 p3 p4 p5 q0 q1 q2 q3 a0 a1 a2 a3 a4 a5 b0 b1 b2 b3 b4 b5)
                | (go_at_call 83; go_must (refine (HRec.out _ (Keeps.of_below H4.out.bel)).mono ?_); rintro e w3 ⟨rfl, hb⟩; have H4 := Lib.hid (H4.out.below hb); clear hb))
              go_ret
              exact InlRes.mk HV3.out.symm H4.out.bel
            | false =>
              have HSA := Lib.hid hsa
              cases hsb : star b.kind with
              | true =>
                have HSB := Lib.hid hsb
                have HV3 := Lib.hid (show inlN (.mk 14 lv x d t ks) false st li kd = false by rw [HV2.out, HEd.out, hva, hvb, hsa, hsb]; simp [star])
                clear hva hvb hsa hsb
                go_wp2_with (first
                  | (go_at_call_of 81 a.kind; go_must (refine (isBreak_q a.kind _ _ _ _ _ _ _ _ _ HVA.out).mono ?_); rintro e w3 ⟨rfl, hb⟩; have H4 := Lib.hid (H4.out.below hb); clear hb; have p0 := H4.out.n.c 0; have p1 := H4.out.n.c 1; have p2 := H4.out.n.c 2; have p3 := H4.out.n.c 3; have p4 := H4.out.n.c 4; have p5 := H4.out.n.c 5; have q0 := H4.out.wi.c 0; have q1 := H4.out.wi.c 1; have q2 := H4.out.wi.c 2; have q3 := H4.out.wi.c 3; have a0 := H4.out.a.c 0; have a1 := H4.out.a.c 1; have a2 := H4.out.a.c 2; have a3 := H4.out.a.c 3; have a4 := H4.out.a.c 4; have a5 := H4.out.a.c 5; have b0 := H4.out.b.c 0; have b1 := H4.out.b.c 1; have b2 := H4.out.b.c 2; have b3 := H4.out.b.c 3; have b4 := H4.out.b.c 4; have b5 := H4.out.b.c 5; simp only [List.getElem?_toArray, List.getElem?_cons_zero, List.getElem?_cons_succ] at p0 p1 p2 p3 p4 p5 q0 q1 q2 q3 a0 a1 a2 a3 a4 a5 b0 b1 b2 b3 b4 b5)
                  | (go_at_call_of 81 b.kind; go_must (refine (isBreak_q b.kind _ _ _ _ _ _ _ _ _ HVB.out).mono ?_); rintro e w3 ⟨rfl, hb⟩; have H4 := Lib.hid (H4.out.below hb); clear hb; have p0 := H4.out.n.c 0; have p1 := H4.out.n.c 1; have p2 := H4.out.n.c 2; have p3 := H4.out.n.c 3; have p4 := H4.out.n.c 4; have p5 := H4.out.n.c 5; have q0 := H4.out.wi.c 0; have q1 := H4.out.wi.c 1; have q2 := H4.out.wi.c 2; have q3 := H4.out.wi.c 3; have a0 := H4.out.a.c 0; have a1 := H4.out.a.c 1; have a2 := H4.out.a.c 2; have a3 := H4.out.a.c 3; have a4 := H4.out.a.c 4; have a5 := H4.out.a.c 5; have b0 := H4.out.b.c 0; have b1 := H4.out.b.c 1; have b2 := H4.out.b.c 2; have b3 := H4.out.b.c 3; have b4 := H4.out.b.c 4; have b5 := H4.out.b.c 5; simp only [List.getElem?_toArray, List.getElem?_cons_zero, List.getElem?_cons_succ] at p0 p1 p2 p3 p4 p5 q0 q1 q2 q3 a0 a1 a2 a3 a4 a5 b0 b1 b2 b3 b4 b5)
                  | (go_at_call_of 123 a.kind; go_must (refine (isStar_q a.kind _ _ _ _ _ _ _ _ _ HSA.out).mono ?_); rintro e w3 ⟨rfl, hb⟩; have H4 := Lib.hid (H4.out.below hb); clear hb; have p0 := H4.out.n.c 0; have p1 := H4.out.n.c 1; have p2 := H4.out.n.c 2; have p3 := H4.out.n.c 3; have p4 := H4.out.n.c 4; have p5 := H4.out.n.c 5; have q0 := H4.out.wi.c 0; have q1 := H4.out.wi.c 1; have q2 := H4.out.wi.c 2; have q3 := H4.out.wi.c 3; have a0 := H4.out.a.c 0; have a1 := H4.out.a.c 1; have a2 := H4.out.a.c 2; have a3 := H4.out.a.c 3; have a4 := H4.out.a.c 4; have a5 := H4.out.a.c 5; have b0 := H4.out.b.c 0; have b1 := H4.out.b.c 1; have b2 := H4.out.b.c 2; have b3 := H4.out.b.c 3; have b4 := H4.out.b.c 4; have b5 := H4.out.b.c 5; simp only [List.getElem?_toArray, List.getElem?_cons_zero, List.getElem?_cons_succ] at p0 p1 p2 p3 p4 p5 q0 q1 q2 q3 a0 a1 a2 a3 a4 a5 b0 b1 b2 b3 b4 b5)
                  | (go_at_call_of 123 b.kind; go_must (refine (isStar_q b.kind _ _ _ _ _ _ _ _ _ HSB.out).mono ?_); rintro e w3 ⟨rfl, hb⟩; have H4 := Lib.hid (H4.out.below hb); clear hb; have p0 := H4.out.n.c 0; have p1 := H4.out.n.c 1; have p2 := H4.out.n.c 2; have p3 := H4.out.n.c 3; have p4 := H4.out.n.c 4; have p5 := H4.out.n.c 5; have q0 := H4.out.wi.c 0; have q1 := H4.out.wi.c 1; have q2 := H4.out.wi.c 2; have q3 := H4.out.wi.c 3; have a0 := H4.out.a.c 0; have a1 := H4.out.a.c 1; have a2 := H4.out.a.c 2; have a3 := H4.out.a.c 3; have a4 := H4.out.a.c 4; have a5 := H4.out.a.c 5; have b0 := H4.out.b.c 0; have b1 := H4.out.b.c 1; have b2 := H4.out.b.c 2; have b3 := H4.out.b.c 3; have b4 := H4.out.b.c 4; have b5 := H4.out.b.c 5; simp only [List.getElem?_toArray, List.getElem?_cons_zero, List.getElem?_cons_succ] at p0 p1 p2 p3 p4 p5 q0 q1 q2 q3 a0 a1 a2 a3 a4 a5 b0 b1 b2 b3 b4 b5)
                  | (go_at_call 123; go_must (refine (isStar_q 14 _ _ _ _ _ _ _ true _ (by rfl)).mono ?_); rintro e w3 ⟨rfl, hb⟩; have H4 := Lib.hid (H4.out.below hb); clear hb; have p0 := H4.out.n.c 0; have p1 := H4.out.n.c 1; have p2 := H4.out.n.c 2; have p3 := H4.out.n.c 3; have p4 := H4.out.n.c 4; have p5 := H4.out.n.c 5; have q0 := H4.out.wi.c 0; have q1 := H4.out.wi.c 1; have q2 := H4.out.wi.c 2; have q3 := H4.out.wi.c 3; have a0 := H4.out.a.c 0; have a1 := H4.out.a.c 1; have a2 := H4.out.a.c 2; have a3 := H4.out.a.c 3; have a4 := H4.out.a.c 4; have a5 := H4.out.a.c 5; have b0 := H4.out.b.c 0; have b1 := H4.out.b.c 1; have b2 := H4.out.b.c 2; have b3 := H4.out.b.c 3; have b4 := H4.out.b.c 4; have b5 := H4.out.b.c 5; simp only [List.getElem?_toArray, List.getElem?_cons_zero, List.getElem?_cons_succ] at p0 p1 p2 p3 p4 p5 q0 q1 q2 q3 a0 a1 a2 a3 a4 a5 b0 b1 b2 b3 b4 b5)
                  | (go_at_call 83; go_must (refine (HRec.out _ (Keeps.of_below H4.out.bel)).mono ?_); rintro e w3 ⟨rfl, hb⟩; have H4 := Lib.hid (H4.out.below hb); clear hb))
                go_ret
                exact InlRes.mk HV3.out.symm H4.out.bel
              | false =>
                have HSB := Lib.hid hsb
                have HV3 := Lib.hid (show inlN (.mk 14 lv x d t ks) false st li kd = r by rw [HV2.out, HEd.out, hva, hvb, hsa, hsb]; simp [star])
                clear hva hvb hsa hsb
                go_wp2_with (first
                  | (go_at_call_of 81 a.kind; go_must (refine (isBreak_q a.kind _ _ _ _ _ _ _ _ _ HVA.out).mono ?_); rintro e w3 ⟨rfl, hb⟩; have H4 := Lib.hid (H4.out.below hb); clear hb; have p0 := H4.out.n.c 0; have p1 := H4.out.n.c 1; have p2 := H4.out.n.c 2; have p3 := H4.out.n.c 3; have p4 := H4.out.n.c 4; have p5 := H4.out.n.c 5; have q0 := H4.out.wi.c 0; have q1 := H4.out.wi.c 1; have q2 := H4.out.wi.c 2; have q3 := H4.out.wi.c 3; have a0 := H4.out.a.c 0; have a1 := H4.out.a.c 1; have a2 := H4.out.a.c 2; have a3 := H4.out.a.c 3; have a4 := H4.out.a.c 4; have a5 := H4.out.a.c 5; have b0 := H4.out.b.c 0; have b1 := H4.out.b.c 1; have b2 := H4.out.b.c 2; have b3 := H4.out.b.c 3; have b4 := H4.out.b.c 4; have b5 := H4.out.b.c 5; simp only [List.getElem?_toArray, List.getElem?_cons_zero, List.getElem?_cons_succ] at p0 p1 p2 p3 p4 p5 q0 q1 q2 q3 a0 a1 a2 a3 a4 a5 b0 b1 b2 b3 b4 b5)
                  | (go_at_call_of 81 b.kind; go_must (refine (isBreak_q b.kind _ _ _ _ _ _ _ _ _ HVB.out).mono ?_); rintro e w3 ⟨rfl, hb⟩; have H4 := Lib.hid (H4.out.below hb); clear hb; have p0 := H4.out.n.c 0; have p1 := H4.out.n.c 1; have p2 := H4.out.n.c 2; have p3 := H4.out.n.c 3; have p4 := H4.out.n.c 4; have p5 := H4.out.n.c 5; have q0 := H4.out.wi.c 0; have q1 := H4.out.wi.c 1; have q2 := H4.out.wi.c 2; have q3 := H4.out.wi.c 3; have a0 := H4.out.a.c 0; have a1 := H4.out.a.c 1; have a2 := H4.out.a.c 2; have a3 := H4.out.a.c 3; have a4 := H4.out.a.c 4; have a5 := H4.out.a.c 5; have b0 := H4.out.b.c 0; have b1 := H4.out.b.c 1; have b2 := H4.out.b.c 2; have b3 := H4.out.b.c 3; have b4 := H4.out.b.c 4; have b5 := H4.out.b.c 5; simp only [List.getElem?_toArray, List.getElem?_cons_zero, List.getElem?_cons_succ] at p0 p1 p2 p3 p4 p5 q0 q1 q2 q3 a0 a1 a2 a3 a4 a5 b0 b1 b2 b3 b4 b5)
                  | (go_at_call_of 123 a.kind; go_must (refine (isStar_q a.kind _ _ _ _ _ _ _ _ _ HSA.out).mono ?_); rintro e w3 ⟨rfl, hb⟩; have H4 := Lib.hid (H4.out.below hb); clear hb; have p0 := H4.out.n.c 0; have p1 := H4.out.n.c 1; have p2 := H4.out.n.c 2; have p3 := H4.out.n.c 3; have p4 := H4.out.n.c 4; have p5 := H4.out.n.c 5; have q0 := H4.out.wi.c 0; have q1 := H4.out.wi.c 1; have q2 := H4.out.wi.c 2; have q3 := H4.out.wi.c 3; have a0 := H4.out.a.c 0; have a1 := H4.out.a.c 1; have a2 := H4.out.a.c 2; have a3 := H4.out.a.c 3; have a4 := H4.out.a.c 4; have a5 := H4.out.a.c 5; have b0 := H4.out.b.c 0; have b1 := H4.out.b.c 1; have b2 := H4.out.b.c 2; have b3 := H4.out.b.c 3; have b4 := H4.out.b.c 4; have b5 := H4.out.b.c 5; simp only [List.getElem?_toArray, List.getElem?_cons_zero, List.getElem?_cons_succ] at p0 p1 p2 p3 p4 p5 q0 q1 q2 q3 a0 a1 a2 a3 a4 a5 b0 b1 b2 b3 b4 b5)
                  | (go_at_call_of 123 b.kind; go_must (refine (isStar_q b.kind _ _ _ _ _ _ _ _ _ HSB.out).mono ?_); rintro e w3 ⟨rfl, hb⟩; have H4 := Lib.hid (H4.out.below hb); clear hb; have p0 := H4.out.n.c 0; have p1 := H4.out.n.c 1; have p2 := H4.out.n.c 2; have p3 := H4.out.n.c 3; have p4 := H4.out.n.c 4; have p5 := H4.out.n.c 5; have q0 := H4.out.wi.c 0; have q1 := H4.out.wi.c 1; have q2 := H4.out.wi.c 2; have q3 := H4.out.wi.c 3; have a0 := H4.out.a.c 0; have a1 := H4.out.a.c 1; have a2 := H4.out.a.c 2; have a3 := H4.out.a.c 3; have a4 := H4.out.a.c 4; have a5 := H4.out.a.c 5; have b0 := H4.out.b.c 0; have b1 := H4.out.b.c 1; have b2 := H4.out.b.c 2; have b3 := H4.out.b.c 3; have b4 := H4.out.b.c 4; have b5 := H4.out.b.c 5; simp only [List.getElem?_toArray, List.getElem?_cons_zero, List.getElem?_cons_succ] at p0 p1 p2 p3 p4 p5 q0 q1 q2 q3 a0 a1 a2 a3 a4 a5 b0 b1 b2 b3 b4 b5)
                  | (go_at_call 123; go_must (refine (isStar_q 14 _ _ _ _ _ _ _ true _ (by rfl)).mono ?_); rintro e w3 ⟨rfl, hb⟩; have H4 := Lib.hid (H4.out.below hb); clear hb; have p0 := H4.out.n.c 0; have p1 := H4.out.n.c 1; have p2 := H4.out.n.c 2; have p3 := H4.out.n.c 3; have p4 := H4.out.n.c 4; have p5 := H4.out.n.c 5; have q0 := H4.out.wi.c 0; have q1 := H4.out.wi.c 1; have q2 := H4.out.wi.c 2; have q3 := H4.out.wi.c 3; have a0 := H4.out.a.c 0; have a1 := H4.out.a.c 1; have a2 := H4.out.a.c 2; have a3 := H4.out.a.c 3; have a4 := H4.out.a.c 4; have a5 := H4.out.a.c 5; have b0 := H4.out.b.c 0; have b1 := H4.out.b.c 1; have b2 := H4.out.b.c 2; have b3 := H4.out.b.c 3; have b4 := H4.out.b.c 4; have b5 := H4.out.b.c 5; simp only [List.getElem?_toArray, List.getElem?_cons_zero, List.getElem?_cons_succ] at p0 p1 p2 p3 p4 p5 q0 q1 q2 q3 a0 a1 a2 a3 a4 a5 b0 b1 b2 b3 b4 b5)
                  | (go_at_call 83; go_must (refine (HRec.out _ (Keeps.of_below H4.out.bel)).mono ?_); rintro e w3 ⟨rfl, hb⟩; have H4 := Lib.hid (H4.out.below hb); clear hb))
                go_ret
                exact InlRes.mk HV3.out.symm H4.out.bel

set_option maxRecDepth 100000 in
set_option maxHeartbeats 16000000 in
theorem inlineFits_strong (lv : Int) (x d t : ByteArray) (ks : List Node) (A : Option Addr) (c : Nat) (em st li : Bool) (kd : Int) (w : World) (h : NodesAt w (.slice A ks.length c) ks) (hsz : x.size ≤ 1073741824 ∧ d.size + t.size ≤ 1073741824) (hlen : ks.length ≤ 1073741824)
    (hrec : ∀ (em st li : Bool) (W : World), Keeps w W → Calls Tryd.prog 83 #[.slice A ks.length c, .agg #[.bool em, .bool st, .bool li, .int .i64 kd]] W (InlRes (inlL ks none em st li kd) W)) :
    Calls Tryd.prog 105 #[.agg #[.int .i64 15, .int .i64 lv, .string x, .string d, .string t, .slice A ks.length c], .agg #[.bool em, .bool st, .bool li, .int .i64 kd]] w (InlRes (inlN (.mk 15 lv x d t ks) em st li kd) w) := by
  have HT := Lib.hid (show TwoW (w.heap.size + 1) w.heap.size #[.bool em, .bool st, .bool li, .int .i64 kd] #[.int .i64 15, .int .i64 lv, .string x, .string d, .string t, .slice A ks.length c] w ((w.alloc (.cells #[.int .i64 15, .int .i64 lv, .string x, .string d, .string t, .slice A ks.length c] 31)).alloc (.cells #[.bool em, .bool st, .bool li, .int .i64 kd] 86)) from
    ⟨by have := CB.new (w.alloc (.cells #[.int .i64 15, .int .i64 lv, .string x, .string d, .string t, .slice A ks.length c] 31)) #[.bool em, .bool st, .bool li, .int .i64 kd] 86; rwa [World.size_alloc] at this, (CB.new w #[.int .i64 15, .int .i64 lv, .string x, .string d, .string t, .slice A ks.length c] 31).alloc _, ((Below.refl _ _).alloc (Nat.le_refl _) _).alloc (by simp) _⟩)
  obtain ⟨hx, hdt⟩ := hsz
  have HV := Lib.hid (show inlN (.mk 15 lv x d t ks) em st li kd = (!st && (!ks.isEmpty && edgeB 15 ks && inlL ks none em true li kd)) from rfl)
  cases st with
  | true =>
    go_enter Tryd.func105, Tryd.ntmps105
    go_wp2_with fail
    go_ret
    exact InlRes.mk HV.out.symm HT.out.bel
  | false =>
    have HT2 := Lib.hid (show TwoW (w.heap.size + 1) w.heap.size #[.bool em, .bool true, .bool li, .int .i64 kd] #[.int .i64 15, .int .i64 lv, .string x, .string d, .string t, .slice A ks.length c] w ((w.alloc (.cells #[.int .i64 15, .int .i64 lv, .string x, .string d, .string t, .slice A ks.length c] 31)).alloc (.cells #[.bool em, .bool true, .bool li, .int .i64 kd] 86)) from
      ⟨by have := CB.new (w.alloc (.cells #[.int .i64 15, .int .i64 lv, .string x, .string d, .string t, .slice A ks.length c] 31)) #[.bool em, .bool true, .bool li, .int .i64 kd] 86; rwa [World.size_alloc] at this, (CB.new w #[.int .i64 15, .int .i64 lv, .string x, .string d, .string t, .slice A ks.length c] 31).alloc _, ((Below.refl _ _).alloc (Nat.le_refl _) _).alloc (by simp) _⟩)
    by_cases hke : ks.length = 0
    · have HV2 := Lib.hid (show inlN (.mk 15 lv x d t ks) em false li kd = false by rw [HV.out]; have : ks = [] := List.length_eq_zero_iff.1 hke; rw [this]; simp)
      have hkz : ((ks.length : Int) == 0) = true := by rw [hke]; rfl
      clear hke
      go_enter Tryd.func105, Tryd.ntmps105
      go_wp2_with fail
      go_ret
      exact InlRes.mk HV2.out.symm (by first | exact HT.out.bel | exact HT2.out.bel | exact HTput.out.bel)
    · obtain ⟨q, hq⟩ : ∃ q, ks.length = q + 1 := ⟨ks.length - 1, by omega⟩
      obtain ⟨A', cc, bl, o, kv, hv, hlc, hcm, hA, hcell, hkid⟩ := h.inv
      cases hv
      have hA2 := hA (by intro h0; rw [h0] at hq; simp at hq)
      subst hA2
      obtain ⟨a, ha⟩ : ∃ a, ks[0]? = some a := ⟨_, List.getElem?_eq_getElem (by omega)⟩
      obtain ⟨b, hb⟩ : ∃ b, ks[q]? = some b := ⟨_, List.getElem?_eq_getElem (by omega)⟩
      obtain ⟨A1, c1, b3, o3, k3, e3, _, _, _, _, _⟩ := (hkid 0 a ha).inv
      obtain ⟨A2, c2, b4, o4, k4, e4, _, _, _, _, _⟩ := (hkid q b hb).inv
      have HCa := Lib.hid (hcell 0 a ha)
      have HCb := Lib.hid (hcell q b hb)
      rw [e3] at HCa
      rw [e4] at HCb
      have HEd := Lib.hid (edge_ends hq ha hb 15)
      have hkz : (((q : Int) + 1) == 0) = false := by simp; omega
      have hrec2 := hrec em true li
      rw [hq] at hrec2
      obtain ⟨r, hr⟩ : ∃ r, inlL ks none em true li kd = r := ⟨_, rfl⟩
      rw [hr] at hrec2
      have HRec := Lib.hid hrec2
      have HV2 := Lib.hid (show inlN (.mk 15 lv x d t ks) em false li kd = (edgeB 15 ks && r) by
        rw [HV.out, hr]
        cases ks with
        | nil => simp at hq
        | cons _ _ => simp)
      have hcm2 : c ≤ 9223372036854775807 := by unfold maxLen at hcm; omega
      have hqc : q + 1 ≤ c := by omega
      have hq9 : q ≤ 1073741824 := by omega
      rw [hq] at HT
      try rw [hq] at HT2
      try rw [hq] at HVa
      clear hrec hrec2 hr e3 e4 hcell hkid hA ha hb hcm hke h hlc
      rw [hq]
      go_enter Tryd.func105, Tryd.ntmps105
      go_wp2_with fail
      obtain ⟨W3, hW3⟩ : ∃ W, (w.alloc (.cells #[.int .i64 15, .int .i64 lv, .string x, .string d, .string t, .slice (some ⟨bl, o, none⟩) (q + 1) c] 31)).alloc (.cells #[.bool em, .bool true, .bool li, .int .i64 kd] 86) = W := ⟨_, rfl⟩
      have HT3 := Lib.hid (show TwoW (w.heap.size + 1) w.heap.size #[.bool em, .bool true, .bool li, .int .i64 kd] #[.int .i64 15, .int .i64 lv, .string x, .string d, .string t, .slice (some ⟨bl, o, none⟩) (q + 1) c] w W3 by rw [← hW3]; exact HT2.out)
      rw [hW3]
      have u5 := HT3.out.b.c 5
      simp only [List.getElem?_toArray, List.getElem?_cons_zero, List.getElem?_cons_succ] at u5
      obtain ⟨a0, a1, a2, a3, a4, a5, _, _, _, _, _⟩ := HCa.out.keep (Keeps.of_below HT3.out.bel)
      obtain ⟨b0, b1, b2, b3', b4', b5, _, _, _, _, _⟩ := HCb.out.keep (Keeps.of_below HT3.out.bel)
      simp only [Nat.zero_mul, Nat.add_zero] at a0 a1 a2 a3 a4 a5
      have bb := World.block_lt_of_cell? _ _ a0
      simp only at bb
      have bn := HT3.out.b.lt
      have hwq : IntKind.i64.wrap (q : Int) = (q : Int) := IntWalk.i64_in _ (by omega)
      clear hW3
      go_cut [5, 6] from 83 (fun s5 s6 wx => ∃ na nb, s5 = .pointer (some ⟨na, 0, none⟩) ∧ s6 = .pointer (some ⟨nb, 0, none⟩) ∧ Hid (Firsts na nb #[.int .i64 a.kind, .int .i64 a.level, .string a.text, .string a.dest, .string a.title, .slice A1 a.kids.length c1] #[.int .i64 b.kind, .int .i64 b.level, .string b.text, .string b.dest, .string b.title, .slice A2 b.kids.length c2] W3 wx))
      case first =>
        go_region
        all_goals
          go_wp2_with fail
          go_meet
        all_goals first
          | exact ⟨_, _, rfl, rfl, Firsts.ab _ _ _⟩
          | exact ⟨_, _, rfl, rfl, Firsts.ba _ _ _⟩
      case rest =>
        obtain ⟨na, nb, rfl, rfl, HF⟩ := hcut
        have H4 := Lib.hid (show Fit4 w.heap.size (w.heap.size + 1) na nb #[.int .i64 15, .int .i64 lv, .string x, .string d, .string t, .slice (some ⟨bl, o, none⟩) (q + 1) c] #[.bool em, .bool true, .bool li, .int .i64 kd] #[.int .i64 a.kind, .int .i64 a.level, .string a.text, .string a.dest, .string a.title, .slice A1 a.kids.length c1] #[.int .i64 b.kind, .int .i64 b.level, .string b.text, .string b.dest, .string b.title, .slice A2 b.kids.length c2] w wc from
          ⟨HT3.out.b.below HF.out.bel, HT3.out.a.below HF.out.bel, HF.out.a, HF.out.b, HT3.out.bel.trans (HF.out.bel.mono HT3.out.bel.size)⟩)
        clear HT3 HF a0 a1 a2 a3 a4 a5 b0 b1 b2 b3' b4' b5 u5 bb bn hwq
        have p0 := H4.out.n.c 0
        have p1 := H4.out.n.c 1
        have p2 := H4.out.n.c 2
        have p3 := H4.out.n.c 3
        have p4 := H4.out.n.c 4
        have p5 := H4.out.n.c 5
        have q0 := H4.out.wi.c 0
        have q1 := H4.out.wi.c 1
        have q2 := H4.out.wi.c 2
        have q3 := H4.out.wi.c 3
        have a0 := H4.out.a.c 0
        have a1 := H4.out.a.c 1
        have a2 := H4.out.a.c 2
        have a3 := H4.out.a.c 3
        have a4 := H4.out.a.c 4
        have a5 := H4.out.a.c 5
        have b0 := H4.out.b.c 0
        have b1 := H4.out.b.c 1
        have b2 := H4.out.b.c 2
        have b3 := H4.out.b.c 3
        have b4 := H4.out.b.c 4
        have b5 := H4.out.b.c 5
        simp only [List.getElem?_toArray, List.getElem?_cons_zero, List.getElem?_cons_succ] at p0 p1 p2 p3 p4 p5 q0 q1 q2 q3 a0 a1 a2 a3 a4 a5 b0 b1 b2 b3 b4 b5
        cases hva : brk a.kind with
        | true =>
          have HVA := Lib.hid hva
          obtain ⟨vb, hvb⟩ : ∃ v, brk b.kind = v := ⟨_, rfl⟩
          have HVB := Lib.hid hvb
          obtain ⟨sa, hsa⟩ : ∃ v, star a.kind = v := ⟨_, rfl⟩
          have HSA := Lib.hid hsa
          obtain ⟨sb, hsb⟩ : ∃ v, star b.kind = v := ⟨_, rfl⟩
          have HSB := Lib.hid hsb
          have HV3 := Lib.hid (show inlN (.mk 15 lv x d t ks) em false li kd = false by rw [HV2.out, HEd.out, hva]; simp [star])
          clear hva hvb hsa hsb
          go_wp2_with (first
            | (go_at_call_of 81 a.kind; go_must (refine (isBreak_q a.kind _ _ _ _ _ _ _ _ _ HVA.out).mono ?_); rintro e w3 ⟨rfl, hb⟩; have H4 := Lib.hid (H4.out.below hb); clear hb; have p0 := H4.out.n.c 0; have p1 := H4.out.n.c 1; have p2 := H4.out.n.c 2; have p3 := H4.out.n.c 3; have p4 := H4.out.n.c 4; have p5 := H4.out.n.c 5; have q0 := H4.out.wi.c 0; have q1 := H4.out.wi.c 1; have q2 := H4.out.wi.c 2; have q3 := H4.out.wi.c 3; have a0 := H4.out.a.c 0; have a1 := H4.out.a.c 1; have a2 := H4.out.a.c 2; have a3 := H4.out.a.c 3; have a4 := H4.out.a.c 4; have a5 := H4.out.a.c 5; have b0 := H4.out.b.c 0; have b1 := H4.out.b.c 1; have b2 := H4.out.b.c 2; have b3 := H4.out.b.c 3; have b4 := H4.out.b.c 4; have b5 := H4.out.b.c 5; simp only [List.getElem?_toArray, List.getElem?_cons_zero, List.getElem?_cons_succ] at p0 p1 p2 p3 p4 p5 q0 q1 q2 q3 a0 a1 a2 a3 a4 a5 b0 b1 b2 b3 b4 b5)
            | (go_at_call_of 81 b.kind; go_must (refine (isBreak_q b.kind _ _ _ _ _ _ _ _ _ HVB.out).mono ?_); rintro e w3 ⟨rfl, hb⟩; have H4 := Lib.hid (H4.out.below hb); clear hb; have p0 := H4.out.n.c 0; have p1 := H4.out.n.c 1; have p2 := H4.out.n.c 2; have p3 := H4.out.n.c 3; have p4 := H4.out.n.c 4; have p5 := H4.out.n.c 5; have q0 := H4.out.wi.c 0; have q1 := H4.out.wi.c 1; have q2 := H4.out.wi.c 2; have q3 := H4.out.wi.c 3; have a0 := H4.out.a.c 0; have a1 := H4.out.a.c 1; have a2 := H4.out.a.c 2; have a3 := H4.out.a.c 3; have a4 := H4.out.a.c 4; have a5 := H4.out.a.c 5; have b0 := H4.out.b.c 0; have b1 := H4.out.b.c 1; have b2 := H4.out.b.c 2; have b3 := H4.out.b.c 3; have b4 := H4.out.b.c 4; have b5 := H4.out.b.c 5; simp only [List.getElem?_toArray, List.getElem?_cons_zero, List.getElem?_cons_succ] at p0 p1 p2 p3 p4 p5 q0 q1 q2 q3 a0 a1 a2 a3 a4 a5 b0 b1 b2 b3 b4 b5)
            | (go_at_call_of 123 a.kind; go_must (refine (isStar_q a.kind _ _ _ _ _ _ _ _ _ HSA.out).mono ?_); rintro e w3 ⟨rfl, hb⟩; have H4 := Lib.hid (H4.out.below hb); clear hb; have p0 := H4.out.n.c 0; have p1 := H4.out.n.c 1; have p2 := H4.out.n.c 2; have p3 := H4.out.n.c 3; have p4 := H4.out.n.c 4; have p5 := H4.out.n.c 5; have q0 := H4.out.wi.c 0; have q1 := H4.out.wi.c 1; have q2 := H4.out.wi.c 2; have q3 := H4.out.wi.c 3; have a0 := H4.out.a.c 0; have a1 := H4.out.a.c 1; have a2 := H4.out.a.c 2; have a3 := H4.out.a.c 3; have a4 := H4.out.a.c 4; have a5 := H4.out.a.c 5; have b0 := H4.out.b.c 0; have b1 := H4.out.b.c 1; have b2 := H4.out.b.c 2; have b3 := H4.out.b.c 3; have b4 := H4.out.b.c 4; have b5 := H4.out.b.c 5; simp only [List.getElem?_toArray, List.getElem?_cons_zero, List.getElem?_cons_succ] at p0 p1 p2 p3 p4 p5 q0 q1 q2 q3 a0 a1 a2 a3 a4 a5 b0 b1 b2 b3 b4 b5)
            | (go_at_call_of 123 b.kind; go_must (refine (isStar_q b.kind _ _ _ _ _ _ _ _ _ HSB.out).mono ?_); rintro e w3 ⟨rfl, hb⟩; have H4 := Lib.hid (H4.out.below hb); clear hb; have p0 := H4.out.n.c 0; have p1 := H4.out.n.c 1; have p2 := H4.out.n.c 2; have p3 := H4.out.n.c 3; have p4 := H4.out.n.c 4; have p5 := H4.out.n.c 5; have q0 := H4.out.wi.c 0; have q1 := H4.out.wi.c 1; have q2 := H4.out.wi.c 2; have q3 := H4.out.wi.c 3; have a0 := H4.out.a.c 0; have a1 := H4.out.a.c 1; have a2 := H4.out.a.c 2; have a3 := H4.out.a.c 3; have a4 := H4.out.a.c 4; have a5 := H4.out.a.c 5; have b0 := H4.out.b.c 0; have b1 := H4.out.b.c 1; have b2 := H4.out.b.c 2; have b3 := H4.out.b.c 3; have b4 := H4.out.b.c 4; have b5 := H4.out.b.c 5; simp only [List.getElem?_toArray, List.getElem?_cons_zero, List.getElem?_cons_succ] at p0 p1 p2 p3 p4 p5 q0 q1 q2 q3 a0 a1 a2 a3 a4 a5 b0 b1 b2 b3 b4 b5)
            | (go_at_call 123; go_must (refine (isStar_q 15 _ _ _ _ _ _ _ true _ (by rfl)).mono ?_); rintro e w3 ⟨rfl, hb⟩; have H4 := Lib.hid (H4.out.below hb); clear hb; have p0 := H4.out.n.c 0; have p1 := H4.out.n.c 1; have p2 := H4.out.n.c 2; have p3 := H4.out.n.c 3; have p4 := H4.out.n.c 4; have p5 := H4.out.n.c 5; have q0 := H4.out.wi.c 0; have q1 := H4.out.wi.c 1; have q2 := H4.out.wi.c 2; have q3 := H4.out.wi.c 3; have a0 := H4.out.a.c 0; have a1 := H4.out.a.c 1; have a2 := H4.out.a.c 2; have a3 := H4.out.a.c 3; have a4 := H4.out.a.c 4; have a5 := H4.out.a.c 5; have b0 := H4.out.b.c 0; have b1 := H4.out.b.c 1; have b2 := H4.out.b.c 2; have b3 := H4.out.b.c 3; have b4 := H4.out.b.c 4; have b5 := H4.out.b.c 5; simp only [List.getElem?_toArray, List.getElem?_cons_zero, List.getElem?_cons_succ] at p0 p1 p2 p3 p4 p5 q0 q1 q2 q3 a0 a1 a2 a3 a4 a5 b0 b1 b2 b3 b4 b5)
            | (go_at_call 83; go_must (refine (HRec.out _ (Keeps.of_below H4.out.bel)).mono ?_); rintro e w3 ⟨rfl, hb⟩; have H4 := Lib.hid (H4.out.below hb); clear hb))
          go_ret
          exact InlRes.mk HV3.out.symm H4.out.bel
        | false =>
          have HVA := Lib.hid hva
          cases hvb : brk b.kind with
          | true =>
            have HVB := Lib.hid hvb
            obtain ⟨sa, hsa⟩ : ∃ v, star a.kind = v := ⟨_, rfl⟩
            have HSA := Lib.hid hsa
            obtain ⟨sb, hsb⟩ : ∃ v, star b.kind = v := ⟨_, rfl⟩
            have HSB := Lib.hid hsb
            have HV3 := Lib.hid (show inlN (.mk 15 lv x d t ks) em false li kd = false by rw [HV2.out, HEd.out, hva, hvb]; simp [star])
            clear hva hvb hsa hsb
            go_wp2_with (first
              | (go_at_call_of 81 a.kind; go_must (refine (isBreak_q a.kind _ _ _ _ _ _ _ _ _ HVA.out).mono ?_); rintro e w3 ⟨rfl, hb⟩; have H4 := Lib.hid (H4.out.below hb); clear hb; have p0 := H4.out.n.c 0; have p1 := H4.out.n.c 1; have p2 := H4.out.n.c 2; have p3 := H4.out.n.c 3; have p4 := H4.out.n.c 4; have p5 := H4.out.n.c 5; have q0 := H4.out.wi.c 0; have q1 := H4.out.wi.c 1; have q2 := H4.out.wi.c 2; have q3 := H4.out.wi.c 3; have a0 := H4.out.a.c 0; have a1 := H4.out.a.c 1; have a2 := H4.out.a.c 2; have a3 := H4.out.a.c 3; have a4 := H4.out.a.c 4; have a5 := H4.out.a.c 5; have b0 := H4.out.b.c 0; have b1 := H4.out.b.c 1; have b2 := H4.out.b.c 2; have b3 := H4.out.b.c 3; have b4 := H4.out.b.c 4; have b5 := H4.out.b.c 5; simp only [List.getElem?_toArray, List.getElem?_cons_zero, List.getElem?_cons_succ] at p0 p1 p2 p3 p4 p5 q0 q1 q2 q3 a0 a1 a2 a3 a4 a5 b0 b1 b2 b3 b4 b5)
              | (go_at_call_of 81 b.kind; go_must (refine (isBreak_q b.kind _ _ _ _ _ _ _ _ _ HVB.out).mono ?_); rintro e w3 ⟨rfl, hb⟩; have H4 := Lib.hid (H4.out.below hb); clear hb; have p0 := H4.out.n.c 0; have p1 := H4.out.n.c 1; have p2 := H4.out.n.c 2; have p3 := H4.out.n.c 3; have p4 := H4.out.n.c 4; have p5 := H4.out.n.c 5; have q0 := H4.out.wi.c 0; have q1 := H4.out.wi.c 1; have q2 := H4.out.wi.c 2; have q3 := H4.out.wi.c 3; have a0 := H4.out.a.c 0; have a1 := H4.out.a.c 1; have a2 := H4.out.a.c 2; have a3 := H4.out.a.c 3; have a4 := H4.out.a.c 4; have a5 := H4.out.a.c 5; have b0 := H4.out.b.c 0; have b1 := H4.out.b.c 1; have b2 := H4.out.b.c 2; have b3 := H4.out.b.c 3; have b4 := H4.out.b.c 4; have b5 := H4.out.b.c 5; simp only [List.getElem?_toArray, List.getElem?_cons_zero, List.getElem?_cons_succ] at p0 p1 p2 p3 p4 p5 q0 q1 q2 q3 a0 a1 a2 a3 a4 a5 b0 b1 b2 b3 b4 b5)
              | (go_at_call_of 123 a.kind; go_must (refine (isStar_q a.kind _ _ _ _ _ _ _ _ _ HSA.out).mono ?_); rintro e w3 ⟨rfl, hb⟩; have H4 := Lib.hid (H4.out.below hb); clear hb; have p0 := H4.out.n.c 0; have p1 := H4.out.n.c 1; have p2 := H4.out.n.c 2; have p3 := H4.out.n.c 3; have p4 := H4.out.n.c 4; have p5 := H4.out.n.c 5; have q0 := H4.out.wi.c 0; have q1 := H4.out.wi.c 1; have q2 := H4.out.wi.c 2; have q3 := H4.out.wi.c 3; have a0 := H4.out.a.c 0; have a1 := H4.out.a.c 1; have a2 := H4.out.a.c 2; have a3 := H4.out.a.c 3; have a4 := H4.out.a.c 4; have a5 := H4.out.a.c 5; have b0 := H4.out.b.c 0; have b1 := H4.out.b.c 1; have b2 := H4.out.b.c 2; have b3 := H4.out.b.c 3; have b4 := H4.out.b.c 4; have b5 := H4.out.b.c 5; simp only [List.getElem?_toArray, List.getElem?_cons_zero, List.getElem?_cons_succ] at p0 p1 p2 p3 p4 p5 q0 q1 q2 q3 a0 a1 a2 a3 a4 a5 b0 b1 b2 b3 b4 b5)
              | (go_at_call_of 123 b.kind; go_must (refine (isStar_q b.kind _ _ _ _ _ _ _ _ _ HSB.out).mono ?_); rintro e w3 ⟨rfl, hb⟩; have H4 := Lib.hid (H4.out.below hb); clear hb; have p0 := H4.out.n.c 0; have p1 := H4.out.n.c 1; have p2 := H4.out.n.c 2; have p3 := H4.out.n.c 3; have p4 := H4.out.n.c 4; have p5 := H4.out.n.c 5; have q0 := H4.out.wi.c 0; have q1 := H4.out.wi.c 1; have q2 := H4.out.wi.c 2; have q3 := H4.out.wi.c 3; have a0 := H4.out.a.c 0; have a1 := H4.out.a.c 1; have a2 := H4.out.a.c 2; have a3 := H4.out.a.c 3; have a4 := H4.out.a.c 4; have a5 := H4.out.a.c 5; have b0 := H4.out.b.c 0; have b1 := H4.out.b.c 1; have b2 := H4.out.b.c 2; have b3 := H4.out.b.c 3; have b4 := H4.out.b.c 4; have b5 := H4.out.b.c 5; simp only [List.getElem?_toArray, List.getElem?_cons_zero, List.getElem?_cons_succ] at p0 p1 p2 p3 p4 p5 q0 q1 q2 q3 a0 a1 a2 a3 a4 a5 b0 b1 b2 b3 b4 b5)
              | (go_at_call 123; go_must (refine (isStar_q 15 _ _ _ _ _ _ _ true _ (by rfl)).mono ?_); rintro e w3 ⟨rfl, hb⟩; have H4 := Lib.hid (H4.out.below hb); clear hb; have p0 := H4.out.n.c 0; have p1 := H4.out.n.c 1; have p2 := H4.out.n.c 2; have p3 := H4.out.n.c 3; have p4 := H4.out.n.c 4; have p5 := H4.out.n.c 5; have q0 := H4.out.wi.c 0; have q1 := H4.out.wi.c 1; have q2 := H4.out.wi.c 2; have q3 := H4.out.wi.c 3; have a0 := H4.out.a.c 0; have a1 := H4.out.a.c 1; have a2 := H4.out.a.c 2; have a3 := H4.out.a.c 3; have a4 := H4.out.a.c 4; have a5 := H4.out.a.c 5; have b0 := H4.out.b.c 0; have b1 := H4.out.b.c 1; have b2 := H4.out.b.c 2; have b3 := H4.out.b.c 3; have b4 := H4.out.b.c 4; have b5 := H4.out.b.c 5; simp only [List.getElem?_toArray, List.getElem?_cons_zero, List.getElem?_cons_succ] at p0 p1 p2 p3 p4 p5 q0 q1 q2 q3 a0 a1 a2 a3 a4 a5 b0 b1 b2 b3 b4 b5)
              | (go_at_call 83; go_must (refine (HRec.out _ (Keeps.of_below H4.out.bel)).mono ?_); rintro e w3 ⟨rfl, hb⟩; have H4 := Lib.hid (H4.out.below hb); clear hb))
            go_ret
            exact InlRes.mk HV3.out.symm H4.out.bel
          | false =>
            have HVB := Lib.hid hvb
            cases hsa : star a.kind with
            | true =>
              have HSA := Lib.hid hsa
              obtain ⟨sb, hsb⟩ : ∃ v, star b.kind = v := ⟨_, rfl⟩
              have HSB := Lib.hid hsb
              have HV3 := Lib.hid (show inlN (.mk 15 lv x d t ks) em false li kd = false by rw [HV2.out, HEd.out, hva, hvb, hsa]; simp [star])
              clear hva hvb hsa hsb
              go_wp2_with (first
                | (go_at_call_of 81 a.kind; go_must (refine (isBreak_q a.kind _ _ _ _ _ _ _ _ _ HVA.out).mono ?_); rintro e w3 ⟨rfl, hb⟩; have H4 := Lib.hid (H4.out.below hb); clear hb; have p0 := H4.out.n.c 0; have p1 := H4.out.n.c 1; have p2 := H4.out.n.c 2; have p3 := H4.out.n.c 3; have p4 := H4.out.n.c 4; have p5 := H4.out.n.c 5; have q0 := H4.out.wi.c 0; have q1 := H4.out.wi.c 1; have q2 := H4.out.wi.c 2; have q3 := H4.out.wi.c 3; have a0 := H4.out.a.c 0; have a1 := H4.out.a.c 1; have a2 := H4.out.a.c 2; have a3 := H4.out.a.c 3; have a4 := H4.out.a.c 4; have a5 := H4.out.a.c 5; have b0 := H4.out.b.c 0; have b1 := H4.out.b.c 1; have b2 := H4.out.b.c 2; have b3 := H4.out.b.c 3; have b4 := H4.out.b.c 4; have b5 := H4.out.b.c 5; simp only [List.getElem?_toArray, List.getElem?_cons_zero, List.getElem?_cons_succ] at p0 p1 p2 p3 p4 p5 q0 q1 q2 q3 a0 a1 a2 a3 a4 a5 b0 b1 b2 b3 b4 b5)
                | (go_at_call_of 81 b.kind; go_must (refine (isBreak_q b.kind _ _ _ _ _ _ _ _ _ HVB.out).mono ?_); rintro e w3 ⟨rfl, hb⟩; have H4 := Lib.hid (H4.out.below hb); clear hb; have p0 := H4.out.n.c 0; have p1 := H4.out.n.c 1; have p2 := H4.out.n.c 2; have p3 := H4.out.n.c 3; have p4 := H4.out.n.c 4; have p5 := H4.out.n.c 5; have q0 := H4.out.wi.c 0; have q1 := H4.out.wi.c 1; have q2 := H4.out.wi.c 2; have q3 := H4.out.wi.c 3; have a0 := H4.out.a.c 0; have a1 := H4.out.a.c 1; have a2 := H4.out.a.c 2; have a3 := H4.out.a.c 3; have a4 := H4.out.a.c 4; have a5 := H4.out.a.c 5; have b0 := H4.out.b.c 0; have b1 := H4.out.b.c 1; have b2 := H4.out.b.c 2; have b3 := H4.out.b.c 3; have b4 := H4.out.b.c 4; have b5 := H4.out.b.c 5; simp only [List.getElem?_toArray, List.getElem?_cons_zero, List.getElem?_cons_succ] at p0 p1 p2 p3 p4 p5 q0 q1 q2 q3 a0 a1 a2 a3 a4 a5 b0 b1 b2 b3 b4 b5)
                | (go_at_call_of 123 a.kind; go_must (refine (isStar_q a.kind _ _ _ _ _ _ _ _ _ HSA.out).mono ?_); rintro e w3 ⟨rfl, hb⟩; have H4 := Lib.hid (H4.out.below hb); clear hb; have p0 := H4.out.n.c 0; have p1 := H4.out.n.c 1; have p2 := H4.out.n.c 2; have p3 := H4.out.n.c 3; have p4 := H4.out.n.c 4; have p5 := H4.out.n.c 5; have q0 := H4.out.wi.c 0; have q1 := H4.out.wi.c 1; have q2 := H4.out.wi.c 2; have q3 := H4.out.wi.c 3; have a0 := H4.out.a.c 0; have a1 := H4.out.a.c 1; have a2 := H4.out.a.c 2; have a3 := H4.out.a.c 3; have a4 := H4.out.a.c 4; have a5 := H4.out.a.c 5; have b0 := H4.out.b.c 0; have b1 := H4.out.b.c 1; have b2 := H4.out.b.c 2; have b3 := H4.out.b.c 3; have b4 := H4.out.b.c 4; have b5 := H4.out.b.c 5; simp only [List.getElem?_toArray, List.getElem?_cons_zero, List.getElem?_cons_succ] at p0 p1 p2 p3 p4 p5 q0 q1 q2 q3 a0 a1 a2 a3 a4 a5 b0 b1 b2 b3 b4 b5)
                | (go_at_call_of 123 b.kind; go_must (refine (isStar_q b.kind _ _ _ _ _ _ _ _ _ HSB.out).mono ?_); rintro e w3 ⟨rfl, hb⟩; have H4 := Lib.hid (H4.out.below hb); clear hb; have p0 := H4.out.n.c 0; have p1 := H4.out.n.c 1; have p2 := H4.out.n.c 2; have p3 := H4.out.n.c 3; have p4 := H4.out.n.c 4; have p5 := H4.out.n.c 5; have q0 := H4.out.wi.c 0; have q1 := H4.out.wi.c 1; have q2 := H4.out.wi.c 2; have q3 := H4.out.wi.c 3; have a0 := H4.out.a.c 0; have a1 := H4.out.a.c 1; have a2 := H4.out.a.c 2; have a3 := H4.out.a.c 3; have a4 := H4.out.a.c 4; have a5 := H4.out.a.c 5; have b0 := H4.out.b.c 0; have b1 := H4.out.b.c 1; have b2 := H4.out.b.c 2; have b3 := H4.out.b.c 3; have b4 := H4.out.b.c 4; have b5 := H4.out.b.c 5; simp only [List.getElem?_toArray, List.getElem?_cons_zero, List.getElem?_cons_succ] at p0 p1 p2 p3 p4 p5 q0 q1 q2 q3 a0 a1 a2 a3 a4 a5 b0 b1 b2 b3 b4 b5)
                | (go_at_call 123; go_must (refine (isStar_q 15 _ _ _ _ _ _ _ true _ (by rfl)).mono ?_); rintro e w3 ⟨rfl, hb⟩; have H4 := Lib.hid (H4.out.below hb); clear hb; have p0 := H4.out.n.c 0; have p1 := H4.out.n.c 1; have p2 := H4.out.n.c 2; have p3 := H4.out.n.c 3; have p4 := H4.out.n.c 4; have p5 := H4.out.n.c 5; have q0 := H4.out.wi.c 0; have q1 := H4.out.wi.c 1; have q2 := H4.out.wi.c 2; have q3 := H4.out.wi.c 3; have a0 := H4.out.a.c 0; have a1 := H4.out.a.c 1; have a2 := H4.out.a.c 2; have a3 := H4.out.a.c 3; have a4 := H4.out.a.c 4; have a5 := H4.out.a.c 5; have b0 := H4.out.b.c 0; have b1 := H4.out.b.c 1; have b2 := H4.out.b.c 2; have b3 := H4.out.b.c 3; have b4 := H4.out.b.c 4; have b5 := H4.out.b.c 5; simp only [List.getElem?_toArray, List.getElem?_cons_zero, List.getElem?_cons_succ] at p0 p1 p2 p3 p4 p5 q0 q1 q2 q3 a0 a1 a2 a3 a4 a5 b0 b1 b2 b3 b4 b5)
                | (go_at_call 83; go_must (refine (HRec.out _ (Keeps.of_below H4.out.bel)).mono ?_); rintro e w3 ⟨rfl, hb⟩; have H4 := Lib.hid (H4.out.below hb); clear hb))
              go_ret
              exact InlRes.mk HV3.out.symm H4.out.bel
            | false =>
              have HSA := Lib.hid hsa
              cases hsb : star b.kind with
              | true =>
                have HSB := Lib.hid hsb
                have HV3 := Lib.hid (show inlN (.mk 15 lv x d t ks) em false li kd = false by rw [HV2.out, HEd.out, hva, hvb, hsa, hsb]; simp [star])
                clear hva hvb hsa hsb
                go_wp2_with (first
                  | (go_at_call_of 81 a.kind; go_must (refine (isBreak_q a.kind _ _ _ _ _ _ _ _ _ HVA.out).mono ?_); rintro e w3 ⟨rfl, hb⟩; have H4 := Lib.hid (H4.out.below hb); clear hb; have p0 := H4.out.n.c 0; have p1 := H4.out.n.c 1; have p2 := H4.out.n.c 2; have p3 := H4.out.n.c 3; have p4 := H4.out.n.c 4; have p5 := H4.out.n.c 5; have q0 := H4.out.wi.c 0; have q1 := H4.out.wi.c 1; have q2 := H4.out.wi.c 2; have q3 := H4.out.wi.c 3; have a0 := H4.out.a.c 0; have a1 := H4.out.a.c 1; have a2 := H4.out.a.c 2; have a3 := H4.out.a.c 3; have a4 := H4.out.a.c 4; have a5 := H4.out.a.c 5; have b0 := H4.out.b.c 0; have b1 := H4.out.b.c 1; have b2 := H4.out.b.c 2; have b3 := H4.out.b.c 3; have b4 := H4.out.b.c 4; have b5 := H4.out.b.c 5; simp only [List.getElem?_toArray, List.getElem?_cons_zero, List.getElem?_cons_succ] at p0 p1 p2 p3 p4 p5 q0 q1 q2 q3 a0 a1 a2 a3 a4 a5 b0 b1 b2 b3 b4 b5)
                  | (go_at_call_of 81 b.kind; go_must (refine (isBreak_q b.kind _ _ _ _ _ _ _ _ _ HVB.out).mono ?_); rintro e w3 ⟨rfl, hb⟩; have H4 := Lib.hid (H4.out.below hb); clear hb; have p0 := H4.out.n.c 0; have p1 := H4.out.n.c 1; have p2 := H4.out.n.c 2; have p3 := H4.out.n.c 3; have p4 := H4.out.n.c 4; have p5 := H4.out.n.c 5; have q0 := H4.out.wi.c 0; have q1 := H4.out.wi.c 1; have q2 := H4.out.wi.c 2; have q3 := H4.out.wi.c 3; have a0 := H4.out.a.c 0; have a1 := H4.out.a.c 1; have a2 := H4.out.a.c 2; have a3 := H4.out.a.c 3; have a4 := H4.out.a.c 4; have a5 := H4.out.a.c 5; have b0 := H4.out.b.c 0; have b1 := H4.out.b.c 1; have b2 := H4.out.b.c 2; have b3 := H4.out.b.c 3; have b4 := H4.out.b.c 4; have b5 := H4.out.b.c 5; simp only [List.getElem?_toArray, List.getElem?_cons_zero, List.getElem?_cons_succ] at p0 p1 p2 p3 p4 p5 q0 q1 q2 q3 a0 a1 a2 a3 a4 a5 b0 b1 b2 b3 b4 b5)
                  | (go_at_call_of 123 a.kind; go_must (refine (isStar_q a.kind _ _ _ _ _ _ _ _ _ HSA.out).mono ?_); rintro e w3 ⟨rfl, hb⟩; have H4 := Lib.hid (H4.out.below hb); clear hb; have p0 := H4.out.n.c 0; have p1 := H4.out.n.c 1; have p2 := H4.out.n.c 2; have p3 := H4.out.n.c 3; have p4 := H4.out.n.c 4; have p5 := H4.out.n.c 5; have q0 := H4.out.wi.c 0; have q1 := H4.out.wi.c 1; have q2 := H4.out.wi.c 2; have q3 := H4.out.wi.c 3; have a0 := H4.out.a.c 0; have a1 := H4.out.a.c 1; have a2 := H4.out.a.c 2; have a3 := H4.out.a.c 3; have a4 := H4.out.a.c 4; have a5 := H4.out.a.c 5; have b0 := H4.out.b.c 0; have b1 := H4.out.b.c 1; have b2 := H4.out.b.c 2; have b3 := H4.out.b.c 3; have b4 := H4.out.b.c 4; have b5 := H4.out.b.c 5; simp only [List.getElem?_toArray, List.getElem?_cons_zero, List.getElem?_cons_succ] at p0 p1 p2 p3 p4 p5 q0 q1 q2 q3 a0 a1 a2 a3 a4 a5 b0 b1 b2 b3 b4 b5)
                  | (go_at_call_of 123 b.kind; go_must (refine (isStar_q b.kind _ _ _ _ _ _ _ _ _ HSB.out).mono ?_); rintro e w3 ⟨rfl, hb⟩; have H4 := Lib.hid (H4.out.below hb); clear hb; have p0 := H4.out.n.c 0; have p1 := H4.out.n.c 1; have p2 := H4.out.n.c 2; have p3 := H4.out.n.c 3; have p4 := H4.out.n.c 4; have p5 := H4.out.n.c 5; have q0 := H4.out.wi.c 0; have q1 := H4.out.wi.c 1; have q2 := H4.out.wi.c 2; have q3 := H4.out.wi.c 3; have a0 := H4.out.a.c 0; have a1 := H4.out.a.c 1; have a2 := H4.out.a.c 2; have a3 := H4.out.a.c 3; have a4 := H4.out.a.c 4; have a5 := H4.out.a.c 5; have b0 := H4.out.b.c 0; have b1 := H4.out.b.c 1; have b2 := H4.out.b.c 2; have b3 := H4.out.b.c 3; have b4 := H4.out.b.c 4; have b5 := H4.out.b.c 5; simp only [List.getElem?_toArray, List.getElem?_cons_zero, List.getElem?_cons_succ] at p0 p1 p2 p3 p4 p5 q0 q1 q2 q3 a0 a1 a2 a3 a4 a5 b0 b1 b2 b3 b4 b5)
                  | (go_at_call 123; go_must (refine (isStar_q 15 _ _ _ _ _ _ _ true _ (by rfl)).mono ?_); rintro e w3 ⟨rfl, hb⟩; have H4 := Lib.hid (H4.out.below hb); clear hb; have p0 := H4.out.n.c 0; have p1 := H4.out.n.c 1; have p2 := H4.out.n.c 2; have p3 := H4.out.n.c 3; have p4 := H4.out.n.c 4; have p5 := H4.out.n.c 5; have q0 := H4.out.wi.c 0; have q1 := H4.out.wi.c 1; have q2 := H4.out.wi.c 2; have q3 := H4.out.wi.c 3; have a0 := H4.out.a.c 0; have a1 := H4.out.a.c 1; have a2 := H4.out.a.c 2; have a3 := H4.out.a.c 3; have a4 := H4.out.a.c 4; have a5 := H4.out.a.c 5; have b0 := H4.out.b.c 0; have b1 := H4.out.b.c 1; have b2 := H4.out.b.c 2; have b3 := H4.out.b.c 3; have b4 := H4.out.b.c 4; have b5 := H4.out.b.c 5; simp only [List.getElem?_toArray, List.getElem?_cons_zero, List.getElem?_cons_succ] at p0 p1 p2 p3 p4 p5 q0 q1 q2 q3 a0 a1 a2 a3 a4 a5 b0 b1 b2 b3 b4 b5)
                  | (go_at_call 83; go_must (refine (HRec.out _ (Keeps.of_below H4.out.bel)).mono ?_); rintro e w3 ⟨rfl, hb⟩; have H4 := Lib.hid (H4.out.below hb); clear hb))
                go_ret
                exact InlRes.mk HV3.out.symm H4.out.bel
              | false =>
                have HSB := Lib.hid hsb
                have HV3 := Lib.hid (show inlN (.mk 15 lv x d t ks) em false li kd = r by rw [HV2.out, HEd.out, hva, hvb, hsa, hsb]; simp [star])
                clear hva hvb hsa hsb
                go_wp2_with (first
                  | (go_at_call_of 81 a.kind; go_must (refine (isBreak_q a.kind _ _ _ _ _ _ _ _ _ HVA.out).mono ?_); rintro e w3 ⟨rfl, hb⟩; have H4 := Lib.hid (H4.out.below hb); clear hb; have p0 := H4.out.n.c 0; have p1 := H4.out.n.c 1; have p2 := H4.out.n.c 2; have p3 := H4.out.n.c 3; have p4 := H4.out.n.c 4; have p5 := H4.out.n.c 5; have q0 := H4.out.wi.c 0; have q1 := H4.out.wi.c 1; have q2 := H4.out.wi.c 2; have q3 := H4.out.wi.c 3; have a0 := H4.out.a.c 0; have a1 := H4.out.a.c 1; have a2 := H4.out.a.c 2; have a3 := H4.out.a.c 3; have a4 := H4.out.a.c 4; have a5 := H4.out.a.c 5; have b0 := H4.out.b.c 0; have b1 := H4.out.b.c 1; have b2 := H4.out.b.c 2; have b3 := H4.out.b.c 3; have b4 := H4.out.b.c 4; have b5 := H4.out.b.c 5; simp only [List.getElem?_toArray, List.getElem?_cons_zero, List.getElem?_cons_succ] at p0 p1 p2 p3 p4 p5 q0 q1 q2 q3 a0 a1 a2 a3 a4 a5 b0 b1 b2 b3 b4 b5)
                  | (go_at_call_of 81 b.kind; go_must (refine (isBreak_q b.kind _ _ _ _ _ _ _ _ _ HVB.out).mono ?_); rintro e w3 ⟨rfl, hb⟩; have H4 := Lib.hid (H4.out.below hb); clear hb; have p0 := H4.out.n.c 0; have p1 := H4.out.n.c 1; have p2 := H4.out.n.c 2; have p3 := H4.out.n.c 3; have p4 := H4.out.n.c 4; have p5 := H4.out.n.c 5; have q0 := H4.out.wi.c 0; have q1 := H4.out.wi.c 1; have q2 := H4.out.wi.c 2; have q3 := H4.out.wi.c 3; have a0 := H4.out.a.c 0; have a1 := H4.out.a.c 1; have a2 := H4.out.a.c 2; have a3 := H4.out.a.c 3; have a4 := H4.out.a.c 4; have a5 := H4.out.a.c 5; have b0 := H4.out.b.c 0; have b1 := H4.out.b.c 1; have b2 := H4.out.b.c 2; have b3 := H4.out.b.c 3; have b4 := H4.out.b.c 4; have b5 := H4.out.b.c 5; simp only [List.getElem?_toArray, List.getElem?_cons_zero, List.getElem?_cons_succ] at p0 p1 p2 p3 p4 p5 q0 q1 q2 q3 a0 a1 a2 a3 a4 a5 b0 b1 b2 b3 b4 b5)
                  | (go_at_call_of 123 a.kind; go_must (refine (isStar_q a.kind _ _ _ _ _ _ _ _ _ HSA.out).mono ?_); rintro e w3 ⟨rfl, hb⟩; have H4 := Lib.hid (H4.out.below hb); clear hb; have p0 := H4.out.n.c 0; have p1 := H4.out.n.c 1; have p2 := H4.out.n.c 2; have p3 := H4.out.n.c 3; have p4 := H4.out.n.c 4; have p5 := H4.out.n.c 5; have q0 := H4.out.wi.c 0; have q1 := H4.out.wi.c 1; have q2 := H4.out.wi.c 2; have q3 := H4.out.wi.c 3; have a0 := H4.out.a.c 0; have a1 := H4.out.a.c 1; have a2 := H4.out.a.c 2; have a3 := H4.out.a.c 3; have a4 := H4.out.a.c 4; have a5 := H4.out.a.c 5; have b0 := H4.out.b.c 0; have b1 := H4.out.b.c 1; have b2 := H4.out.b.c 2; have b3 := H4.out.b.c 3; have b4 := H4.out.b.c 4; have b5 := H4.out.b.c 5; simp only [List.getElem?_toArray, List.getElem?_cons_zero, List.getElem?_cons_succ] at p0 p1 p2 p3 p4 p5 q0 q1 q2 q3 a0 a1 a2 a3 a4 a5 b0 b1 b2 b3 b4 b5)
                  | (go_at_call_of 123 b.kind; go_must (refine (isStar_q b.kind _ _ _ _ _ _ _ _ _ HSB.out).mono ?_); rintro e w3 ⟨rfl, hb⟩; have H4 := Lib.hid (H4.out.below hb); clear hb; have p0 := H4.out.n.c 0; have p1 := H4.out.n.c 1; have p2 := H4.out.n.c 2; have p3 := H4.out.n.c 3; have p4 := H4.out.n.c 4; have p5 := H4.out.n.c 5; have q0 := H4.out.wi.c 0; have q1 := H4.out.wi.c 1; have q2 := H4.out.wi.c 2; have q3 := H4.out.wi.c 3; have a0 := H4.out.a.c 0; have a1 := H4.out.a.c 1; have a2 := H4.out.a.c 2; have a3 := H4.out.a.c 3; have a4 := H4.out.a.c 4; have a5 := H4.out.a.c 5; have b0 := H4.out.b.c 0; have b1 := H4.out.b.c 1; have b2 := H4.out.b.c 2; have b3 := H4.out.b.c 3; have b4 := H4.out.b.c 4; have b5 := H4.out.b.c 5; simp only [List.getElem?_toArray, List.getElem?_cons_zero, List.getElem?_cons_succ] at p0 p1 p2 p3 p4 p5 q0 q1 q2 q3 a0 a1 a2 a3 a4 a5 b0 b1 b2 b3 b4 b5)
                  | (go_at_call 123; go_must (refine (isStar_q 15 _ _ _ _ _ _ _ true _ (by rfl)).mono ?_); rintro e w3 ⟨rfl, hb⟩; have H4 := Lib.hid (H4.out.below hb); clear hb; have p0 := H4.out.n.c 0; have p1 := H4.out.n.c 1; have p2 := H4.out.n.c 2; have p3 := H4.out.n.c 3; have p4 := H4.out.n.c 4; have p5 := H4.out.n.c 5; have q0 := H4.out.wi.c 0; have q1 := H4.out.wi.c 1; have q2 := H4.out.wi.c 2; have q3 := H4.out.wi.c 3; have a0 := H4.out.a.c 0; have a1 := H4.out.a.c 1; have a2 := H4.out.a.c 2; have a3 := H4.out.a.c 3; have a4 := H4.out.a.c 4; have a5 := H4.out.a.c 5; have b0 := H4.out.b.c 0; have b1 := H4.out.b.c 1; have b2 := H4.out.b.c 2; have b3 := H4.out.b.c 3; have b4 := H4.out.b.c 4; have b5 := H4.out.b.c 5; simp only [List.getElem?_toArray, List.getElem?_cons_zero, List.getElem?_cons_succ] at p0 p1 p2 p3 p4 p5 q0 q1 q2 q3 a0 a1 a2 a3 a4 a5 b0 b1 b2 b3 b4 b5)
                  | (go_at_call 83; go_must (refine (HRec.out _ (Keeps.of_below H4.out.bel)).mono ?_); rintro e w3 ⟨rfl, hb⟩; have H4 := Lib.hid (H4.out.below hb); clear hb))
                go_ret
                exact InlRes.mk HV3.out.symm H4.out.bel

end Go.Proofs.YtlganccpgchmeaaDoor
