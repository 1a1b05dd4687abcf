/-
  Inlines that can be printed, by the reference: mastref1.goodInline.
-/
import Derived.Test.YtlganccpgchmeaaDoorFitMInl
namespace Go.Proofs.YtlganccpgchmeaaDoor
open Go.RowKit Go.Deep

structure TwoV (nn nv : Nat) (cn cv : Array Value) (w0 w : World) : Prop where
  n : CB w nn 31 cn
  v : CB w nv 72 cv
  bel : Below w0.heap.size w0 w
theorem TwoV.below {nn nv : Nat} {cn cv : Array Value} {w0 w w' : World} (h : TwoV nn nv cn cv w0 w) (hb : Below w.heap.size w w') : TwoV nn nv cn cv w0 w' := ⟨h.n.below hb, h.v.below hb, h.bel.trans (hb.mono h.bel.size)⟩
/-- what the reference answers of one inline -/
def rinl (n : Node) (em st li : Bool) (kd : Int) : Bool := if brk n.kind = true then true else inlN n em st li kd
/-- fields that are not used are empty -/
theorem node_unused {n : Node} {p : Int} (h : nodeErr n p = 0) : (usesT n.kind = false → n.text.data.toList = []) ∧ (usesD n.kind = false → n.dest.data.toList = []) ∧ (usesN n.kind = false → n.title.data.toList = []) := by
  unfold nodeErr at h
  by_cases h1 : permittedB n.kind p = false
  · rw [if_pos h1] at h; omega
  rw [if_neg h1] at h
  by_cases h2 : levelBad n = true
  · rw [if_pos h2] at h; omega
  rw [if_neg h2] at h
  by_cases h3 : unusedB n = true
  · rw [if_pos h3] at h; omega
  unfold unusedB at h3
  simp only [Bool.or_eq_true, not_or, Bool.and_eq_true, not_and, Bool.not_eq_true', Go.ByteArray.toList_eq] at h3
  have key : ∀ (s : List UInt8), ¬ s.isEmpty = false → s = [] := fun s hs => by cases s with | nil => rfl | cons _ _ => simp at hs
  exact ⟨fun hu => key _ (h3.1.1.1.2 hu), fun hu => key _ (h3.1.1.2 hu), fun hu => key _ (h3.1.2 hu)⟩
theorem has3 (x d t : ByteArray) : decide (0 ≤ Lib.indexByte (x ++ d ++ t).data.toList 124) = (x.data.toList.contains 124 || d.data.toList.contains 124 || t.data.toList.contains 124) := by
  rw [← Lib.contains_iff_indexByte]
  rw [show (x ++ d ++ t).data.toList = x.data.toList ++ d.data.toList ++ t.data.toList by simp]
  simp [List.contains_eq_mem, List.mem_append, Bool.decide_or, Bool.or_assoc]
def bar3 (kd : Int) (x d t : ByteArray) : Bool := barB kd x || barB kd d || barB kd t
theorem bar3_of {kd : Int} {x d t : ByteArray} {ce : Bool} (h : (kd == 10) = ce) : bar3 kd x d t = ((x.data.toList.contains 124 || d.data.toList.contains 124 || t.data.toList.contains 124) && ce) := by
  unfold bar3 barB
  rw [h]
  cases ce <;> simp

set_option maxRecDepth 100000 in
set_option maxHeartbeats 16000000 in
theorem goodInline_str (lv : Int) (x d t : ByteArray) (ks : List Node) (A : Option Addr) (c : Nat) (em st li ce ls : Bool) (kd : Int) (w : World) (hce : (kd == 10) = ce) (hsz : x.size + d.size + t.size ≤ 1073741824) :
    Calls Tryd.prog 88 #[.agg #[.int .i64 11, .int .i64 lv, .string x, .string d, .string t, .slice A ks.length c], .agg #[.bool em, .bool st, .bool li, .bool ce, .bool ls]] w (InlRes (rinl (.mk 11 lv x d t ks) em st li kd) w) := by
  have HT := Lib.hid (show TwoV w.heap.size (w.heap.size + 1) #[.int .i64 11, .int .i64 lv, .string x, .string d, .string t, .slice A ks.length c] #[.bool em, .bool st, .bool li, .bool ce, .bool ls] w ((w.alloc (.cells #[.int .i64 11, .int .i64 lv, .string x, .string d, .string t, .slice A ks.length c] 31)).alloc (.cells #[.bool em, .bool st, .bool li, .bool ce, .bool ls] 72)) from
    ⟨(CB.new w #[.int .i64 11, .int .i64 lv, .string x, .string d, .string t, .slice A ks.length c] 31).alloc _, by have := CB.new (w.alloc (.cells #[.int .i64 11, .int .i64 lv, .string x, .string d, .string t, .slice A ks.length c] 31)) #[.bool em, .bool st, .bool li, .bool ce, .bool ls] 72; rwa [World.size_alloc] at this, ((Below.refl _ _).alloc (Nat.le_refl _) _).alloc (by simp) _⟩)
  have HB3 := Lib.hid (bar3_of (kd := kd) (x := x) (d := d) (t := t) hce)
  have HC := Lib.hid (fun (s : ByteArray) (c : UInt8) W => Tryd.strings_Contains_one s c W)
  have HHa := Lib.hid (has3 x d t)
  obtain ⟨bar, hbar⟩ : ∃ b, bar3 kd x d t = b := ⟨_, rfl⟩
  have HBar := Lib.hid hbar
  have hf1 : ¬ 9223372036854775807 < x.size + d.size := by omega
  have hf2 : ¬ 9223372036854775807 < x.size + d.size + t.size := by omega
  have hf3 : ¬ 9223372036854775807 < d.size + t.size := by omega
  obtain ⟨W1, hW1⟩ : ∃ W, (w.alloc (.cells #[.int .i64 11, .int .i64 lv, .string x, .string d, .string t, .slice A ks.length c] 31)).alloc (.cells #[.bool em, .bool st, .bool li, .bool ce, .bool ls] 72) = W := ⟨_, rfl⟩
  rw [hW1] at HT
  obtain ⟨bb, hbb⟩ : ∃ b, decide (0 ≤ Lib.indexByte (x ++ d ++ t).data.toList 124) = b := ⟨_, rfl⟩
  have HBb := Lib.hid hbb
  have HBar2 := Lib.hid (show bar = (bb && ce) by rw [← HBar.out, HB3.out, ← HHa.out, hbb])
  have p0 := HT.out.n.c 0
  have p1 := HT.out.n.c 1
  have p2 := HT.out.n.c 2
  have p3 := HT.out.n.c 3
  have p4 := HT.out.n.c 4
  have p5 := HT.out.n.c 5
  have q0 := HT.out.v.c 0
  have q1 := HT.out.v.c 1
  have q2 := HT.out.v.c 2
  have q3 := HT.out.v.c 3
  have q4 := HT.out.v.c 4
  simp only [List.getElem?_toArray, List.getElem?_cons_zero, List.getElem?_cons_succ] at p0 p1 p2 p3 p4 p5 q0 q1 q2 q3 q4
  clear hbar hbb hce HB3 HHa
  go_enter Tryd.func88, Tryd.ntmps88
  go_upto_region 1 with fail
  try rw [hW1]
  clear hW1
  go_cut [5] from 9 (fun s5 wx => s5 = .bool bar ∧ wx = W1)
  case first =>
    cases bb with
    | true =>
      have hba : bar = ce := HBar2.out
      subst hba
      go_wp2_with (go_at_call 53; go_must (refine (HC.out (x ++ d ++ t) 124 _).mono ?_); rw [HBb.out]; rintro e w3 ⟨rfl, hw3⟩; obtain rfl := hw3.symm)
      go_meet
      exact ⟨rfl, rfl⟩
    | false =>
      have hba : bar = false := HBar2.out
      subst hba
      go_wp2_with (go_at_call 53; go_must (refine (HC.out (x ++ d ++ t) 124 _).mono ?_); rw [HBb.out]; rintro e w3 ⟨rfl, hw3⟩; obtain rfl := hw3.symm)
      go_meet
      exact ⟨rfl, rfl⟩
  case rest =>
    obtain ⟨rfl, rfl⟩ := hcut
    clear hf1 hf2 HBb HBar2
    by_cases h0 : 0 < x.size
    · obtain ⟨f1, f2, f3, f4⟩ := nonempty_forms h0
      have HV := Lib.hid (show rinl (.mk 11 lv x d t ks) em st li kd = true by
        show (!x.data.toList.isEmpty) = true
        rw [← Go.ByteArray.toList_eq, f3]; rfl)
      go_wp2_with fail
      go_ret
      exact InlRes.mk HV.out.symm HT.out.bel
    · obtain rfl := empty_lit h0
      have HV := Lib.hid (show rinl (.mk 11 lv ⟨#[]⟩ d t ks) em st li kd = false from rfl)
      go_wp2_with fail
      go_ret
      exact InlRes.mk HV.out.symm HT.out.bel

set_option maxRecDepth 100000 in
set_option maxHeartbeats 16000000 in
theorem goodInline_soft (lv : Int) (x d t : ByteArray) (ks : List Node) (A : Option Addr) (c : Nat) (em st li ce ls : Bool) (kd : Int) (w : World) (hce : (kd == 10) = ce) (hsz : x.size + d.size + t.size ≤ 1073741824) :
    Calls Tryd.prog 88 #[.agg #[.int .i64 12, .int .i64 lv, .string x, .string d, .string t, .slice A ks.length c], .agg #[.bool em, .bool st, .bool li, .bool ce, .bool ls]] w (InlRes (rinl (.mk 12 lv x d t ks) em st li kd) w) := by
  have HT := Lib.hid (show TwoV w.heap.size (w.heap.size + 1) #[.int .i64 12, .int .i64 lv, .string x, .string d, .string t, .slice A ks.length c] #[.bool em, .bool st, .bool li, .bool ce, .bool ls] w ((w.alloc (.cells #[.int .i64 12, .int .i64 lv, .string x, .string d, .string t, .slice A ks.length c] 31)).alloc (.cells #[.bool em, .bool st, .bool li, .bool ce, .bool ls] 72)) from
    ⟨(CB.new w #[.int .i64 12, .int .i64 lv, .string x, .string d, .string t, .slice A ks.length c] 31).alloc _, by have := CB.new (w.alloc (.cells #[.int .i64 12, .int .i64 lv, .string x, .string d, .string t, .slice A ks.length c] 31)) #[.bool em, .bool st, .bool li, .bool ce, .bool ls] 72; rwa [World.size_alloc] at this, ((Below.refl _ _).alloc (Nat.le_refl _) _).alloc (by simp) _⟩)
  have HB3 := Lib.hid (bar3_of (kd := kd) (x := x) (d := d) (t := t) hce)
  have HC := Lib.hid (fun (s : ByteArray) (c : UInt8) W => Tryd.strings_Contains_one s c W)
  have HHa := Lib.hid (has3 x d t)
  obtain ⟨bar, hbar⟩ : ∃ b, bar3 kd x d t = b := ⟨_, rfl⟩
  have HBar := Lib.hid hbar
  have hf1 : ¬ 9223372036854775807 < x.size + d.size := by omega
  have hf2 : ¬ 9223372036854775807 < x.size + d.size + t.size := by omega
  have hf3 : ¬ 9223372036854775807 < d.size + t.size := by omega
  obtain ⟨W1, hW1⟩ : ∃ W, (w.alloc (.cells #[.int .i64 12, .int .i64 lv, .string x, .string d, .string t, .slice A ks.length c] 31)).alloc (.cells #[.bool em, .bool st, .bool li, .bool ce, .bool ls] 72) = W := ⟨_, rfl⟩
  rw [hW1] at HT
  obtain ⟨bb, hbb⟩ : ∃ b, decide (0 ≤ Lib.indexByte (x ++ d ++ t).data.toList 124) = b := ⟨_, rfl⟩
  have HBb := Lib.hid hbb
  have HBar2 := Lib.hid (show bar = (bb && ce) by rw [← HBar.out, HB3.out, ← HHa.out, hbb])
  have p0 := HT.out.n.c 0
  have p1 := HT.out.n.c 1
  have p2 := HT.out.n.c 2
  have p3 := HT.out.n.c 3
  have p4 := HT.out.n.c 4
  have p5 := HT.out.n.c 5
  have q0 := HT.out.v.c 0
  have q1 := HT.out.v.c 1
  have q2 := HT.out.v.c 2
  have q3 := HT.out.v.c 3
  have q4 := HT.out.v.c 4
  simp only [List.getElem?_toArray, List.getElem?_cons_zero, List.getElem?_cons_succ] at p0 p1 p2 p3 p4 p5 q0 q1 q2 q3 q4
  clear hbar hbb hce HB3 HHa
  go_enter Tryd.func88, Tryd.ntmps88
  go_upto_region 1 with fail
  try rw [hW1]
  clear hW1
  go_cut [5] from 9 (fun s5 wx => s5 = .bool bar ∧ wx = W1)
  case first =>
    cases bb with
    | true =>
      have hba : bar = ce := HBar2.out
      subst hba
      go_wp2_with (go_at_call 53; go_must (refine (HC.out (x ++ d ++ t) 124 _).mono ?_); rw [HBb.out]; rintro e w3 ⟨rfl, hw3⟩; obtain rfl := hw3.symm)
      go_meet
      exact ⟨rfl, rfl⟩
    | false =>
      have hba : bar = false := HBar2.out
      subst hba
      go_wp2_with (go_at_call 53; go_must (refine (HC.out (x ++ d ++ t) 124 _).mono ?_); rw [HBb.out]; rintro e w3 ⟨rfl, hw3⟩; obtain rfl := hw3.symm)
      go_meet
      exact ⟨rfl, rfl⟩
  case rest =>
    obtain ⟨rfl, rfl⟩ := hcut
    clear hf1 hf2 HBb HBar2
    have HV := Lib.hid (show rinl (.mk 12 lv x d t ks) em st li kd = true from rfl)
    go_wp2_with fail
    go_ret
    exact InlRes.mk HV.out.symm HT.out.bel

set_option maxRecDepth 100000 in
set_option maxHeartbeats 16000000 in
theorem goodInline_hard (lv : Int) (x d t : ByteArray) (ks : List Node) (A : Option Addr) (c : Nat) (em st li ce ls : Bool) (kd : Int) (w : World) (hce : (kd == 10) = ce) (hsz : x.size + d.size + t.size ≤ 1073741824) :
    Calls Tryd.prog 88 #[.agg #[.int .i64 13, .int .i64 lv, .string x, .string d, .string t, .slice A ks.length c], .agg #[.bool em, .bool st, .bool li, .bool ce, .bool ls]] w (InlRes (rinl (.mk 13 lv x d t ks) em st li kd) w) := by
  have HT := Lib.hid (show TwoV w.heap.size (w.heap.size + 1) #[.int .i64 13, .int .i64 lv, .string x, .string d, .string t, .slice A ks.length c] #[.bool em, .bool st, .bool li, .bool ce, .bool ls] w ((w.alloc (.cells #[.int .i64 13, .int .i64 lv, .string x, .string d, .string t, .slice A ks.length c] 31)).alloc (.cells #[.bool em, .bool st, .bool li, .bool ce, .bool ls] 72)) from
    ⟨(CB.new w #[.int .i64 13, .int .i64 lv, .string x, .string d, .string t, .slice A ks.length c] 31).alloc _, by have := CB.new (w.alloc (.cells #[.int .i64 13, .int .i64 lv, .string x, .string d, .string t, .slice A ks.length c] 31)) #[.bool em, .bool st, .bool li, .bool ce, .bool ls] 72; rwa [World.size_alloc] at this, ((Below.refl _ _).alloc (Nat.le_refl _) _).alloc (by simp) _⟩)
  have HB3 := Lib.hid (bar3_of (kd := kd) (x := x) (d := d) (t := t) hce)
  have HC := Lib.hid (fun (s : ByteArray) (c : UInt8) W => Tryd.strings_Contains_one s c W)
  have HHa := Lib.hid (has3 x d t)
  obtain ⟨bar, hbar⟩ : ∃ b, bar3 kd x d t = b := ⟨_, rfl⟩
  have HBar := Lib.hid hbar
  have hf1 : ¬ 9223372036854775807 < x.size + d.size := by omega
  have hf2 : ¬ 9223372036854775807 < x.size + d.size + t.size := by omega
  have hf3 : ¬ 9223372036854775807 < d.size + t.size := by omega
  obtain ⟨W1, hW1⟩ : ∃ W, (w.alloc (.cells #[.int .i64 13, .int .i64 lv, .string x, .string d, .string t, .slice A ks.length c] 31)).alloc (.cells #[.bool em, .bool st, .bool li, .bool ce, .bool ls] 72) = W := ⟨_, rfl⟩
  rw [hW1] at HT
  obtain ⟨bb, hbb⟩ : ∃ b, decide (0 ≤ Lib.indexByte (x ++ d ++ t).data.toList 124) = b := ⟨_, rfl⟩
  have HBb := Lib.hid hbb
  have HBar2 := Lib.hid (show bar = (bb && ce) by rw [← HBar.out, HB3.out, ← HHa.out, hbb])
  have p0 := HT.out.n.c 0
  have p1 := HT.out.n.c 1
  have p2 := HT.out.n.c 2
  have p3 := HT.out.n.c 3
  have p4 := HT.out.n.c 4
  have p5 := HT.out.n.c 5
  have q0 := HT.out.v.c 0
  have q1 := HT.out.v.c 1
  have q2 := HT.out.v.c 2
  have q3 := HT.out.v.c 3
  have q4 := HT.out.v.c 4
  simp only [List.getElem?_toArray, List.getElem?_cons_zero, List.getElem?_cons_succ] at p0 p1 p2 p3 p4 p5 q0 q1 q2 q3 q4
  clear hbar hbb hce HB3 HHa
  go_enter Tryd.func88, Tryd.ntmps88
  go_upto_region 1 with fail
  try rw [hW1]
  clear hW1
  go_cut [5] from 9 (fun s5 wx => s5 = .bool bar ∧ wx = W1)
  case first =>
    cases bb with
    | true =>
      have hba : bar = ce := HBar2.out
      subst hba
      go_wp2_with (go_at_call 53; go_must (refine (HC.out (x ++ d ++ t) 124 _).mono ?_); rw [HBb.out]; rintro e w3 ⟨rfl, hw3⟩; obtain rfl := hw3.symm)
      go_meet
      exact ⟨rfl, rfl⟩
    | false =>
      have hba : bar = false := HBar2.out
      subst hba
      go_wp2_with (go_at_call 53; go_must (refine (HC.out (x ++ d ++ t) 124 _).mono ?_); rw [HBb.out]; rintro e w3 ⟨rfl, hw3⟩; obtain rfl := hw3.symm)
      go_meet
      exact ⟨rfl, rfl⟩
  case rest =>
    obtain ⟨rfl, rfl⟩ := hcut
    clear hf1 hf2 HBb HBar2
    have HV := Lib.hid (show rinl (.mk 13 lv x d t ks) em st li kd = true from rfl)
    go_wp2_with fail
    go_ret
    exact InlRes.mk HV.out.symm HT.out.bel

set_option maxRecDepth 100000 in
set_option maxHeartbeats 16000000 in
theorem goodInline_code (lv : Int) (x d t : ByteArray) (ks : List Node) (A : Option Addr) (c : Nat) (em st li ce ls : Bool) (kd : Int) (w : World) (hce : (kd == 10) = ce) (hsz : x.size + d.size + t.size ≤ 1073741824) (he : d.data.toList = [] ∧ t.data.toList = []) :
    Calls Tryd.prog 88 #[.agg #[.int .i64 16, .int .i64 lv, .string x, .string d, .string t, .slice A ks.length c], .agg #[.bool em, .bool st, .bool li, .bool ce, .bool ls]] w (InlRes (rinl (.mk 16 lv x d t ks) em st li kd) w) := by
  have HT := Lib.hid (show TwoV w.heap.size (w.heap.size + 1) #[.int .i64 16, .int .i64 lv, .string x, .string d, .string t, .slice A ks.length c] #[.bool em, .bool st, .bool li, .bool ce, .bool ls] w ((w.alloc (.cells #[.int .i64 16, .int .i64 lv, .string x, .string d, .string t, .slice A ks.length c] 31)).alloc (.cells #[.bool em, .bool st, .bool li, .bool ce, .bool ls] 72)) from
    ⟨(CB.new w #[.int .i64 16, .int .i64 lv, .string x, .string d, .string t, .slice A ks.length c] 31).alloc _, by have := CB.new (w.alloc (.cells #[.int .i64 16, .int .i64 lv, .string x, .string d, .string t, .slice A ks.length c] 31)) #[.bool em, .bool st, .bool li, .bool ce, .bool ls] 72; rwa [World.size_alloc] at this, ((Below.refl _ _).alloc (Nat.le_refl _) _).alloc (by simp) _⟩)
  have HB3 := Lib.hid (bar3_of (kd := kd) (x := x) (d := d) (t := t) hce)
  have HC := Lib.hid (fun (s : ByteArray) (c : UInt8) W => Tryd.strings_Contains_one s c W)
  have HHa := Lib.hid (has3 x d t)
  obtain ⟨bar, hbar⟩ : ∃ b, bar3 kd x d t = b := ⟨_, rfl⟩
  have HBar := Lib.hid hbar
  have hf1 : ¬ 9223372036854775807 < x.size + d.size := by omega
  have hf2 : ¬ 9223372036854775807 < x.size + d.size + t.size := by omega
  have hf3 : ¬ 9223372036854775807 < d.size + t.size := by omega
  obtain ⟨W1, hW1⟩ : ∃ W, (w.alloc (.cells #[.int .i64 16, .int .i64 lv, .string x, .string d, .string t, .slice A ks.length c] 31)).alloc (.cells #[.bool em, .bool st, .bool li, .bool ce, .bool ls] 72) = W := ⟨_, rfl⟩
  rw [hW1] at HT
  obtain ⟨bb, hbb⟩ : ∃ b, decide (0 ≤ Lib.indexByte (x ++ d ++ t).data.toList 124) = b := ⟨_, rfl⟩
  have HBb := Lib.hid hbb
  have HBar2 := Lib.hid (show bar = (bb && ce) by rw [← HBar.out, HB3.out, ← HHa.out, hbb])
  have p0 := HT.out.n.c 0
  have p1 := HT.out.n.c 1
  have p2 := HT.out.n.c 2
  have p3 := HT.out.n.c 3
  have p4 := HT.out.n.c 4
  have p5 := HT.out.n.c 5
  have q0 := HT.out.v.c 0
  have q1 := HT.out.v.c 1
  have q2 := HT.out.v.c 2
  have q3 := HT.out.v.c 3
  have q4 := HT.out.v.c 4
  simp only [List.getElem?_toArray, List.getElem?_cons_zero, List.getElem?_cons_succ] at p0 p1 p2 p3 p4 p5 q0 q1 q2 q3 q4
  clear hbar hbb hce HB3 HHa
  go_enter Tryd.func88, Tryd.ntmps88
  go_upto_region 1 with fail
  try rw [hW1]
  clear hW1
  go_cut [5] from 9 (fun s5 wx => s5 = .bool bar ∧ wx = W1)
  case first =>
    cases bb with
    | true =>
      have hba : bar = ce := HBar2.out
      subst hba
      go_wp2_with (go_at_call 53; go_must (refine (HC.out (x ++ d ++ t) 124 _).mono ?_); rw [HBb.out]; rintro e w3 ⟨rfl, hw3⟩; obtain rfl := hw3.symm)
      go_meet
      exact ⟨rfl, rfl⟩
    | false =>
      have hba : bar = false := HBar2.out
      subst hba
      go_wp2_with (go_at_call 53; go_must (refine (HC.out (x ++ d ++ t) 124 _).mono ?_); rw [HBb.out]; rintro e w3 ⟨rfl, hw3⟩; obtain rfl := hw3.symm)
      go_meet
      exact ⟨rfl, rfl⟩
  case rest =>
    obtain ⟨rfl, rfl⟩ := hcut
    clear hf1 hf2 HBb HBar2
    have HV := Lib.hid (show rinl (.mk 16 lv x d t ks) em st li kd = (!x.data.toList.isEmpty && !x.data.toList.contains 96 && !bar) by
      have h1 : bar = barB kd x := by
        rw [← HBar.out]; unfold bar3
        rw [show barB kd d = false by unfold barB; rw [he.1]; simp, show barB kd t = false by unfold barB; rw [he.2]; simp]
        simp
      rw [h1]; rfl)
    by_cases h0 : 0 < x.size
    · obtain ⟨f1, f2, f3, f4⟩ := nonempty_forms h0
      have HE := Lib.hid (show x.data.toList.isEmpty = false by rw [← Go.ByteArray.toList_eq]; exact f3)
      obtain ⟨cc, hcc⟩ : ∃ b, decide (0 ≤ Lib.indexByte x.data.toList 96) = b := ⟨_, rfl⟩
      have HCc := Lib.hid hcc
      have HV2 := Lib.hid (show rinl (.mk 16 lv x d t ks) em st li kd = (!cc && !bar) by rw [HV.out, HE.out, Lib.contains_iff_indexByte, hcc]; simp)
      clear hcc he
      cases cc with
      | true =>
        go_wp2_with (go_at_call 53; go_must (refine (HC.out x 96 _).mono ?_); rw [HCc.out]; rintro e w3 ⟨rfl, hw3⟩; obtain rfl := hw3.symm)
        go_ret
        exact InlRes.mk HV2.out.symm HT.out.bel
      | false =>
        go_wp2_with (go_at_call 53; go_must (refine (HC.out x 96 _).mono ?_); rw [HCc.out]; rintro e w3 ⟨rfl, hw3⟩; obtain rfl := hw3.symm)
        go_ret
        exact InlRes.mk HV2.out.symm HT.out.bel
    · obtain rfl := empty_lit h0
      have HV2 := Lib.hid (show rinl (.mk 16 lv ⟨#[]⟩ d t ks) em st li kd = false by rw [HV.out]; rfl)
      clear h0 he
      go_wp2_with fail
      go_ret
      exact InlRes.mk HV2.out.symm HT.out.bel

set_option maxRecDepth 100000 in
set_option maxHeartbeats 16000000 in
theorem goodInline_image (lv : Int) (x d t : ByteArray) (ks : List Node) (A : Option Addr) (c : Nat) (em st li ce ls : Bool) (kd : Int) (w : World) (hce : (kd == 10) = ce) (hsz : x.size + d.size + t.size ≤ 1073741824) :
    Calls Tryd.prog 88 #[.agg #[.int .i64 18, .int .i64 lv, .string x, .string d, .string t, .slice A ks.length c], .agg #[.bool em, .bool st, .bool li, .bool ce, .bool ls]] w (InlRes (rinl (.mk 18 lv x d t ks) em st li kd) w) := by
  have HT := Lib.hid (show TwoV w.heap.size (w.heap.size + 1) #[.int .i64 18, .int .i64 lv, .string x, .string d, .string t, .slice A ks.length c] #[.bool em, .bool st, .bool li, .bool ce, .bool ls] w ((w.alloc (.cells #[.int .i64 18, .int .i64 lv, .string x, .string d, .string t, .slice A ks.length c] 31)).alloc (.cells #[.bool em, .bool st, .bool li, .bool ce, .bool ls] 72)) from
    ⟨(CB.new w #[.int .i64 18, .int .i64 lv, .string x, .string d, .string t, .slice A ks.length c] 31).alloc _, by have := CB.new (w.alloc (.cells #[.int .i64 18, .int .i64 lv, .string x, .string d, .string t, .slice A ks.length c] 31)) #[.bool em, .bool st, .bool li, .bool ce, .bool ls] 72; rwa [World.size_alloc] at this, ((Below.refl _ _).alloc (Nat.le_refl _) _).alloc (by simp) _⟩)
  have HB3 := Lib.hid (bar3_of (kd := kd) (x := x) (d := d) (t := t) hce)
  have HC := Lib.hid (fun (s : ByteArray) (c : UInt8) W => Tryd.strings_Contains_one s c W)
  have HHa := Lib.hid (has3 x d t)
  obtain ⟨bar, hbar⟩ : ∃ b, bar3 kd x d t = b := ⟨_, rfl⟩
  have HBar := Lib.hid hbar
  have hf1 : ¬ 9223372036854775807 < x.size + d.size := by omega
  have hf2 : ¬ 9223372036854775807 < x.size + d.size + t.size := by omega
  have hf3 : ¬ 9223372036854775807 < d.size + t.size := by omega
  obtain ⟨W1, hW1⟩ : ∃ W, (w.alloc (.cells #[.int .i64 18, .int .i64 lv, .string x, .string d, .string t, .slice A ks.length c] 31)).alloc (.cells #[.bool em, .bool st, .bool li, .bool ce, .bool ls] 72) = W := ⟨_, rfl⟩
  rw [hW1] at HT
  obtain ⟨bb, hbb⟩ : ∃ b, decide (0 ≤ Lib.indexByte (x ++ d ++ t).data.toList 124) = b := ⟨_, rfl⟩
  have HBb := Lib.hid hbb
  have HBar2 := Lib.hid (show bar = (bb && ce) by rw [← HBar.out, HB3.out, ← HHa.out, hbb])
  have p0 := HT.out.n.c 0
  have p1 := HT.out.n.c 1
  have p2 := HT.out.n.c 2
  have p3 := HT.out.n.c 3
  have p4 := HT.out.n.c 4
  have p5 := HT.out.n.c 5
  have q0 := HT.out.v.c 0
  have q1 := HT.out.v.c 1
  have q2 := HT.out.v.c 2
  have q3 := HT.out.v.c 3
  have q4 := HT.out.v.c 4
  simp only [List.getElem?_toArray, List.getElem?_cons_zero, List.getElem?_cons_succ] at p0 p1 p2 p3 p4 p5 q0 q1 q2 q3 q4
  clear hbar hbb hce HB3 HHa
  go_enter Tryd.func88, Tryd.ntmps88
  go_upto_region 1 with fail
  try rw [hW1]
  clear hW1
  go_cut [5] from 9 (fun s5 wx => s5 = .bool bar ∧ wx = W1)
  case first =>
    cases bb with
    | true =>
      have hba : bar = ce := HBar2.out
      subst hba
      go_wp2_with (go_at_call 53; go_must (refine (HC.out (x ++ d ++ t) 124 _).mono ?_); rw [HBb.out]; rintro e w3 ⟨rfl, hw3⟩; obtain rfl := hw3.symm)
      go_meet
      exact ⟨rfl, rfl⟩
    | false =>
      have hba : bar = false := HBar2.out
      subst hba
      go_wp2_with (go_at_call 53; go_must (refine (HC.out (x ++ d ++ t) 124 _).mono ?_); rw [HBb.out]; rintro e w3 ⟨rfl, hw3⟩; obtain rfl := hw3.symm)
      go_meet
      exact ⟨rfl, rfl⟩
  case rest =>
    obtain ⟨rfl, rfl⟩ := hcut
    clear hf1 hf2 HBb HBar2
    have HCa := Lib.hid (fun W => containsAny_q ⟨#[91, 93, 96]⟩ rfl (by decide) (d ++ t) (by rw [ByteArray.size_append]; omega) W)
    obtain ⟨va, hva⟩ : ∃ va, tgtR d t = va := ⟨_, rfl⟩
    obtain ⟨vc, hvc⟩ : ∃ vc, linkC d t = vc := ⟨_, rfl⟩
    have HVa := Lib.hid hva
    have HVc := Lib.hid ((link_any d t).trans hvc)
    have HV := Lib.hid (show rinl (.mk 18 lv x d t ks) em st li kd = (va && !bar && !(li && vc)) by
      show (!(li && linkC d t) && (tgtR d t && !barB kd d && !barB kd t) && !barB kd x) = _
      rw [hva, hvc, ← HBar.out]; unfold bar3
      cases va <;> cases vc <;> cases li <;> cases barB kd x <;> cases barB kd d <;> cases barB kd t <;> rfl)
    clear hva hvc
    cases va with
    | false =>
      have HV2 := Lib.hid (HV.out.trans (by rfl : _ = false))
      go_wp2_with (first
        | (go_at_call 106; go_must (refine (goodTarget_r _ lv x d t _ _ _ false _ HVa.out (by omega) (by omega)).mono ?_); rintro e w3 ⟨rfl, hb⟩; have HT := Lib.hid (HT.out.below hb); clear hb; have p0 := HT.out.n.c 0; have p1 := HT.out.n.c 1; have p2 := HT.out.n.c 2; have p3 := HT.out.n.c 3; have p4 := HT.out.n.c 4; have p5 := HT.out.n.c 5; have q0 := HT.out.v.c 0; have q1 := HT.out.v.c 1; have q2 := HT.out.v.c 2; have q3 := HT.out.v.c 3; have q4 := HT.out.v.c 4; simp only [List.getElem?_toArray, List.getElem?_cons_zero, List.getElem?_cons_succ] at p0 p1 p2 p3 p4 p5 q0 q1 q2 q3 q4))
      go_ret
      exact InlRes.mk HV2.out.symm HT.out.bel
    | true =>
      cases bar with
      | true =>
        have HV2 := Lib.hid (HV.out.trans (by rfl : _ = false))
        go_wp2_with (first
          | (go_at_call 106; go_must (refine (goodTarget_r _ lv x d t _ _ _ true _ HVa.out (by omega) (by omega)).mono ?_); rintro e w3 ⟨rfl, hb⟩; have HT := Lib.hid (HT.out.below hb); clear hb; have p0 := HT.out.n.c 0; have p1 := HT.out.n.c 1; have p2 := HT.out.n.c 2; have p3 := HT.out.n.c 3; have p4 := HT.out.n.c 4; have p5 := HT.out.n.c 5; have q0 := HT.out.v.c 0; have q1 := HT.out.v.c 1; have q2 := HT.out.v.c 2; have q3 := HT.out.v.c 3; have q4 := HT.out.v.c 4; simp only [List.getElem?_toArray, List.getElem?_cons_zero, List.getElem?_cons_succ] at p0 p1 p2 p3 p4 p5 q0 q1 q2 q3 q4))
        go_ret
        exact InlRes.mk HV2.out.symm HT.out.bel
      | false =>
        cases li with
        | false =>
          have HV2 := Lib.hid (HV.out.trans (by rfl : _ = true))
          go_wp2_with (first
            | (go_at_call 106; go_must (refine (goodTarget_r _ lv x d t _ _ _ true _ HVa.out (by omega) (by omega)).mono ?_); rintro e w3 ⟨rfl, hb⟩; have HT := Lib.hid (HT.out.below hb); clear hb; have p0 := HT.out.n.c 0; have p1 := HT.out.n.c 1; have p2 := HT.out.n.c 2; have p3 := HT.out.n.c 3; have p4 := HT.out.n.c 4; have p5 := HT.out.n.c 5; have q0 := HT.out.v.c 0; have q1 := HT.out.v.c 1; have q2 := HT.out.v.c 2; have q3 := HT.out.v.c 3; have q4 := HT.out.v.c 4; simp only [List.getElem?_toArray, List.getElem?_cons_zero, List.getElem?_cons_succ] at p0 p1 p2 p3 p4 p5 q0 q1 q2 q3 q4))
          go_ret
          exact InlRes.mk HV2.out.symm HT.out.bel
        | true =>
          have HV2 := Lib.hid (HV.out.trans (by rfl : _ = !vc))
          go_wp2_with (first
            | (go_at_call 106; go_must (refine (goodTarget_r _ lv x d t _ _ _ true _ HVa.out (by omega) (by omega)).mono ?_); rintro e w3 ⟨rfl, hb⟩; have HT := Lib.hid (HT.out.below hb); clear hb; have p0 := HT.out.n.c 0; have p1 := HT.out.n.c 1; have p2 := HT.out.n.c 2; have p3 := HT.out.n.c 3; have p4 := HT.out.n.c 4; have p5 := HT.out.n.c 5; have q0 := HT.out.v.c 0; have q1 := HT.out.v.c 1; have q2 := HT.out.v.c 2; have q3 := HT.out.v.c 3; have q4 := HT.out.v.c 4; simp only [List.getElem?_toArray, List.getElem?_cons_zero, List.getElem?_cons_succ] at p0 p1 p2 p3 p4 p5 q0 q1 q2 q3 q4)
            | (go_at_call 107; go_must (refine (HCa.out _).mono ?_); rw [HVc.out]; rintro e w3 ⟨rfl, hb⟩; have HT := Lib.hid (HT.out.below hb); clear hb))
          go_ret
          exact InlRes.mk HV2.out.symm HT.out.bel

set_option maxRecDepth 100000 in
set_option maxHeartbeats 16000000 in
theorem goodInline_emph (lv : Int) (x d t : ByteArray) (ks : List Node) (A : Option Addr) (c : Nat) (em st li ce ls : Bool) (kd : Int) (w : World) (hce : (kd == 10) = ce) (hsz : x.size + d.size + t.size ≤ 1073741824) (h : NodesAt w (.slice A ks.length c) ks)
    (hrec : ∀ (em st li : Bool) (W : World), Keeps w W → Calls Tryd.prog 60 #[.slice A ks.length c, .int .i64 14, .agg #[.bool em, .bool st, .bool li, .bool ce, .bool ls]] W (InlRes (edgeB 14 ks && inlL ks none em st li kd) W)) :
    Calls Tryd.prog 88 #[.agg #[.int .i64 14, .int .i64 lv, .string x, .string d, .string t, .slice A ks.length c], .agg #[.bool em, .bool st, .bool li, .bool ce, .bool ls]] w (InlRes (rinl (.mk 14 lv x d t ks) em st li kd) w) := by
  have HT := Lib.hid (show TwoV w.heap.size (w.heap.size + 1) #[.int .i64 14, .int .i64 lv, .string x, .string d, .string t, .slice A ks.length c] #[.bool em, .bool st, .bool li, .bool ce, .bool ls] w ((w.alloc (.cells #[.int .i64 14, .int .i64 lv, .string x, .string d, .string t, .slice A ks.length c] 31)).alloc (.cells #[.bool em, .bool st, .bool li, .bool ce, .bool ls] 72)) from
    ⟨(CB.new w #[.int .i64 14, .int .i64 lv, .string x, .string d, .string t, .slice A ks.length c] 31).alloc _, by have := CB.new (w.alloc (.cells #[.int .i64 14, .int .i64 lv, .string x, .string d, .string t, .slice A ks.length c] 31)) #[.bool em, .bool st, .bool li, .bool ce, .bool ls] 72; rwa [World.size_alloc] at this, ((Below.refl _ _).alloc (Nat.le_refl _) _).alloc (by simp) _⟩)
  have HB3 := Lib.hid (bar3_of (kd := kd) (x := x) (d := d) (t := t) hce)
  have HC := Lib.hid (fun (s : ByteArray) (c : UInt8) W => Tryd.strings_Contains_one s c W)
  have HHa := Lib.hid (has3 x d t)
  obtain ⟨bar, hbar⟩ : ∃ b, bar3 kd x d t = b := ⟨_, rfl⟩
  have HBar := Lib.hid hbar
  have hf1 : ¬ 9223372036854775807 < x.size + d.size := by omega
  have hf2 : ¬ 9223372036854775807 < x.size + d.size + t.size := by omega
  have hf3 : ¬ 9223372036854775807 < d.size + t.size := by omega
  obtain ⟨W1, hW1⟩ : ∃ W, (w.alloc (.cells #[.int .i64 14, .int .i64 lv, .string x, .string d, .string t, .slice A ks.length c] 31)).alloc (.cells #[.bool em, .bool st, .bool li, .bool ce, .bool ls] 72) = W := ⟨_, rfl⟩
  rw [hW1] at HT
  obtain ⟨bb, hbb⟩ : ∃ b, decide (0 ≤ Lib.indexByte (x ++ d ++ t).data.toList 124) = b := ⟨_, rfl⟩
  have HBb := Lib.hid hbb
  have HBar2 := Lib.hid (show bar = (bb && ce) by rw [← HBar.out, HB3.out, ← HHa.out, hbb])
  have p0 := HT.out.n.c 0
  have p1 := HT.out.n.c 1
  have p2 := HT.out.n.c 2
  have p3 := HT.out.n.c 3
  have p4 := HT.out.n.c 4
  have p5 := HT.out.n.c 5
  have q0 := HT.out.v.c 0
  have q1 := HT.out.v.c 1
  have q2 := HT.out.v.c 2
  have q3 := HT.out.v.c 3
  have q4 := HT.out.v.c 4
  simp only [List.getElem?_toArray, List.getElem?_cons_zero, List.getElem?_cons_succ] at p0 p1 p2 p3 p4 p5 q0 q1 q2 q3 q4
  clear hbar hbb hce HB3 HHa
  go_enter Tryd.func88, Tryd.ntmps88
  go_upto_region 1 with fail
  try rw [hW1]
  clear hW1
  go_cut [5] from 9 (fun s5 wx => s5 = .bool bar ∧ wx = W1)
  case first =>
    cases bb with
    | true =>
      have hba : bar = ce := HBar2.out
      subst hba
      go_wp2_with (go_at_call 53; go_must (refine (HC.out (x ++ d ++ t) 124 _).mono ?_); rw [HBb.out]; rintro e w3 ⟨rfl, hw3⟩; obtain rfl := hw3.symm)
      go_meet
      exact ⟨rfl, rfl⟩
    | false =>
      have hba : bar = false := HBar2.out
      subst hba
      go_wp2_with (go_at_call 53; go_must (refine (HC.out (x ++ d ++ t) 124 _).mono ?_); rw [HBb.out]; rintro e w3 ⟨rfl, hw3⟩; obtain rfl := hw3.symm)
      go_meet
      exact ⟨rfl, rfl⟩
  case rest =>
    obtain ⟨rfl, rfl⟩ := hcut
    clear hf1 hf2 HBb HBar2
    have HV := Lib.hid (show rinl (.mk 14 lv x d t ks) em st li kd = (!em && (!ks.isEmpty && edgeB 14 ks && inlL ks none true st li kd)) from rfl)
    have bn := HT.out.n.lt
    have bv := HT.out.v.lt
    cases em with
    | true =>
      have HV2 := Lib.hid (HV.out.trans (by rfl : _ = false))
      go_wp2_with fail
      go_ret
      exact InlRes.mk HV2.out.symm (HT.out.bel.alloc HT.out.bel.size _)
    | false =>
      by_cases hke : ks.length = 0
      · have HV2 := Lib.hid (show rinl (.mk 14 lv x d t ks) false st li kd = false by rw [HV.out]; have : ks = [] := List.length_eq_zero_iff.1 hke; rw [this]; simp)
        have hkz : decide (0 < (ks.length : Int)) = false := by rw [hke]; rfl
        have hkz2 : ¬ 0 < ks.length := by omega
        clear hke
        go_wp2_with (first
          | fail)
        go_ret
        exact InlRes.mk HV2.out.symm (by first | exact HT.out.bel | exact HT.out.bel.alloc HT.out.bel.size _)
      · have hkz : decide (0 < (ks.length : Int)) = true := by simp; omega
        have hkz2 : 0 < ks.length := by omega
        have hrec2 := hrec true st li
        obtain ⟨r, hr⟩ : ∃ r, (edgeB 14 ks && inlL ks none true st li kd) = r := ⟨_, rfl⟩
        have HR := Lib.hid hr
        have HRec := Lib.hid hrec2
        have HV2 := Lib.hid (show rinl (.mk 14 lv x d t ks) false st li kd = r by
          rw [HV.out, ← hr]
          cases ks with
          | nil => simp at hkz2
          | cons _ _ => simp)
        clear hrec hrec2 hr hke h
        go_wp2_with (first
          | fail
          | (go_at_call 60; go_must (refine (HRec.out _ (Keeps.of_below (by first | exact HT.out.bel | exact HT.out.bel.alloc HT.out.bel.size _))).mono ?_); rw [HR.out]; rintro e w3 ⟨rfl, hb⟩; have HBf := Lib.hid ((show Below w.heap.size w _ by first | exact HT.out.bel | exact HT.out.bel.alloc HT.out.bel.size _).trans (hb.mono (show Below w.heap.size w _ by first | exact HT.out.bel | exact HT.out.bel.alloc HT.out.bel.size _).size)); clear hb))
        go_ret
        exact InlRes.mk HV2.out.symm HBf.out

set_option maxRecDepth 100000 in
set_option maxHeartbeats 16000000 in
theorem goodInline_strong (lv : Int) (x d t : ByteArray) (ks : List Node) (A : Option Addr) (c : Nat) (em st li ce ls : Bool) (kd : Int) (w : World) (hce : (kd == 10) = ce) (hsz : x.size + d.size + t.size ≤ 1073741824) (h : NodesAt w (.slice A ks.length c) ks)
    (hrec : ∀ (em st li : Bool) (W : World), Keeps w W → Calls Tryd.prog 60 #[.slice A ks.length c, .int .i64 15, .agg #[.bool em, .bool st, .bool li, .bool ce, .bool ls]] W (InlRes (edgeB 15 ks && inlL ks none em st li kd) W)) :
    Calls Tryd.prog 88 #[.agg #[.int .i64 15, .int .i64 lv, .string x, .string d, .string t, .slice A ks.length c], .agg #[.bool em, .bool st, .bool li, .bool ce, .bool ls]] w (InlRes (rinl (.mk 15 lv x d t ks) em st li kd) w) := by
  have HT := Lib.hid (show TwoV w.heap.size (w.heap.size + 1) #[.int .i64 15, .int .i64 lv, .string x, .string d, .string t, .slice A ks.length c] #[.bool em, .bool st, .bool li, .bool ce, .bool ls] w ((w.alloc (.cells #[.int .i64 15, .int .i64 lv, .string x, .string d, .string t, .slice A ks.length c] 31)).alloc (.cells #[.bool em, .bool st, .bool li, .bool ce, .bool ls] 72)) from
    ⟨(CB.new w #[.int .i64 15, .int .i64 lv, .string x, .string d, .string t, .slice A ks.length c] 31).alloc _, by have := CB.new (w.alloc (.cells #[.int .i64 15, .int .i64 lv, .string x, .string d, .string t, .slice A ks.length c] 31)) #[.bool em, .bool st, .bool li, .bool ce, .bool ls] 72; rwa [World.size_alloc] at this, ((Below.refl _ _).alloc (Nat.le_refl _) _).alloc (by simp) _⟩)
  have HB3 := Lib.hid (bar3_of (kd := kd) (x := x) (d := d) (t := t) hce)
  have HC := Lib.hid (fun (s : ByteArray) (c : UInt8) W => Tryd.strings_Contains_one s c W)
  have HHa := Lib.hid (has3 x d t)
  obtain ⟨bar, hbar⟩ : ∃ b, bar3 kd x d t = b := ⟨_, rfl⟩
  have HBar := Lib.hid hbar
  have hf1 : ¬ 9223372036854775807 < x.size + d.size := by omega
  have hf2 : ¬ 9223372036854775807 < x.size + d.size + t.size := by omega
  have hf3 : ¬ 9223372036854775807 < d.size + t.size := by omega
  obtain ⟨W1, hW1⟩ : ∃ W, (w.alloc (.cells #[.int .i64 15, .int .i64 lv, .string x, .string d, .string t, .slice A ks.length c] 31)).alloc (.cells #[.bool em, .bool st, .bool li, .bool ce, .bool ls] 72) = W := ⟨_, rfl⟩
  rw [hW1] at HT
  obtain ⟨bb, hbb⟩ : ∃ b, decide (0 ≤ Lib.indexByte (x ++ d ++ t).data.toList 124) = b := ⟨_, rfl⟩
  have HBb := Lib.hid hbb
  have HBar2 := Lib.hid (show bar = (bb && ce) by rw [← HBar.out, HB3.out, ← HHa.out, hbb])
  have p0 := HT.out.n.c 0
  have p1 := HT.out.n.c 1
  have p2 := HT.out.n.c 2
  have p3 := HT.out.n.c 3
  have p4 := HT.out.n.c 4
  have p5 := HT.out.n.c 5
  have q0 := HT.out.v.c 0
  have q1 := HT.out.v.c 1
  have q2 := HT.out.v.c 2
  have q3 := HT.out.v.c 3
  have q4 := HT.out.v.c 4
  simp only [List.getElem?_toArray, List.getElem?_cons_zero, List.getElem?_cons_succ] at p0 p1 p2 p3 p4 p5 q0 q1 q2 q3 q4
  clear hbar hbb hce HB3 HHa
  go_enter Tryd.func88, Tryd.ntmps88
  go_upto_region 1 with fail
  try rw [hW1]
  clear hW1
  go_cut [5] from 9 (fun s5 wx => s5 = .bool bar ∧ wx = W1)
  case first =>
    cases bb with
    | true =>
      have hba : bar = ce := HBar2.out
      subst hba
      go_wp2_with (go_at_call 53; go_must (refine (HC.out (x ++ d ++ t) 124 _).mono ?_); rw [HBb.out]; rintro e w3 ⟨rfl, hw3⟩; obtain rfl := hw3.symm)
      go_meet
      exact ⟨rfl, rfl⟩
    | false =>
      have hba : bar = false := HBar2.out
      subst hba
      go_wp2_with (go_at_call 53; go_must (refine (HC.out (x ++ d ++ t) 124 _).mono ?_); rw [HBb.out]; rintro e w3 ⟨rfl, hw3⟩; obtain rfl := hw3.symm)
      go_meet
      exact ⟨rfl, rfl⟩
  case rest =>
    obtain ⟨rfl, rfl⟩ := hcut
    clear hf1 hf2 HBb HBar2
    have HV := Lib.hid (show rinl (.mk 15 lv x d t ks) em st li kd = (!st && (!ks.isEmpty && edgeB 15 ks && inlL ks none em true li kd)) from rfl)
    have bn := HT.out.n.lt
    have bv := HT.out.v.lt
    cases st with
    | true =>
      have HV2 := Lib.hid (HV.out.trans (by rfl : _ = false))
      go_wp2_with fail
      go_ret
      exact InlRes.mk HV2.out.symm (HT.out.bel.alloc HT.out.bel.size _)
    | false =>
      by_cases hke : ks.length = 0
      · have HV2 := Lib.hid (show rinl (.mk 15 lv x d t ks) em false li kd = false by rw [HV.out]; have : ks = [] := List.length_eq_zero_iff.1 hke; rw [this]; simp)
        have hkz : decide (0 < (ks.length : Int)) = false := by rw [hke]; rfl
        have hkz2 : ¬ 0 < ks.length := by omega
        clear hke
        go_wp2_with (first
          | fail)
        go_ret
        exact InlRes.mk HV2.out.symm (by first | exact HT.out.bel | exact HT.out.bel.alloc HT.out.bel.size _)
      · have hkz : decide (0 < (ks.length : Int)) = true := by simp; omega
        have hkz2 : 0 < ks.length := by omega
        have hrec2 := hrec em true li
        obtain ⟨r, hr⟩ : ∃ r, (edgeB 15 ks && inlL ks none em true li kd) = r := ⟨_, rfl⟩
        have HR := Lib.hid hr
        have HRec := Lib.hid hrec2
        have HV2 := Lib.hid (show rinl (.mk 15 lv x d t ks) em false li kd = r by
          rw [HV.out, ← hr]
          cases ks with
          | nil => simp at hkz2
          | cons _ _ => simp)
        clear hrec hrec2 hr hke h
        go_wp2_with (first
          | fail
          | (go_at_call 60; go_must (refine (HRec.out _ (Keeps.of_below (by first | exact HT.out.bel | exact HT.out.bel.alloc HT.out.bel.size _))).mono ?_); rw [HR.out]; rintro e w3 ⟨rfl, hb⟩; have HBf := Lib.hid ((show Below w.heap.size w _ by first | exact HT.out.bel | exact HT.out.bel.alloc HT.out.bel.size _).trans (hb.mono (show Below w.heap.size w _ by first | exact HT.out.bel | exact HT.out.bel.alloc HT.out.bel.size _).size)); clear hb))
        go_ret
        exact InlRes.mk HV2.out.symm HBf.out

set_option maxRecDepth 100000 in
set_option maxHeartbeats 16000000 in
theorem goodInline_link (lv : Int) (x d t : ByteArray) (ks : List Node) (A : Option Addr) (c : Nat) (em st li ce ls : Bool) (kd : Int) (w : World) (hce : (kd == 10) = ce) (hsz : x.size + d.size + t.size ≤ 1073741824) (he : x.data.toList = []) (h : NodesAt w (.slice A ks.length c) ks)
    (hrec : ∀ (em st li : Bool) (W : World), Keeps w W → Calls Tryd.prog 60 #[.slice A ks.length c, .int .i64 17, .agg #[.bool em, .bool st, .bool li, .bool ce, .bool ls]] W (InlRes (edgeB 17 ks && inlL ks none em st li kd) W)) :
    Calls Tryd.prog 88 #[.agg #[.int .i64 17, .int .i64 lv, .string x, .string d, .string t, .slice A ks.length c], .agg #[.bool em, .bool st, .bool li, .bool ce, .bool ls]] w (InlRes (rinl (.mk 17 lv x d t ks) em st li kd) w) := by
  have HT := Lib.hid (show TwoV w.heap.size (w.heap.size + 1) #[.int .i64 17, .int .i64 lv, .string x, .string d, .string t, .slice A ks.length c] #[.bool em, .bool st, .bool li, .bool ce, .bool ls] w ((w.alloc (.cells #[.int .i64 17, .int .i64 lv, .string x, .string d, .string t, .slice A ks.length c] 31)).alloc (.cells #[.bool em, .bool st, .bool li, .bool ce, .bool ls] 72)) from
    ⟨(CB.new w #[.int .i64 17, .int .i64 lv, .string x, .string d, .string t, .slice A ks.length c] 31).alloc _, by have := CB.new (w.alloc (.cells #[.int .i64 17, .int .i64 lv, .string x, .string d, .string t, .slice A ks.length c] 31)) #[.bool em, .bool st, .bool li, .bool ce, .bool ls] 72; rwa [World.size_alloc] at this, ((Below.refl _ _).alloc (Nat.le_refl _) _).alloc (by simp) _⟩)
  have HB3 := Lib.hid (bar3_of (kd := kd) (x := x) (d := d) (t := t) hce)
  have HC := Lib.hid (fun (s : ByteArray) (c : UInt8) W => Tryd.strings_Contains_one s c W)
  have HHa := Lib.hid (has3 x d t)
  obtain ⟨bar, hbar⟩ : ∃ b, bar3 kd x d t = b := ⟨_, rfl⟩
  have HBar := Lib.hid hbar
  have hf1 : ¬ 9223372036854775807 < x.size + d.size := by omega
  have hf2 : ¬ 9223372036854775807 < x.size + d.size + t.size := by omega
  have hf3 : ¬ 9223372036854775807 < d.size + t.size := by omega
  obtain ⟨W1, hW1⟩ : ∃ W, (w.alloc (.cells #[.int .i64 17, .int .i64 lv, .string x, .string d, .string t, .slice A ks.length c] 31)).alloc (.cells #[.bool em, .bool st, .bool li, .bool ce, .bool ls] 72) = W := ⟨_, rfl⟩
  rw [hW1] at HT
  obtain ⟨bb, hbb⟩ : ∃ b, decide (0 ≤ Lib.indexByte (x ++ d ++ t).data.toList 124) = b := ⟨_, rfl⟩
  have HBb := Lib.hid hbb
  have HBar2 := Lib.hid (show bar = (bb && ce) by rw [← HBar.out, HB3.out, ← HHa.out, hbb])
  have p0 := HT.out.n.c 0
  have p1 := HT.out.n.c 1
  have p2 := HT.out.n.c 2
  have p3 := HT.out.n.c 3
  have p4 := HT.out.n.c 4
  have p5 := HT.out.n.c 5
  have q0 := HT.out.v.c 0
  have q1 := HT.out.v.c 1
  have q2 := HT.out.v.c 2
  have q3 := HT.out.v.c 3
  have q4 := HT.out.v.c 4
  simp only [List.getElem?_toArray, List.getElem?_cons_zero, List.getElem?_cons_succ] at p0 p1 p2 p3 p4 p5 q0 q1 q2 q3 q4
  clear hbar hbb hce HB3 HHa
  go_enter Tryd.func88, Tryd.ntmps88
  go_upto_region 1 with fail
  try rw [hW1]
  clear hW1
  go_cut [5] from 9 (fun s5 wx => s5 = .bool bar ∧ wx = W1)
  case first =>
    cases bb with
    | true =>
      have hba : bar = ce := HBar2.out
      subst hba
      go_wp2_with (go_at_call 53; go_must (refine (HC.out (x ++ d ++ t) 124 _).mono ?_); rw [HBb.out]; rintro e w3 ⟨rfl, hw3⟩; obtain rfl := hw3.symm)
      go_meet
      exact ⟨rfl, rfl⟩
    | false =>
      have hba : bar = false := HBar2.out
      subst hba
      go_wp2_with (go_at_call 53; go_must (refine (HC.out (x ++ d ++ t) 124 _).mono ?_); rw [HBb.out]; rintro e w3 ⟨rfl, hw3⟩; obtain rfl := hw3.symm)
      go_meet
      exact ⟨rfl, rfl⟩
  case rest =>
    obtain ⟨rfl, rfl⟩ := hcut
    clear hf1 hf2 HBb HBar2
    obtain ⟨va, hva⟩ : ∃ va, tgtR d t = va := ⟨_, rfl⟩
    have HVa := Lib.hid hva
    have HV := Lib.hid (show rinl (.mk 17 lv x d t ks) em st li kd = (!li && va && !bar && (!ks.isEmpty && edgeB 17 ks && inlL ks none em st true kd)) by
      have hx : barB kd x = false := by unfold barB; rw [he]; simp
      show (!li && (tgtR d t && !barB kd d && !barB kd t) && (!ks.isEmpty && edgeB 17 ks && inlL ks none em st true kd)) = _
      rw [hva, ← HBar.out]; unfold bar3
      rw [hx]
      cases va <;> cases li <;> cases barB kd d <;> cases barB kd t <;> rfl)
    clear hva he
    have bn := HT.out.n.lt
    have bv := HT.out.v.lt
    have HVx := Lib.hid (CB.new wc #[.bool em, .bool st, .bool true, .bool ce, .bool ls] 72)
    have HT := Lib.hid (HT.out.below ((Below.refl _ _).alloc (Nat.le_refl _) (.cells #[.bool em, .bool st, .bool true, .bool ce, .bool ls] 72)))
    cases li with
    | true =>
      have HV2 := Lib.hid (HV.out.trans (by rfl : _ = false))
      go_wp2_with fail
      go_ret
      exact InlRes.mk HV2.out.symm HT.out.bel
    | false =>
      cases va with
      | false =>
        have HV2 := Lib.hid (HV.out.trans (by rfl : _ = false))
        go_wp2_with (first
          | (go_at_call 106; go_must (refine (goodTarget_r _ lv x d t _ _ _ false _ HVa.out (by omega) (by omega)).mono ?_); rintro e w3 ⟨rfl, hb⟩; have HT := Lib.hid (HT.out.below hb); clear hb; have p0 := HT.out.n.c 0; have p1 := HT.out.n.c 1; have p2 := HT.out.n.c 2; have p3 := HT.out.n.c 3; have p4 := HT.out.n.c 4; have p5 := HT.out.n.c 5; have q0 := HT.out.v.c 0; have q1 := HT.out.v.c 1; have q2 := HT.out.v.c 2; have q3 := HT.out.v.c 3; have q4 := HT.out.v.c 4; simp only [List.getElem?_toArray, List.getElem?_cons_zero, List.getElem?_cons_succ] at p0 p1 p2 p3 p4 p5 q0 q1 q2 q3 q4))
        go_ret
        exact InlRes.mk HV2.out.symm HT.out.bel
      | true =>
        cases bar with
        | true =>
          have HV2 := Lib.hid (HV.out.trans (by rfl : _ = false))
          go_wp2_with (first
            | (go_at_call 106; go_must (refine (goodTarget_r _ lv x d t _ _ _ true _ HVa.out (by omega) (by omega)).mono ?_); rintro e w3 ⟨rfl, hb⟩; have HT := Lib.hid (HT.out.below hb); clear hb; have p0 := HT.out.n.c 0; have p1 := HT.out.n.c 1; have p2 := HT.out.n.c 2; have p3 := HT.out.n.c 3; have p4 := HT.out.n.c 4; have p5 := HT.out.n.c 5; have q0 := HT.out.v.c 0; have q1 := HT.out.v.c 1; have q2 := HT.out.v.c 2; have q3 := HT.out.v.c 3; have q4 := HT.out.v.c 4; simp only [List.getElem?_toArray, List.getElem?_cons_zero, List.getElem?_cons_succ] at p0 p1 p2 p3 p4 p5 q0 q1 q2 q3 q4))
          go_ret
          exact InlRes.mk HV2.out.symm HT.out.bel
        | false =>
          by_cases hke : ks.length = 0
          · have HV2 := Lib.hid (show rinl (.mk 17 lv x d t ks) em st false kd = false by rw [HV.out]; have : ks = [] := List.length_eq_zero_iff.1 hke; rw [this]; simp)
            have hkz : decide (0 < (ks.length : Int)) = false := by rw [hke]; rfl
            have hkz2 : ¬ 0 < ks.length := by omega
            clear hke
            go_wp2_with (first
              | (go_at_call 106; go_must (refine (goodTarget_r _ lv x d t _ _ _ true _ HVa.out (by omega) (by omega)).mono ?_); rintro e w3 ⟨rfl, hb⟩; have HT := Lib.hid (HT.out.below hb); have HVx := Lib.hid (HVx.out.below hb); have x0 := HVx.out.c 0; have x1 := HVx.out.c 1; have x2 := HVx.out.c 2; have x3 := HVx.out.c 3; have x4 := HVx.out.c 4; simp only [List.getElem?_toArray, List.getElem?_cons_zero, List.getElem?_cons_succ] at x0 x1 x2 x3 x4; clear hb; have p0 := HT.out.n.c 0; have p1 := HT.out.n.c 1; have p2 := HT.out.n.c 2; have p3 := HT.out.n.c 3; have p4 := HT.out.n.c 4; have p5 := HT.out.n.c 5; have q0 := HT.out.v.c 0; have q1 := HT.out.v.c 1; have q2 := HT.out.v.c 2; have q3 := HT.out.v.c 3; have q4 := HT.out.v.c 4; simp only [List.getElem?_toArray, List.getElem?_cons_zero, List.getElem?_cons_succ] at p0 p1 p2 p3 p4 p5 q0 q1 q2 q3 q4))
            go_ret
            exact InlRes.mk HV2.out.symm (by first | exact HT.out.bel | exact HT.out.bel.alloc HT.out.bel.size _)
          · have hkz : decide (0 < (ks.length : Int)) = true := by simp; omega
            have hkz2 : 0 < ks.length := by omega
            have hrec2 := hrec em st true
            obtain ⟨r, hr⟩ : ∃ r, (edgeB 17 ks && inlL ks none em st true kd) = r := ⟨_, rfl⟩
            have HR := Lib.hid hr
            have HRec := Lib.hid hrec2
            have HV2 := Lib.hid (show rinl (.mk 17 lv x d t ks) em st false kd = r by
              rw [HV.out, ← hr]
              cases ks with
              | nil => simp at hkz2
              | cons _ _ => simp)
            clear hrec hrec2 hr hke h
            go_wp2_with (first
              | (go_at_call 106; go_must (refine (goodTarget_r _ lv x d t _ _ _ true _ HVa.out (by omega) (by omega)).mono ?_); rintro e w3 ⟨rfl, hb⟩; have HT := Lib.hid (HT.out.below hb); have HVx := Lib.hid (HVx.out.below hb); have x0 := HVx.out.c 0; have x1 := HVx.out.c 1; have x2 := HVx.out.c 2; have x3 := HVx.out.c 3; have x4 := HVx.out.c 4; simp only [List.getElem?_toArray, List.getElem?_cons_zero, List.getElem?_cons_succ] at x0 x1 x2 x3 x4; clear hb; have p0 := HT.out.n.c 0; have p1 := HT.out.n.c 1; have p2 := HT.out.n.c 2; have p3 := HT.out.n.c 3; have p4 := HT.out.n.c 4; have p5 := HT.out.n.c 5; have q0 := HT.out.v.c 0; have q1 := HT.out.v.c 1; have q2 := HT.out.v.c 2; have q3 := HT.out.v.c 3; have q4 := HT.out.v.c 4; simp only [List.getElem?_toArray, List.getElem?_cons_zero, List.getElem?_cons_succ] at p0 p1 p2 p3 p4 p5 q0 q1 q2 q3 q4)
              | (go_at_call 60; go_must (refine (HRec.out _ (Keeps.of_below (by first | exact HT.out.bel | exact HT.out.bel.alloc HT.out.bel.size _))).mono ?_); rw [HR.out]; rintro e w3 ⟨rfl, hb⟩; have HBf := Lib.hid ((show Below w.heap.size w _ by first | exact HT.out.bel | exact HT.out.bel.alloc HT.out.bel.size _).trans (hb.mono (show Below w.heap.size w _ by first | exact HT.out.bel | exact HT.out.bel.alloc HT.out.bel.size _).size)); clear hb))
            go_ret
            exact InlRes.mk HV2.out.symm HBf.out

end Go.Proofs.YtlganccpgchmeaaDoor
