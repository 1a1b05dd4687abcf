/-
  Addresses and titles that can be printed: mark's barless, inDest, inTitle, target; mastref1.goodTarget.
-/
import Derived.Test.YtlganccpgchmeaaDoorFitSmall
namespace Go.Proofs.YtlganccpgchmeaaDoor
open Go.RowKit Go.Deep

theorem u8_ne {c : UInt8} {n : Nat} (h : n < 256) (hc : c ≠ UInt8.ofNat n) : ((c.toNat : Int) == (n : Int)) = false := by
  rw [beq_eq_false_iff_ne]
  intro e
  apply hc
  apply UInt8.toNat_inj.1
  rw [UInt8.toNat_ofNat']
  omega
theorem bar_idx (s : ByteArray) : decide (Lib.indexByte s.data.toList 124 < 0) = !s.data.toList.contains 124 := by
  rw [Lib.contains_iff_indexByte]
  by_cases h : 0 ≤ Lib.indexByte s.data.toList 124
  · simp [h]
  · simp [h]; omega
set_option maxHeartbeats 1000000 in
theorem barless_q (em st li : Bool) (kd : Int) (s : ByteArray) (v : Bool) (w : World) (h : (!barB kd s) = v) : Calls Tryd.prog 124 #[.agg #[.bool em, .bool st, .bool li, .int .i64 kd], .string s] w fun e w' => e = .returned (.bool v) ∧ Below w.heap.size w w' := by
  have HB0 := Lib.hid ((Below.refl w.heap.size w).alloc (Nat.le_refl _) (.cells #[.bool em, .bool st, .bool li, .int .i64 kd] 86))
  have HI := Lib.hid (fun W => Tryd.strings_IndexByte s 124 W)
  by_cases h0 : kd = 10
  · subst h0
    obtain ⟨ix, hix⟩ : ∃ ix, Lib.indexByte s.data.toList 124 = ix := ⟨_, rfl⟩
    have hd : decide (ix < 0) = v := by
      rw [← hix, bar_idx, ← h]; rfl
    have HIx := Lib.hid (show Lib.indexByte s.data.toList ((124 : Int).toNat.toUInt8) = ix from hix)
    clear h hix
    go_enter Tryd.func124, Tryd.ntmps124
    go_wp2_with (go_at_call 101; go_must (refine (HI.out _).mono ?_); rw [HIx.out]; rintro e w3 ⟨rfl, hw3⟩; obtain rfl := hw3.symm)
    go_ret
    exact ⟨rfl, HB0.out⟩
  · have t1 : (kd == 10) = false := by simp; omega
    have t2 : (kd != 10) = true := by simp; omega
    have hv : v = true := by rw [← h]; unfold barB; rw [t1]; rfl
    subst hv
    clear h h0
    go_enter Tryd.func124, Tryd.ntmps124
    go_wp2_with fail
    go_ret
    exact ⟨rfl, HB0.out⟩
set_option maxHeartbeats 1000000 in
theorem inDest_q (c : UInt8) (v : Bool) (w : World) (h : inD c = v) : Calls Tryd.prog 135 #[.int .u8 c.toNat] w fun e w' => e = .returned (.bool v) ∧ w' = w := by
  subst h
  by_cases h40 : c = UInt8.ofNat 40
  · subst h40
    go_enter Tryd.func135, Tryd.ntmps135
    go_wp2_with fail
    go_ret
    exact ⟨rfl, rfl⟩
  by_cases h41 : c = UInt8.ofNat 41
  · subst h41
    go_enter Tryd.func135, Tryd.ntmps135
    go_wp2_with fail
    go_ret
    exact ⟨rfl, rfl⟩
  by_cases h34 : c = UInt8.ofNat 34
  · subst h34
    go_enter Tryd.func135, Tryd.ntmps135
    go_wp2_with fail
    go_ret
    exact ⟨rfl, rfl⟩
  by_cases h92 : c = UInt8.ofNat 92
  · subst h92
    go_enter Tryd.func135, Tryd.ntmps135
    go_wp2_with fail
    go_ret
    exact ⟨rfl, rfl⟩
  have t40 := u8_ne (by decide) h40
  have n40 : ((c.toNat : Int) != (40 : Int)) = true := by simp only [bne, Bool.not_eq_true']; exact t40
  have t41 := u8_ne (by decide) h41
  have n41 : ((c.toNat : Int) != (41 : Int)) = true := by simp only [bne, Bool.not_eq_true']; exact t41
  have t34 := u8_ne (by decide) h34
  have n34 : ((c.toNat : Int) != (34 : Int)) = true := by simp only [bne, Bool.not_eq_true']; exact t34
  have t92 := u8_ne (by decide) h92
  have n92 : ((c.toNat : Int) != (92 : Int)) = true := by simp only [bne, Bool.not_eq_true']; exact t92
  by_cases hg : 32 < c.toNat
  · have hgi : decide ((32 : Int) < (c.toNat : Int)) = true := decide_eq_true (by omega)
    have HV := Lib.hid (show inD c = true by unfold inD; rw [decide_eq_true hg, (show (c != 40) = true by simp only [bne, Bool.not_eq_true', beq_eq_false_iff_ne]; exact h40), (show (c != 41) = true by simp only [bne, Bool.not_eq_true', beq_eq_false_iff_ne]; exact h41), (show (c != 34) = true by simp only [bne, Bool.not_eq_true', beq_eq_false_iff_ne]; exact h34), (show (c != 92) = true by simp only [bne, Bool.not_eq_true', beq_eq_false_iff_ne]; exact h92)]; rfl)
    clear hg h40 h41 h34 h92
    go_enter Tryd.func135, Tryd.ntmps135
    go_wp2_with fail
    go_ret
    exact ⟨ret_bool HV.out.symm, rfl⟩
  · have hgi : decide ((32 : Int) < (c.toNat : Int)) = false := decide_eq_false (by omega)
    have HV := Lib.hid (show inD c = false by unfold inD; rw [decide_eq_false hg]; rfl)
    clear hg h40 h41 h34 h92
    go_enter Tryd.func135, Tryd.ntmps135
    go_wp2_with fail
    go_ret
    exact ⟨ret_bool HV.out.symm, rfl⟩
set_option maxHeartbeats 1000000 in
theorem inTitle_q (c : UInt8) (v : Bool) (w : World) (h : inT c = v) : Calls Tryd.prog 136 #[.int .u8 c.toNat] w fun e w' => e = .returned (.bool v) ∧ w' = w := by
  subst h
  by_cases h34 : c = UInt8.ofNat 34
  · subst h34
    go_enter Tryd.func136, Tryd.ntmps136
    go_wp2_with fail
    go_ret
    exact ⟨rfl, rfl⟩
  by_cases h92 : c = UInt8.ofNat 92
  · subst h92
    go_enter Tryd.func136, Tryd.ntmps136
    go_wp2_with fail
    go_ret
    exact ⟨rfl, rfl⟩
  by_cases h10 : c = UInt8.ofNat 10
  · subst h10
    go_enter Tryd.func136, Tryd.ntmps136
    go_wp2_with fail
    go_ret
    exact ⟨rfl, rfl⟩
  have t34 := u8_ne (by decide) h34
  have n34 : ((c.toNat : Int) != (34 : Int)) = true := by simp only [bne, Bool.not_eq_true']; exact t34
  have t92 := u8_ne (by decide) h92
  have n92 : ((c.toNat : Int) != (92 : Int)) = true := by simp only [bne, Bool.not_eq_true']; exact t92
  have t10 := u8_ne (by decide) h10
  have n10 : ((c.toNat : Int) != (10 : Int)) = true := by simp only [bne, Bool.not_eq_true']; exact t10
  have HV := Lib.hid (show inT c = true by unfold inT; rw [(show (c != 34) = true by simp only [bne, Bool.not_eq_true', beq_eq_false_iff_ne]; exact h34), (show (c != 92) = true by simp only [bne, Bool.not_eq_true', beq_eq_false_iff_ne]; exact h92), (show (c != 10) = true by simp only [bne, Bool.not_eq_true', beq_eq_false_iff_ne]; exact h10)]; rfl)
  clear h34 h92 h10
  go_enter Tryd.func136, Tryd.ntmps136
  go_wp2_with fail
  go_ret
  exact ⟨ret_bool HV.out.symm, rfl⟩

structure TwoW (n1 n2 : Nat) (c1 c2 : Array Value) (w0 w : World) : Prop where
  a : CB w n1 86 c1
  b : CB w n2 31 c2
  bel : Below w0.heap.size w0 w
theorem TwoW.below {n1 n2 : Nat} {c1 c2 : Array Value} {w0 w w' : World} (h : TwoW n1 n2 c1 c2 w0 w) (hb : Below w.heap.size w w') : TwoW n1 n2 c1 c2 w0 w' := ⟨h.a.below hb, h.b.below hb, h.bel.trans (hb.mono h.bel.size)⟩
theorem all_false {l : List UInt8} {p : UInt8 → Bool} {k : Nat} {c : UInt8} (hc : l[k]? = some c) (hp : p c = false) : l.all p = false := by
  rw [List.all_eq_false]; exact ⟨c, List.mem_of_getElem? hc, by rw [hp]; simp⟩
theorem all_true {l : List UInt8} {p : UInt8 → Bool} (h : ∀ (j : Nat) (c : UInt8), j < l.length → l[j]? = some c → p c = true) : l.all p = true := by
  rw [List.all_eq_true]
  intro c hc
  obtain ⟨j, hj⟩ := List.mem_iff_getElem?.1 hc
  exact h j c (List.getElem?_eq_some_iff.1 hj).1 hj
theorem byte_get {s : ByteArray} {k : Nat} (h : k < s.size) : s.data.toList[k]? = some (s[k]'h) := by
  rw [List.getElem?_eq_some_iff]
  exact ⟨by rw [size_toList]; exact h, by rw [Array.getElem_toList]; rfl⟩
theorem inT_cs (c : UInt8) : inT c = !([34, 92, 10] : List UInt8).contains c := by
  simp only [inT, List.contains, List.elem, bne]
  cases c == 34 <;> cases c == 92 <;> cases c == 10 <;> rfl
theorem inD_cs (c : UInt8) (h : 32 < c.toNat) : inD c = !([40, 41, 34, 92] : List UInt8).contains c := by
  simp only [inD, List.contains, List.elem, bne, decide_eq_true h]
  cases c == 40 <;> cases c == 41 <;> cases c == 34 <;> cases c == 92 <;> rfl
theorem any_all : ∀ (l : List UInt8), (!l.any (fun c => ([34, 92, 10] : List UInt8).contains c)) = l.all inT
  | [] => rfl
  | c :: r => by rw [List.any_cons, List.all_cons, ← any_all r, inT_cs, Bool.not_or]
def tgtR (d t : ByteArray) : Bool := !d.data.toList.isEmpty && d.data.toList.all inD && t.data.toList.all inT
theorem tgtB_tgtR (d t : ByteArray) (kd : Int) : tgtB d t kd = (tgtR d t && !barB kd d && !barB kd t) := rfl

set_option maxRecDepth 100000 in
set_option maxHeartbeats 8000000 in
theorem target_q (em st li : Bool) (kd : Int) (k lv : Int) (x d t : ByteArray) (A : Option Addr) (n c : Nat) (v : Bool) (w : World) (h : tgtB d t kd = v) (hd : d.size ≤ 1073741824) (ht : t.size ≤ 1073741824) : Calls Tryd.prog 125 #[.agg #[.bool em, .bool st, .bool li, .int .i64 kd], .agg #[.int .i64 k, .int .i64 lv, .string x, .string d, .string t, .slice A n c]] w fun e w' => e = .returned (.bool v) ∧ Below w.heap.size w w' := by
  have HV := Lib.hid h
  have HT := Lib.hid (show TwoW w.heap.size (w.heap.size + 1) #[.bool em, .bool st, .bool li, .int .i64 kd] #[.int .i64 k, .int .i64 lv, .string x, .string d, .string t, .slice A n c] w ((w.alloc (.cells #[.bool em, .bool st, .bool li, .int .i64 kd] 86)).alloc (.cells #[.int .i64 k, .int .i64 lv, .string x, .string d, .string t, .slice A n c] 31)) from
    ⟨(CB.new w #[.bool em, .bool st, .bool li, .int .i64 kd] 86).alloc _, by have := CB.new (w.alloc (.cells #[.bool em, .bool st, .bool li, .int .i64 kd] 86)) #[.int .i64 k, .int .i64 lv, .string x, .string d, .string t, .slice A n c] 31; rwa [World.size_alloc] at this, ((Below.refl _ _).alloc (Nat.le_refl _) _).alloc (by simp) _⟩)
  clear h
  go_enter Tryd.func125, Tryd.ntmps125
  go_wp2_with fail
  go_loopw [5] (fun t5 wr => ∃ j : Nat, j ≤ d.size ∧ t5 = .int .i64 j ∧ Hid (∀ (i : Nat) (b : UInt8), i < j → d.data.toList[i]? = some b → inD b = true) ∧ Hid (TwoW w.heap.size (w.heap.size + 1) #[.bool em, .bool st, .bool li, .int .i64 kd] #[.int .i64 k, .int .i64 lv, .string x, .string d, .string t, .slice A n c] w wr)) (fun t _ => d.size - (intOf t).toNat)
  case atStart => exact ⟨0, Nat.zero_le _, rfl, Lib.hid (fun i b hi => absurd hi (by omega)), HT⟩
  case round =>
    clear HT
    obtain ⟨j, hj, rfl, HOk, HT⟩ := hrel
    have p0 := HT.out.b.c 0
    have p1 := HT.out.b.c 1
    have p2 := HT.out.b.c 2
    have p3 := HT.out.b.c 3
    have p4 := HT.out.b.c 4
    have p5 := HT.out.b.c 5
    have q0 := HT.out.a.c 0
    have q1 := HT.out.a.c 1
    have q2 := HT.out.a.c 2
    have q3 := HT.out.a.c 3
    simp only [List.getElem?_toArray, List.getElem?_cons_zero, List.getElem?_cons_succ] at p0 p1 p2 p3 p4 p5 q0 q1 q2 q3
    by_cases hlt : j < d.size
    · obtain ⟨b, hb⟩ : ∃ b, d[j]'hlt = b := ⟨_, rfl⟩
      have hbs := byte_get hlt
      rw [hb] at hbs
      have HBs := Lib.hid hbs
      clear hbs
      cases hi : inD b with
      | true =>
        have HIn := Lib.hid hi
        clear hi
        go_wp2_with (go_at_call 135; go_must (refine (inDest_q b true _ HIn.out).mono ?_); rintro e w3 ⟨rfl, hw3⟩; obtain rfl := hw3.symm)
        go_roundw
        case rel => exact ⟨j + 1, by omega, by go_num, Lib.hid (fun i b' h1 h2 => by
          rcases Nat.lt_succ_iff_lt_or_eq.1 h1 with h3 | rfl
          · exact HOk.out i b' h3 h2
          · rw [HBs.out] at h2; cases h2; exact HIn.out), HT⟩
        case measure => simp [intOf]; omega
      | false =>
        have HIn := Lib.hid hi
        have hvf : v = false := by
          rw [← HV.out, tgtB_tgtR, tgtR, all_false HBs.out hi]
          simp
        subst hvf
        clear hi
        go_wp2_with (go_at_call 135; go_must (refine (inDest_q b false _ HIn.out).mono ?_); rintro e w3 ⟨rfl, hw3⟩; obtain rfl := hw3.symm)
        go_ret
        exact ⟨rfl, HT.out.bel⟩
    · have HD := Lib.hid (show d.data.toList.all inD = true from all_true (fun i b h1 h2 => HOk.out i b (by rw [size_toList] at h1; omega) h2))
      clear HOk
      go_wp2_with fail
      clear p0 p1 p2 p3 p4 p5 q0 q1 q2 q3
      go_loopw [6] (fun t6 wr2 => ∃ j2 : Nat, j2 ≤ t.size ∧ t6 = .int .i64 j2 ∧ Hid (∀ (i : Nat) (b : UInt8), i < j2 → t.data.toList[i]? = some b → inT b = true) ∧ Hid (TwoW w.heap.size (w.heap.size + 1) #[.bool em, .bool st, .bool li, .int .i64 kd] #[.int .i64 k, .int .i64 lv, .string x, .string d, .string t, .slice A n c] w wr2)) (fun t6 _ => t.size - (intOf t6).toNat)
      case atStart => exact ⟨0, Nat.zero_le _, rfl, Lib.hid (fun i b hi => absurd hi (by omega)), HT⟩
      case round =>
        clear HT
        obtain ⟨j2, hj2, rfl, HOk, HT⟩ := hrel
        have p0 := HT.out.b.c 0
        have p1 := HT.out.b.c 1
        have p2 := HT.out.b.c 2
        have p3 := HT.out.b.c 3
        have p4 := HT.out.b.c 4
        have p5 := HT.out.b.c 5
        have q0 := HT.out.a.c 0
        have q1 := HT.out.a.c 1
        have q2 := HT.out.a.c 2
        have q3 := HT.out.a.c 3
        simp only [List.getElem?_toArray, List.getElem?_cons_zero, List.getElem?_cons_succ] at p0 p1 p2 p3 p4 p5 q0 q1 q2 q3
        by_cases hlt2 : j2 < t.size
        · obtain ⟨b, hb⟩ : ∃ b, t[j2]'hlt2 = b := ⟨_, rfl⟩
          have hbs := byte_get hlt2
          rw [hb] at hbs
          have HBs := Lib.hid hbs
          clear hbs
          cases hi : inT b with
          | true =>
            have HIn := Lib.hid hi
            clear hi
            go_wp2_with (go_at_call 136; go_must (refine (inTitle_q b true _ HIn.out).mono ?_); rintro e w3 ⟨rfl, hw3⟩; obtain rfl := hw3.symm)
            go_roundw
            case rel => exact ⟨j2 + 1, by omega, by go_num, Lib.hid (fun i b' h1 h2 => by
              rcases Nat.lt_succ_iff_lt_or_eq.1 h1 with h3 | rfl
              · exact HOk.out i b' h3 h2
              · rw [HBs.out] at h2; cases h2; exact HIn.out), HT⟩
            case measure => simp [intOf]; omega
          | false =>
            have HIn := Lib.hid hi
            have hvf : v = false := by
              rw [← HV.out, tgtB_tgtR, tgtR, all_false HBs.out hi]
              simp
            subst hvf
            clear hi
            go_wp2_with (go_at_call 136; go_must (refine (inTitle_q b false _ HIn.out).mono ?_); rintro e w3 ⟨rfl, hw3⟩; obtain rfl := hw3.symm)
            go_ret
            exact ⟨rfl, HT.out.bel⟩
        · have HTi := Lib.hid (show t.data.toList.all inT = true from all_true (fun i b h1 h2 => HOk.out i b (by rw [size_toList] at h1; omega) h2))
          clear HOk
          obtain ⟨va, hva⟩ : ∃ va, (!barB kd d) = va := ⟨_, rfl⟩
          obtain ⟨vb, hvb⟩ : ∃ vb, (!barB kd t) = vb := ⟨_, rfl⟩
          have HVa := Lib.hid hva
          have HVb := Lib.hid hvb
          have HV2 := Lib.hid (show v = (!d.data.toList.isEmpty && va && vb) by rw [← HV.out, tgtB_tgtR, tgtR, HD.out, HTi.out, hva, hvb]; simp)
          clear hva hvb
          by_cases h0 : 0 < d.size
          · obtain ⟨f1, f2, f3, f4⟩ := nonempty_forms h0
            have HV3 := Lib.hid (show v = (va && vb) by rw [HV2.out]; rw [Go.ByteArray.toList_eq] at f3; rw [f3]; simp)
            cases va with
            | true =>
              have hv4 : v = vb := HV3.out
              subst hv4
              go_wp2_with (first
                | (go_at_call_of 124 d; go_must (refine (barless_q em st li kd d _ _ HVa.out).mono ?_); rintro e w3 ⟨rfl, hb⟩; have HT := Lib.hid (HT.out.below hb); clear hb; have p0 := HT.out.b.c 0; have p1 := HT.out.b.c 1; have p2 := HT.out.b.c 2; have p3 := HT.out.b.c 3; have p4 := HT.out.b.c 4; have p5 := HT.out.b.c 5; have q0 := HT.out.a.c 0; have q1 := HT.out.a.c 1; have q2 := HT.out.a.c 2; have q3 := HT.out.a.c 3; simp only [List.getElem?_toArray, List.getElem?_cons_zero, List.getElem?_cons_succ] at p0 p1 p2 p3 p4 p5 q0 q1 q2 q3)
                | (go_at_call_of 124 t; go_must (refine (barless_q em st li kd t _ _ HVb.out).mono ?_); rintro e w3 ⟨rfl, hb⟩; have HT := Lib.hid (HT.out.below hb); clear hb))
              go_ret
              exact ⟨rfl, HT.out.bel⟩
            | false =>
              have hv4 : v = false := HV3.out
              subst hv4
              go_wp2_with (first
                | (go_at_call_of 124 d; go_must (refine (barless_q em st li kd d _ _ HVa.out).mono ?_); rintro e w3 ⟨rfl, hb⟩; have HT := Lib.hid (HT.out.below hb); clear hb; have p0 := HT.out.b.c 0; have p1 := HT.out.b.c 1; have p2 := HT.out.b.c 2; have p3 := HT.out.b.c 3; have p4 := HT.out.b.c 4; have p5 := HT.out.b.c 5; have q0 := HT.out.a.c 0; have q1 := HT.out.a.c 1; have q2 := HT.out.a.c 2; have q3 := HT.out.a.c 3; simp only [List.getElem?_toArray, List.getElem?_cons_zero, List.getElem?_cons_succ] at p0 p1 p2 p3 p4 p5 q0 q1 q2 q3)
                | (go_at_call_of 124 t; go_must (refine (barless_q em st li kd t _ _ HVb.out).mono ?_); rintro e w3 ⟨rfl, hb⟩; have HT := Lib.hid (HT.out.below hb); clear hb))
              go_ret
              exact ⟨rfl, HT.out.bel⟩
          · obtain rfl := empty_lit h0
            have hv4 : v = false := HV2.out
            subst hv4
            go_wp2_with fail
            go_ret
            exact ⟨rfl, HT.out.bel⟩

set_option maxRecDepth 100000 in
set_option maxHeartbeats 8000000 in
theorem goodTarget_r (k lv : Int) (x d t : ByteArray) (A : Option Addr) (n c : Nat) (v : Bool) (w : World) (h : tgtR d t = v) (hd : d.size ≤ 1073741824) (ht : t.size ≤ 1073741824) : Calls Tryd.prog 106 #[.agg #[.int .i64 k, .int .i64 lv, .string x, .string d, .string t, .slice A n c]] w fun e w' => e = .returned (.bool v) ∧ Below w.heap.size w w' := by
  have HV := Lib.hid h
  have HX := Lib.hid (CB.new w #[.int .i64 k, .int .i64 lv, .string x, .string d, .string t, .slice A n c] 31)
  have HB := Lib.hid ((Below.refl w.heap.size w).alloc (Nat.le_refl _) (.cells #[.int .i64 k, .int .i64 lv, .string x, .string d, .string t, .slice A n c] 31))
  have HC := Lib.hid (fun W => containsAny_q ⟨#[34, 92, 10]⟩ rfl (by decide) t ht W)
  have HCt := Lib.hid (show (!Lib.containsAny t.data.toList (⟨#[34, 92, 10]⟩ : ByteArray).data.toList) = t.data.toList.all inT by
    rw [containsAny_any]
    exact any_all _)
  have HI := Lib.hid (fun (b : UInt8) W => Tryd.strings_IndexByte ⟨#[40, 41, 34, 92]⟩ b.toNat W)
  by_cases h0 : 0 < d.size
  · obtain ⟨f1, f2, f3, f4⟩ := nonempty_forms h0
    have HE := Lib.hid (show d.data.toList.isEmpty = false by rw [← Go.ByteArray.toList_eq]; exact f3)
    clear h h0
    go_enter Tryd.func106, Tryd.ntmps106
    go_wp2_with fail
    go_loopw [3] (fun t3 wr => ∃ j : Nat, j ≤ d.size ∧ t3 = .int .i64 j ∧ Hid (∀ (i : Nat) (b : UInt8), i < j → d.data.toList[i]? = some b → inD b = true) ∧ wr = w.alloc (.cells #[.int .i64 k, .int .i64 lv, .string x, .string d, .string t, .slice A n c] 31)) (fun t _ => d.size - (intOf t).toNat)
    case atStart => exact ⟨0, Nat.zero_le _, rfl, Lib.hid (fun i b hi => absurd hi (by omega)), rfl⟩
    case round =>
      obtain ⟨j, hj, rfl, HOk, rfl⟩ := hrel
      by_cases hlt : j < d.size
      · obtain ⟨b, hb⟩ : ∃ b, d[j]'hlt = b := ⟨_, rfl⟩
        have hbs := byte_get hlt
        rw [hb] at hbs
        have HBs := Lib.hid hbs
        clear hbs
        by_cases h32 : b.toNat ≤ 32
        · have hle : decide ((b.toNat : Int) ≤ 32) = true := decide_eq_true (by omega)
          have hvf : v = false := by
            rw [← HV.out, tgtR, all_false HBs.out (show inD b = false by unfold inD; rw [decide_eq_false (by omega)]; rfl)]
            simp
          subst hvf
          go_wp2_with fail
          go_ret
          exact ⟨rfl, HB.out⟩
        · have hle : decide ((b.toNat : Int) ≤ 32) = false := decide_eq_false (by omega)
          obtain ⟨ix, hix⟩ : ∃ ix, Lib.indexByte (⟨#[40, 41, 34, 92]⟩ : ByteArray).data.toList ((b.toNat : Int).toNat.toUInt8) = ix := ⟨_, rfl⟩
          have hxb : decide (0 ≤ ix) = !inD b := by
            rw [← hix, show ((b.toNat : Int).toNat.toUInt8) = b by simp, ← Lib.contains_iff_indexByte]
            rw [inD_cs b (by omega), Bool.not_not]
          have HIx := Lib.hid hix
          cases hi : inD b with
          | true =>
            rw [hi] at hxb
            have hxb2 : decide (0 ≤ ix) = false := hxb
            have HIn := Lib.hid hi
            clear hi hxb hix h32
            go_wp2_with (go_at_call 101; go_must (refine (HI.out b _).mono ?_); rw [HIx.out]; rintro e w3 ⟨rfl, hw3⟩; obtain rfl := hw3.symm)
            go_roundw
            case rel => exact ⟨j + 1, by omega, by go_num, Lib.hid (fun i b' h1 h2 => by
              rcases Nat.lt_succ_iff_lt_or_eq.1 h1 with h3 | rfl
              · exact HOk.out i b' h3 h2
              · rw [HBs.out] at h2; cases h2; exact HIn.out), by first | rfl | trivial⟩
            case measure => simp [intOf]; omega
          | false =>
            rw [hi] at hxb
            have hxb2 : decide (0 ≤ ix) = true := hxb
            have hvf : v = false := by
              rw [← HV.out, tgtR, all_false HBs.out hi]
              simp
            subst hvf
            clear hi hxb hix h32
            go_wp2_with (go_at_call 101; go_must (refine (HI.out b _).mono ?_); rw [HIx.out]; rintro e w3 ⟨rfl, hw3⟩; obtain rfl := hw3.symm)
            go_ret
            exact ⟨rfl, HB.out⟩
      · have HD := Lib.hid (show d.data.toList.all inD = true from all_true (fun i b h1 h2 => HOk.out i b (by rw [size_toList] at h1; omega) h2))
        obtain ⟨ca, hca⟩ : ∃ ca, Lib.containsAny t.data.toList (⟨#[34, 92, 10]⟩ : ByteArray).data.toList = ca := ⟨_, rfl⟩
        have hv2 : v = !ca := by rw [← HV.out, tgtR, HD.out, HE.out, ← HCt.out, hca]; simp
        subst hv2
        have HCa := Lib.hid hca
        clear HOk hca
        go_wp2_with (go_at_call 107; go_must (refine (HC.out _).mono ?_); rw [HCa.out]; rintro e w3 ⟨rfl, hb⟩; have HB3 := Lib.hid (HB.out.trans (hb.mono HB.out.size)); clear hb)
        go_ret
        exact ⟨rfl, HB3.out⟩
  · obtain rfl := empty_lit h0
    have hvf : v = false := by rw [← HV.out]; rfl
    subst hvf
    go_enter Tryd.func106, Tryd.ntmps106
    go_wp2_with fail
    go_ret
    exact ⟨rfl, HB.out⟩

end Go.Proofs.YtlganccpgchmeaaDoor
