/-
  Links that can be printed; lists of inlines: mark.inlineFits at a link, inlinesFit.
-/
import Derived.Test.YtlganccpgchmeaaDoorFitInl
namespace Go.Proofs.YtlganccpgchmeaaDoor
open Go.RowKit Go.Deep

theorem TwoW.put {n1 n2 i : Nat} {c1 c2 : Array Value} {w0 w : World} {v : Value} (h : TwoW n1 n2 c1 c2 w0 w) (hn : n1 ≠ n2) (hB : w0.heap.size ≤ n1) : TwoW n1 n2 (c1.setIfInBounds i v) c2 w0 (w.setCell ⟨n1, i, none⟩ v) := by
  have hg := grown_setB w n1 i v
  exact ⟨h.a.put i v, h.b.other hg (fun e => hn (Option.some.inj e).symm), h.bel.trans ((Below.refl _ _).grown hg (Nat.le_trans (by have := h.bel.size; omega) (Nat.le_refl _)) (fun g e => by cases e; exact hB))⟩
set_option maxRecDepth 100000 in
set_option maxHeartbeats 16000000 in
theorem inlineFits_link (lv : Int) (x d t : ByteArray) (ks : List Node) (A : Option Addr) (c : Nat) (em st li : Bool) (kd : Int) (w : World) (h : NodesAt w (.slice A ks.length c) ks) (hsz : x.size ≤ 1073741824 ∧ d.size + t.size ≤ 1073741824) (hlen : ks.length ≤ 1073741824)
    (hrec : ∀ (em st li : Bool) (W : World), Keeps w W → Calls Tryd.prog 83 #[.slice A ks.length c, .agg #[.bool em, .bool st, .bool li, .int .i64 kd]] W (InlRes (inlL ks none em st li kd) W)) :
    Calls Tryd.prog 105 #[.agg #[.int .i64 17, .int .i64 lv, .string x, .string d, .string t, .slice A ks.length c], .agg #[.bool em, .bool st, .bool li, .int .i64 kd]] w (InlRes (inlN (.mk 17 lv x d t ks) em st li kd) w) := by
  have HT := Lib.hid (show TwoW (w.heap.size + 1) w.heap.size #[.bool em, .bool st, .bool li, .int .i64 kd] #[.int .i64 17, .int .i64 lv, .string x, .string d, .string t, .slice A ks.length c] w ((w.alloc (.cells #[.int .i64 17, .int .i64 lv, .string x, .string d, .string t, .slice A ks.length c] 31)).alloc (.cells #[.bool em, .bool st, .bool li, .int .i64 kd] 86)) from
    ⟨by have := CB.new (w.alloc (.cells #[.int .i64 17, .int .i64 lv, .string x, .string d, .string t, .slice A ks.length c] 31)) #[.bool em, .bool st, .bool li, .int .i64 kd] 86; rwa [World.size_alloc] at this, (CB.new w #[.int .i64 17, .int .i64 lv, .string x, .string d, .string t, .slice A ks.length c] 31).alloc _, ((Below.refl _ _).alloc (Nat.le_refl _) _).alloc (by simp) _⟩)
  obtain ⟨hx, hdt⟩ := hsz
  have HV := Lib.hid (show inlN (.mk 17 lv x d t ks) em st li kd = (!li && tgtB d t kd && (!ks.isEmpty && edgeB 17 ks && inlL ks none em st true kd)) from rfl)
  obtain ⟨va, hva⟩ : ∃ va, tgtB d t kd = va := ⟨_, rfl⟩
  have HVa := Lib.hid hva
  cases li with
  | true =>
    go_enter Tryd.func105, Tryd.ntmps105
    go_wp2_with fail
    go_ret
    exact InlRes.mk HV.out.symm HT.out.bel
  | false =>
    cases va with
    | false =>
      have HV2 := Lib.hid (show inlN (.mk 17 lv x d t ks) em st false kd = false by rw [HV.out, hva]; rfl)
      clear hva
      have p0 := HT.out.b.c 0
      have p1 := HT.out.b.c 1
      have p2 := HT.out.b.c 2
      have p3 := HT.out.b.c 3
      have p4 := HT.out.b.c 4
      have p5 := HT.out.b.c 5
      have q0 := HT.out.a.c 0
      have q1 := HT.out.a.c 1
      have q2 := HT.out.a.c 2
      have q3 := HT.out.a.c 3
      simp only [List.getElem?_toArray, List.getElem?_cons_zero, List.getElem?_cons_succ] at p0 p1 p2 p3 p4 p5 q0 q1 q2 q3
      go_enter Tryd.func105, Tryd.ntmps105
      go_wp2_with (go_at_call 125; go_must (refine (target_q em st false kd _ lv x d t _ _ _ false _ HVa.out (by omega) (by omega)).mono ?_); rintro e w3 ⟨rfl, hb⟩; have HT := Lib.hid (HT.out.below hb); clear hb; have p0 := HT.out.b.c 0; have p1 := HT.out.b.c 1; have p2 := HT.out.b.c 2; have p3 := HT.out.b.c 3; have p4 := HT.out.b.c 4; have p5 := HT.out.b.c 5; have q0 := HT.out.a.c 0; have q1 := HT.out.a.c 1; have q2 := HT.out.a.c 2; have q3 := HT.out.a.c 3; simp only [List.getElem?_toArray, List.getElem?_cons_zero, List.getElem?_cons_succ] at p0 p1 p2 p3 p4 p5 q0 q1 q2 q3)
      go_ret
      exact InlRes.mk HV2.out.symm HT.out.bel
    | true =>
      rw [hva] at HV
      clear hva
      by_cases hke : ks.length = 0
      · have HV2 := Lib.hid (show inlN (.mk 17 lv x d t ks) em st false kd = false by rw [HV.out]; have : ks = [] := List.length_eq_zero_iff.1 hke; rw [this]; simp)
        have hkz : ((ks.length : Int) == 0) = true := by rw [hke]; rfl
        clear hke
        have p0 := HT.out.b.c 0
        have p1 := HT.out.b.c 1
        have p2 := HT.out.b.c 2
        have p3 := HT.out.b.c 3
        have p4 := HT.out.b.c 4
        have p5 := HT.out.b.c 5
        have q0 := HT.out.a.c 0
        have q1 := HT.out.a.c 1
        have q2 := HT.out.a.c 2
        have q3 := HT.out.a.c 3
        simp only [List.getElem?_toArray, List.getElem?_cons_zero, List.getElem?_cons_succ] at p0 p1 p2 p3 p4 p5 q0 q1 q2 q3
        go_enter Tryd.func105, Tryd.ntmps105
        go_wp2_with (go_at_call 125; go_must (refine (target_q em st false kd _ lv x d t _ _ _ true _ HVa.out (by omega) (by omega)).mono ?_); rintro e w3 ⟨rfl, hb⟩; have HT := Lib.hid (HT.out.below hb); clear hb; have qf2 := HT.out.a.f 2; have qsh := HT.out.a.sh; have HTput := Lib.hid (TwoW.put (i := 2) (v := .bool true) HT.out (by omega) (by omega)); have p0 := HT.out.b.c 0; have p1 := HT.out.b.c 1; have p2 := HT.out.b.c 2; have p3 := HT.out.b.c 3; have p4 := HT.out.b.c 4; have p5 := HT.out.b.c 5; have q0 := HT.out.a.c 0; have q1 := HT.out.a.c 1; have q2 := HT.out.a.c 2; have q3 := HT.out.a.c 3; simp only [List.getElem?_toArray, List.getElem?_cons_zero, List.getElem?_cons_succ] at p0 p1 p2 p3 p4 p5 q0 q1 q2 q3)
        go_ret
        exact InlRes.mk HV2.out.symm (by first | exact HT.out.bel | exact HT2.out.bel | exact HTput.out.bel)
      · obtain ⟨q, hq⟩ : ∃ q, ks.length = q + 1 := ⟨ks.length - 1, by omega⟩
        obtain ⟨A', cc, bl, o, kv, hv, hlc, hcm, hA, hcell, hkid⟩ := h.inv
        cases hv
        have hA2 := hA (by intro h0; rw [h0] at hq; simp at hq)
        subst hA2
        obtain ⟨a, ha⟩ : ∃ a, ks[0]? = some a := ⟨_, List.getElem?_eq_getElem (by omega)⟩
        obtain ⟨b, hb⟩ : ∃ b, ks[q]? = some b := ⟨_, List.getElem?_eq_getElem (by omega)⟩
        obtain ⟨A1, c1, b3, o3, k3, e3, _, _, _, _, _⟩ := (hkid 0 a ha).inv
        obtain ⟨A2, c2, b4, o4, k4, e4, _, _, _, _, _⟩ := (hkid q b hb).inv
        have HCa := Lib.hid (hcell 0 a ha)
        have HCb := Lib.hid (hcell q b hb)
        rw [e3] at HCa
        rw [e4] at HCb
        have HEd := Lib.hid (edge_ends hq ha hb 17)
        have hkz : (((q : Int) + 1) == 0) = false := by simp; omega
        have hrec2 := hrec em st true
        rw [hq] at hrec2
        obtain ⟨r, hr⟩ : ∃ r, inlL ks none em st true kd = r := ⟨_, rfl⟩
        rw [hr] at hrec2
        have HRec := Lib.hid hrec2
        have HV2 := Lib.hid (show inlN (.mk 17 lv x d t ks) em st false kd = (edgeB 17 ks && r) by
          rw [HV.out, hr]
          cases ks with
          | nil => simp at hq
          | cons _ _ => simp)
        have hcm2 : c ≤ 9223372036854775807 := by unfold maxLen at hcm; omega
        have hqc : q + 1 ≤ c := by omega
        have hq9 : q ≤ 1073741824 := by omega
        rw [hq] at HT
        try rw [hq] at HT2
        try rw [hq] at HVa
        clear hrec hrec2 hr e3 e4 hcell hkid hA ha hb hcm hke h hlc
        rw [hq]
        have p0 := HT.out.b.c 0
        have p1 := HT.out.b.c 1
        have p2 := HT.out.b.c 2
        have p3 := HT.out.b.c 3
        have p4 := HT.out.b.c 4
        have p5 := HT.out.b.c 5
        have q0 := HT.out.a.c 0
        have q1 := HT.out.a.c 1
        have q2 := HT.out.a.c 2
        have q3 := HT.out.a.c 3
        simp only [List.getElem?_toArray, List.getElem?_cons_zero, List.getElem?_cons_succ] at p0 p1 p2 p3 p4 p5 q0 q1 q2 q3
        go_enter Tryd.func105, Tryd.ntmps105
        go_wp2_with (go_at_call 125; go_must (refine (target_q em st false kd _ lv x d t _ _ _ true _ HVa.out (by omega) (by omega)).mono ?_); rintro e w3 ⟨rfl, hb⟩; have HT := Lib.hid (HT.out.below hb); clear hb; have qf2 := HT.out.a.f 2; have qsh := HT.out.a.sh; have HTput := Lib.hid (TwoW.put (i := 2) (v := .bool true) HT.out (by omega) (by omega)); have p0 := HT.out.b.c 0; have p1 := HT.out.b.c 1; have p2 := HT.out.b.c 2; have p3 := HT.out.b.c 3; have p4 := HT.out.b.c 4; have p5 := HT.out.b.c 5; have q0 := HT.out.a.c 0; have q1 := HT.out.a.c 1; have q2 := HT.out.a.c 2; have q3 := HT.out.a.c 3; simp only [List.getElem?_toArray, List.getElem?_cons_zero, List.getElem?_cons_succ] at p0 p1 p2 p3 p4 p5 q0 q1 q2 q3)
        obtain ⟨W3, hW3⟩ : ∃ W, w3.setCell ⟨w.heap.size + 1, 2, none⟩ (.bool true) = W := ⟨_, rfl⟩
        have HT3 := Lib.hid (show TwoW (w.heap.size + 1) w.heap.size #[.bool em, .bool st, .bool true, .int .i64 kd] #[.int .i64 17, .int .i64 lv, .string x, .string d, .string t, .slice (some ⟨bl, o, none⟩) (q + 1) c] w W3 by rw [← hW3]; exact HTput.out)
        rw [hW3]
        have u5 := HT3.out.b.c 5
        simp only [List.getElem?_toArray, List.getElem?_cons_zero, List.getElem?_cons_succ] at u5
        obtain ⟨a0, a1, a2, a3, a4, a5, _, _, _, _, _⟩ := HCa.out.keep (Keeps.of_below HT3.out.bel)
        obtain ⟨b0, b1, b2, b3', b4', b5, _, _, _, _, _⟩ := HCb.out.keep (Keeps.of_below HT3.out.bel)
        simp only [Nat.zero_mul, Nat.add_zero] at a0 a1 a2 a3 a4 a5
        have bb := World.block_lt_of_cell? _ _ a0
        simp only at bb
        have bn := HT3.out.b.lt
        have hwq : IntKind.i64.wrap (q : Int) = (q : Int) := IntWalk.i64_in _ (by omega)
        clear hW3
        go_cut [5, 6] from 83 (fun s5 s6 wx => ∃ na nb, s5 = .pointer (some ⟨na, 0, none⟩) ∧ s6 = .pointer (some ⟨nb, 0, none⟩) ∧ Hid (Firsts na nb #[.int .i64 a.kind, .int .i64 a.level, .string a.text, .string a.dest, .string a.title, .slice A1 a.kids.length c1] #[.int .i64 b.kind, .int .i64 b.level, .string b.text, .string b.dest, .string b.title, .slice A2 b.kids.length c2] W3 wx))
        case first =>
          go_region
          all_goals
            go_wp2_with fail
            go_meet
          all_goals first
            | exact ⟨_, _, rfl, rfl, Firsts.ab _ _ _⟩
            | exact ⟨_, _, rfl, rfl, Firsts.ba _ _ _⟩
        case rest =>
          obtain ⟨na, nb, rfl, rfl, HF⟩ := hcut
          have H4 := Lib.hid (show Fit4 w.heap.size (w.heap.size + 1) na nb #[.int .i64 17, .int .i64 lv, .string x, .string d, .string t, .slice (some ⟨bl, o, none⟩) (q + 1) c] #[.bool em, .bool st, .bool true, .int .i64 kd] #[.int .i64 a.kind, .int .i64 a.level, .string a.text, .string a.dest, .string a.title, .slice A1 a.kids.length c1] #[.int .i64 b.kind, .int .i64 b.level, .string b.text, .string b.dest, .string b.title, .slice A2 b.kids.length c2] w wc from
            ⟨HT3.out.b.below HF.out.bel, HT3.out.a.below HF.out.bel, HF.out.a, HF.out.b, HT3.out.bel.trans (HF.out.bel.mono HT3.out.bel.size)⟩)
          clear HT3 HF a0 a1 a2 a3 a4 a5 b0 b1 b2 b3' b4' b5 u5 bb bn hwq
          have p0 := H4.out.n.c 0
          have p1 := H4.out.n.c 1
          have p2 := H4.out.n.c 2
          have p3 := H4.out.n.c 3
          have p4 := H4.out.n.c 4
          have p5 := H4.out.n.c 5
          have q0 := H4.out.wi.c 0
          have q1 := H4.out.wi.c 1
          have q2 := H4.out.wi.c 2
          have q3 := H4.out.wi.c 3
          have a0 := H4.out.a.c 0
          have a1 := H4.out.a.c 1
          have a2 := H4.out.a.c 2
          have a3 := H4.out.a.c 3
          have a4 := H4.out.a.c 4
          have a5 := H4.out.a.c 5
          have b0 := H4.out.b.c 0
          have b1 := H4.out.b.c 1
          have b2 := H4.out.b.c 2
          have b3 := H4.out.b.c 3
          have b4 := H4.out.b.c 4
          have b5 := H4.out.b.c 5
          simp only [List.getElem?_toArray, List.getElem?_cons_zero, List.getElem?_cons_succ] at p0 p1 p2 p3 p4 p5 q0 q1 q2 q3 a0 a1 a2 a3 a4 a5 b0 b1 b2 b3 b4 b5
          cases hva : brk a.kind with
          | true =>
            have HVA := Lib.hid hva
            obtain ⟨vb, hvb⟩ : ∃ v, brk b.kind = v := ⟨_, rfl⟩
            have HVB := Lib.hid hvb
            obtain ⟨sa, hsa⟩ : ∃ v, star a.kind = v := ⟨_, rfl⟩
            have HSA := Lib.hid hsa
            obtain ⟨sb, hsb⟩ : ∃ v, star b.kind = v := ⟨_, rfl⟩
            have HSB := Lib.hid hsb
            have HV3 := Lib.hid (show inlN (.mk 17 lv x d t ks) em st false kd = false by rw [HV2.out, HEd.out, hva]; simp [star])
            clear hva hvb hsa hsb
            go_wp2_with (first
              | (go_at_call_of 81 a.kind; go_must (refine (isBreak_q a.kind _ _ _ _ _ _ _ _ _ HVA.out).mono ?_); rintro e w3 ⟨rfl, hb⟩; have H4 := Lib.hid (H4.out.below hb); clear hb; have p0 := H4.out.n.c 0; have p1 := H4.out.n.c 1; have p2 := H4.out.n.c 2; have p3 := H4.out.n.c 3; have p4 := H4.out.n.c 4; have p5 := H4.out.n.c 5; have q0 := H4.out.wi.c 0; have q1 := H4.out.wi.c 1; have q2 := H4.out.wi.c 2; have q3 := H4.out.wi.c 3; have a0 := H4.out.a.c 0; have a1 := H4.out.a.c 1; have a2 := H4.out.a.c 2; have a3 := H4.out.a.c 3; have a4 := H4.out.a.c 4; have a5 := H4.out.a.c 5; have b0 := H4.out.b.c 0; have b1 := H4.out.b.c 1; have b2 := H4.out.b.c 2; have b3 := H4.out.b.c 3; have b4 := H4.out.b.c 4; have b5 := H4.out.b.c 5; simp only [List.getElem?_toArray, List.getElem?_cons_zero, List.getElem?_cons_succ] at p0 p1 p2 p3 p4 p5 q0 q1 q2 q3 a0 a1 a2 a3 a4 a5 b0 b1 b2 b3 b4 b5)
              | (go_at_call_of 81 b.kind; go_must (refine (isBreak_q b.kind _ _ _ _ _ _ _ _ _ HVB.out).mono ?_); rintro e w3 ⟨rfl, hb⟩; have H4 := Lib.hid (H4.out.below hb); clear hb; have p0 := H4.out.n.c 0; have p1 := H4.out.n.c 1; have p2 := H4.out.n.c 2; have p3 := H4.out.n.c 3; have p4 := H4.out.n.c 4; have p5 := H4.out.n.c 5; have q0 := H4.out.wi.c 0; have q1 := H4.out.wi.c 1; have q2 := H4.out.wi.c 2; have q3 := H4.out.wi.c 3; have a0 := H4.out.a.c 0; have a1 := H4.out.a.c 1; have a2 := H4.out.a.c 2; have a3 := H4.out.a.c 3; have a4 := H4.out.a.c 4; have a5 := H4.out.a.c 5; have b0 := H4.out.b.c 0; have b1 := H4.out.b.c 1; have b2 := H4.out.b.c 2; have b3 := H4.out.b.c 3; have b4 := H4.out.b.c 4; have b5 := H4.out.b.c 5; simp only [List.getElem?_toArray, List.getElem?_cons_zero, List.getElem?_cons_succ] at p0 p1 p2 p3 p4 p5 q0 q1 q2 q3 a0 a1 a2 a3 a4 a5 b0 b1 b2 b3 b4 b5)
              | (go_at_call_of 123 a.kind; go_must (refine (isStar_q a.kind _ _ _ _ _ _ _ _ _ HSA.out).mono ?_); rintro e w3 ⟨rfl, hb⟩; have H4 := Lib.hid (H4.out.below hb); clear hb; have p0 := H4.out.n.c 0; have p1 := H4.out.n.c 1; have p2 := H4.out.n.c 2; have p3 := H4.out.n.c 3; have p4 := H4.out.n.c 4; have p5 := H4.out.n.c 5; have q0 := H4.out.wi.c 0; have q1 := H4.out.wi.c 1; have q2 := H4.out.wi.c 2; have q3 := H4.out.wi.c 3; have a0 := H4.out.a.c 0; have a1 := H4.out.a.c 1; have a2 := H4.out.a.c 2; have a3 := H4.out.a.c 3; have a4 := H4.out.a.c 4; have a5 := H4.out.a.c 5; have b0 := H4.out.b.c 0; have b1 := H4.out.b.c 1; have b2 := H4.out.b.c 2; have b3 := H4.out.b.c 3; have b4 := H4.out.b.c 4; have b5 := H4.out.b.c 5; simp only [List.getElem?_toArray, List.getElem?_cons_zero, List.getElem?_cons_succ] at p0 p1 p2 p3 p4 p5 q0 q1 q2 q3 a0 a1 a2 a3 a4 a5 b0 b1 b2 b3 b4 b5)
              | (go_at_call_of 123 b.kind; go_must (refine (isStar_q b.kind _ _ _ _ _ _ _ _ _ HSB.out).mono ?_); rintro e w3 ⟨rfl, hb⟩; have H4 := Lib.hid (H4.out.below hb); clear hb; have p0 := H4.out.n.c 0; have p1 := H4.out.n.c 1; have p2 := H4.out.n.c 2; have p3 := H4.out.n.c 3; have p4 := H4.out.n.c 4; have p5 := H4.out.n.c 5; have q0 := H4.out.wi.c 0; have q1 := H4.out.wi.c 1; have q2 := H4.out.wi.c 2; have q3 := H4.out.wi.c 3; have a0 := H4.out.a.c 0; have a1 := H4.out.a.c 1; have a2 := H4.out.a.c 2; have a3 := H4.out.a.c 3; have a4 := H4.out.a.c 4; have a5 := H4.out.a.c 5; have b0 := H4.out.b.c 0; have b1 := H4.out.b.c 1; have b2 := H4.out.b.c 2; have b3 := H4.out.b.c 3; have b4 := H4.out.b.c 4; have b5 := H4.out.b.c 5; simp only [List.getElem?_toArray, List.getElem?_cons_zero, List.getElem?_cons_succ] at p0 p1 p2 p3 p4 p5 q0 q1 q2 q3 a0 a1 a2 a3 a4 a5 b0 b1 b2 b3 b4 b5)
              | (go_at_call 123; go_must (refine (isStar_q 17 _ _ _ _ _ _ _ false _ (by rfl)).mono ?_); rintro e w3 ⟨rfl, hb⟩; have H4 := Lib.hid (H4.out.below hb); clear hb; have p0 := H4.out.n.c 0; have p1 := H4.out.n.c 1; have p2 := H4.out.n.c 2; have p3 := H4.out.n.c 3; have p4 := H4.out.n.c 4; have p5 := H4.out.n.c 5; have q0 := H4.out.wi.c 0; have q1 := H4.out.wi.c 1; have q2 := H4.out.wi.c 2; have q3 := H4.out.wi.c 3; have a0 := H4.out.a.c 0; have a1 := H4.out.a.c 1; have a2 := H4.out.a.c 2; have a3 := H4.out.a.c 3; have a4 := H4.out.a.c 4; have a5 := H4.out.a.c 5; have b0 := H4.out.b.c 0; have b1 := H4.out.b.c 1; have b2 := H4.out.b.c 2; have b3 := H4.out.b.c 3; have b4 := H4.out.b.c 4; have b5 := H4.out.b.c 5; simp only [List.getElem?_toArray, List.getElem?_cons_zero, List.getElem?_cons_succ] at p0 p1 p2 p3 p4 p5 q0 q1 q2 q3 a0 a1 a2 a3 a4 a5 b0 b1 b2 b3 b4 b5)
              | (go_at_call 83; go_must (refine (HRec.out _ (Keeps.of_below H4.out.bel)).mono ?_); rintro e w3 ⟨rfl, hb⟩; have H4 := Lib.hid (H4.out.below hb); clear hb))
            go_ret
            exact InlRes.mk HV3.out.symm H4.out.bel
          | false =>
            have HVA := Lib.hid hva
            cases hvb : brk b.kind with
            | true =>
              have HVB := Lib.hid hvb
              obtain ⟨sa, hsa⟩ : ∃ v, star a.kind = v := ⟨_, rfl⟩
              have HSA := Lib.hid hsa
              obtain ⟨sb, hsb⟩ : ∃ v, star b.kind = v := ⟨_, rfl⟩
              have HSB := Lib.hid hsb
              have HV3 := Lib.hid (show inlN (.mk 17 lv x d t ks) em st false kd = false by rw [HV2.out, HEd.out, hva, hvb]; simp [star])
              clear hva hvb hsa hsb
              go_wp2_with (first
                | (go_at_call_of 81 a.kind; go_must (refine (isBreak_q a.kind _ _ _ _ _ _ _ _ _ HVA.out).mono ?_); rintro e w3 ⟨rfl, hb⟩; have H4 := Lib.hid (H4.out.below hb); clear hb; have p0 := H4.out.n.c 0; have p1 := H4.out.n.c 1; have p2 := H4.out.n.c 2; have p3 := H4.out.n.c 3; have p4 := H4.out.n.c 4; have p5 := H4.out.n.c 5; have q0 := H4.out.wi.c 0; have q1 := H4.out.wi.c 1; have q2 := H4.out.wi.c 2; have q3 := H4.out.wi.c 3; have a0 := H4.out.a.c 0; have a1 := H4.out.a.c 1; have a2 := H4.out.a.c 2; have a3 := H4.out.a.c 3; have a4 := H4.out.a.c 4; have a5 := H4.out.a.c 5; have b0 := H4.out.b.c 0; have b1 := H4.out.b.c 1; have b2 := H4.out.b.c 2; have b3 := H4.out.b.c 3; have b4 := H4.out.b.c 4; have b5 := H4.out.b.c 5; simp only [List.getElem?_toArray, List.getElem?_cons_zero, List.getElem?_cons_succ] at p0 p1 p2 p3 p4 p5 q0 q1 q2 q3 a0 a1 a2 a3 a4 a5 b0 b1 b2 b3 b4 b5)
                | (go_at_call_of 81 b.kind; go_must (refine (isBreak_q b.kind _ _ _ _ _ _ _ _ _ HVB.out).mono ?_); rintro e w3 ⟨rfl, hb⟩; have H4 := Lib.hid (H4.out.below hb); clear hb; have p0 := H4.out.n.c 0; have p1 := H4.out.n.c 1; have p2 := H4.out.n.c 2; have p3 := H4.out.n.c 3; have p4 := H4.out.n.c 4; have p5 := H4.out.n.c 5; have q0 := H4.out.wi.c 0; have q1 := H4.out.wi.c 1; have q2 := H4.out.wi.c 2; have q3 := H4.out.wi.c 3; have a0 := H4.out.a.c 0; have a1 := H4.out.a.c 1; have a2 := H4.out.a.c 2; have a3 := H4.out.a.c 3; have a4 := H4.out.a.c 4; have a5 := H4.out.a.c 5; have b0 := H4.out.b.c 0; have b1 := H4.out.b.c 1; have b2 := H4.out.b.c 2; have b3 := H4.out.b.c 3; have b4 := H4.out.b.c 4; have b5 := H4.out.b.c 5; simp only [List.getElem?_toArray, List.getElem?_cons_zero, List.getElem?_cons_succ] at p0 p1 p2 p3 p4 p5 q0 q1 q2 q3 a0 a1 a2 a3 a4 a5 b0 b1 b2 b3 b4 b5)
                | (go_at_call_of 123 a.kind; go_must (refine (isStar_q a.kind _ _ _ _ _ _ _ _ _ HSA.out).mono ?_); rintro e w3 ⟨rfl, hb⟩; have H4 := Lib.hid (H4.out.below hb); clear hb; have p0 := H4.out.n.c 0; have p1 := H4.out.n.c 1; have p2 := H4.out.n.c 2; have p3 := H4.out.n.c 3; have p4 := H4.out.n.c 4; have p5 := H4.out.n.c 5; have q0 := H4.out.wi.c 0; have q1 := H4.out.wi.c 1; have q2 := H4.out.wi.c 2; have q3 := H4.out.wi.c 3; have a0 := H4.out.a.c 0; have a1 := H4.out.a.c 1; have a2 := H4.out.a.c 2; have a3 := H4.out.a.c 3; have a4 := H4.out.a.c 4; have a5 := H4.out.a.c 5; have b0 := H4.out.b.c 0; have b1 := H4.out.b.c 1; have b2 := H4.out.b.c 2; have b3 := H4.out.b.c 3; have b4 := H4.out.b.c 4; have b5 := H4.out.b.c 5; simp only [List.getElem?_toArray, List.getElem?_cons_zero, List.getElem?_cons_succ] at p0 p1 p2 p3 p4 p5 q0 q1 q2 q3 a0 a1 a2 a3 a4 a5 b0 b1 b2 b3 b4 b5)
                | (go_at_call_of 123 b.kind; go_must (refine (isStar_q b.kind _ _ _ _ _ _ _ _ _ HSB.out).mono ?_); rintro e w3 ⟨rfl, hb⟩; have H4 := Lib.hid (H4.out.below hb); clear hb; have p0 := H4.out.n.c 0; have p1 := H4.out.n.c 1; have p2 := H4.out.n.c 2; have p3 := H4.out.n.c 3; have p4 := H4.out.n.c 4; have p5 := H4.out.n.c 5; have q0 := H4.out.wi.c 0; have q1 := H4.out.wi.c 1; have q2 := H4.out.wi.c 2; have q3 := H4.out.wi.c 3; have a0 := H4.out.a.c 0; have a1 := H4.out.a.c 1; have a2 := H4.out.a.c 2; have a3 := H4.out.a.c 3; have a4 := H4.out.a.c 4; have a5 := H4.out.a.c 5; have b0 := H4.out.b.c 0; have b1 := H4.out.b.c 1; have b2 := H4.out.b.c 2; have b3 := H4.out.b.c 3; have b4 := H4.out.b.c 4; have b5 := H4.out.b.c 5; simp only [List.getElem?_toArray, List.getElem?_cons_zero, List.getElem?_cons_succ] at p0 p1 p2 p3 p4 p5 q0 q1 q2 q3 a0 a1 a2 a3 a4 a5 b0 b1 b2 b3 b4 b5)
                | (go_at_call 123; go_must (refine (isStar_q 17 _ _ _ _ _ _ _ false _ (by rfl)).mono ?_); rintro e w3 ⟨rfl, hb⟩; have H4 := Lib.hid (H4.out.below hb); clear hb; have p0 := H4.out.n.c 0; have p1 := H4.out.n.c 1; have p2 := H4.out.n.c 2; have p3 := H4.out.n.c 3; have p4 := H4.out.n.c 4; have p5 := H4.out.n.c 5; have q0 := H4.out.wi.c 0; have q1 := H4.out.wi.c 1; have q2 := H4.out.wi.c 2; have q3 := H4.out.wi.c 3; have a0 := H4.out.a.c 0; have a1 := H4.out.a.c 1; have a2 := H4.out.a.c 2; have a3 := H4.out.a.c 3; have a4 := H4.out.a.c 4; have a5 := H4.out.a.c 5; have b0 := H4.out.b.c 0; have b1 := H4.out.b.c 1; have b2 := H4.out.b.c 2; have b3 := H4.out.b.c 3; have b4 := H4.out.b.c 4; have b5 := H4.out.b.c 5; simp only [List.getElem?_toArray, List.getElem?_cons_zero, List.getElem?_cons_succ] at p0 p1 p2 p3 p4 p5 q0 q1 q2 q3 a0 a1 a2 a3 a4 a5 b0 b1 b2 b3 b4 b5)
                | (go_at_call 83; go_must (refine (HRec.out _ (Keeps.of_below H4.out.bel)).mono ?_); rintro e w3 ⟨rfl, hb⟩; have H4 := Lib.hid (H4.out.below hb); clear hb))
              go_ret
              exact InlRes.mk HV3.out.symm H4.out.bel
            | false =>
              have HVB := Lib.hid hvb
              obtain ⟨sa, hsa⟩ : ∃ v, star a.kind = v := ⟨_, rfl⟩
              have HSA := Lib.hid hsa
              obtain ⟨sb, hsb⟩ : ∃ v, star b.kind = v := ⟨_, rfl⟩
              have HSB := Lib.hid hsb
              have HV3 := Lib.hid (show inlN (.mk 17 lv x d t ks) em st false kd = r by rw [HV2.out, HEd.out, hva, hvb]; simp [star])
              clear hva hvb hsa hsb
              go_wp2_with (first
                | (go_at_call_of 81 a.kind; go_must (refine (isBreak_q a.kind _ _ _ _ _ _ _ _ _ HVA.out).mono ?_); rintro e w3 ⟨rfl, hb⟩; have H4 := Lib.hid (H4.out.below hb); clear hb; have p0 := H4.out.n.c 0; have p1 := H4.out.n.c 1; have p2 := H4.out.n.c 2; have p3 := H4.out.n.c 3; have p4 := H4.out.n.c 4; have p5 := H4.out.n.c 5; have q0 := H4.out.wi.c 0; have q1 := H4.out.wi.c 1; have q2 := H4.out.wi.c 2; have q3 := H4.out.wi.c 3; have a0 := H4.out.a.c 0; have a1 := H4.out.a.c 1; have a2 := H4.out.a.c 2; have a3 := H4.out.a.c 3; have a4 := H4.out.a.c 4; have a5 := H4.out.a.c 5; have b0 := H4.out.b.c 0; have b1 := H4.out.b.c 1; have b2 := H4.out.b.c 2; have b3 := H4.out.b.c 3; have b4 := H4.out.b.c 4; have b5 := H4.out.b.c 5; simp only [List.getElem?_toArray, List.getElem?_cons_zero, List.getElem?_cons_succ] at p0 p1 p2 p3 p4 p5 q0 q1 q2 q3 a0 a1 a2 a3 a4 a5 b0 b1 b2 b3 b4 b5)
                | (go_at_call_of 81 b.kind; go_must (refine (isBreak_q b.kind _ _ _ _ _ _ _ _ _ HVB.out).mono ?_); rintro e w3 ⟨rfl, hb⟩; have H4 := Lib.hid (H4.out.below hb); clear hb; have p0 := H4.out.n.c 0; have p1 := H4.out.n.c 1; have p2 := H4.out.n.c 2; have p3 := H4.out.n.c 3; have p4 := H4.out.n.c 4; have p5 := H4.out.n.c 5; have q0 := H4.out.wi.c 0; have q1 := H4.out.wi.c 1; have q2 := H4.out.wi.c 2; have q3 := H4.out.wi.c 3; have a0 := H4.out.a.c 0; have a1 := H4.out.a.c 1; have a2 := H4.out.a.c 2; have a3 := H4.out.a.c 3; have a4 := H4.out.a.c 4; have a5 := H4.out.a.c 5; have b0 := H4.out.b.c 0; have b1 := H4.out.b.c 1; have b2 := H4.out.b.c 2; have b3 := H4.out.b.c 3; have b4 := H4.out.b.c 4; have b5 := H4.out.b.c 5; simp only [List.getElem?_toArray, List.getElem?_cons_zero, List.getElem?_cons_succ] at p0 p1 p2 p3 p4 p5 q0 q1 q2 q3 a0 a1 a2 a3 a4 a5 b0 b1 b2 b3 b4 b5)
                | (go_at_call_of 123 a.kind; go_must (refine (isStar_q a.kind _ _ _ _ _ _ _ _ _ HSA.out).mono ?_); rintro e w3 ⟨rfl, hb⟩; have H4 := Lib.hid (H4.out.below hb); clear hb; have p0 := H4.out.n.c 0; have p1 := H4.out.n.c 1; have p2 := H4.out.n.c 2; have p3 := H4.out.n.c 3; have p4 := H4.out.n.c 4; have p5 := H4.out.n.c 5; have q0 := H4.out.wi.c 0; have q1 := H4.out.wi.c 1; have q2 := H4.out.wi.c 2; have q3 := H4.out.wi.c 3; have a0 := H4.out.a.c 0; have a1 := H4.out.a.c 1; have a2 := H4.out.a.c 2; have a3 := H4.out.a.c 3; have a4 := H4.out.a.c 4; have a5 := H4.out.a.c 5; have b0 := H4.out.b.c 0; have b1 := H4.out.b.c 1; have b2 := H4.out.b.c 2; have b3 := H4.out.b.c 3; have b4 := H4.out.b.c 4; have b5 := H4.out.b.c 5; simp only [List.getElem?_toArray, List.getElem?_cons_zero, List.getElem?_cons_succ] at p0 p1 p2 p3 p4 p5 q0 q1 q2 q3 a0 a1 a2 a3 a4 a5 b0 b1 b2 b3 b4 b5)
                | (go_at_call_of 123 b.kind; go_must (refine (isStar_q b.kind _ _ _ _ _ _ _ _ _ HSB.out).mono ?_); rintro e w3 ⟨rfl, hb⟩; have H4 := Lib.hid (H4.out.below hb); clear hb; have p0 := H4.out.n.c 0; have p1 := H4.out.n.c 1; have p2 := H4.out.n.c 2; have p3 := H4.out.n.c 3; have p4 := H4.out.n.c 4; have p5 := H4.out.n.c 5; have q0 := H4.out.wi.c 0; have q1 := H4.out.wi.c 1; have q2 := H4.out.wi.c 2; have q3 := H4.out.wi.c 3; have a0 := H4.out.a.c 0; have a1 := H4.out.a.c 1; have a2 := H4.out.a.c 2; have a3 := H4.out.a.c 3; have a4 := H4.out.a.c 4; have a5 := H4.out.a.c 5; have b0 := H4.out.b.c 0; have b1 := H4.out.b.c 1; have b2 := H4.out.b.c 2; have b3 := H4.out.b.c 3; have b4 := H4.out.b.c 4; have b5 := H4.out.b.c 5; simp only [List.getElem?_toArray, List.getElem?_cons_zero, List.getElem?_cons_succ] at p0 p1 p2 p3 p4 p5 q0 q1 q2 q3 a0 a1 a2 a3 a4 a5 b0 b1 b2 b3 b4 b5)
                | (go_at_call 123; go_must (refine (isStar_q 17 _ _ _ _ _ _ _ false _ (by rfl)).mono ?_); rintro e w3 ⟨rfl, hb⟩; have H4 := Lib.hid (H4.out.below hb); clear hb; have p0 := H4.out.n.c 0; have p1 := H4.out.n.c 1; have p2 := H4.out.n.c 2; have p3 := H4.out.n.c 3; have p4 := H4.out.n.c 4; have p5 := H4.out.n.c 5; have q0 := H4.out.wi.c 0; have q1 := H4.out.wi.c 1; have q2 := H4.out.wi.c 2; have q3 := H4.out.wi.c 3; have a0 := H4.out.a.c 0; have a1 := H4.out.a.c 1; have a2 := H4.out.a.c 2; have a3 := H4.out.a.c 3; have a4 := H4.out.a.c 4; have a5 := H4.out.a.c 5; have b0 := H4.out.b.c 0; have b1 := H4.out.b.c 1; have b2 := H4.out.b.c 2; have b3 := H4.out.b.c 3; have b4 := H4.out.b.c 4; have b5 := H4.out.b.c 5; simp only [List.getElem?_toArray, List.getElem?_cons_zero, List.getElem?_cons_succ] at p0 p1 p2 p3 p4 p5 q0 q1 q2 q3 a0 a1 a2 a3 a4 a5 b0 b1 b2 b3 b4 b5)
                | (go_at_call 83; go_must (refine (HRec.out _ (Keeps.of_below H4.out.bel)).mono ?_); rintro e w3 ⟨rfl, hb⟩; have H4 := Lib.hid (H4.out.below hb); clear hb))
              go_ret
              exact InlRes.mk HV3.out.symm H4.out.bel

theorem inlineFits_q (n : Node) (A : Option Addr) (c : Nat) (em st li : Bool) (kd : Int) (w : World) (h : NodesAt w (.slice A n.kids.length c) n.kids) (hk : isInlineB n.kind = true) (hsz : n.text.size ≤ 1073741824 ∧ n.dest.size + n.title.size ≤ 1073741824) (hlen : n.kids.length ≤ 1073741824)
    (hrec : ∀ (em st li : Bool) (W : World), Keeps w W → Calls Tryd.prog 83 #[.slice A n.kids.length c, .agg #[.bool em, .bool st, .bool li, .int .i64 kd]] W (InlRes (inlL n.kids none em st li kd) W)) :
    Calls Tryd.prog 105 #[.agg #[.int .i64 n.kind, .int .i64 n.level, .string n.text, .string n.dest, .string n.title, .slice A n.kids.length c], .agg #[.bool em, .bool st, .bool li, .int .i64 kd]] w (InlRes (inlN n em st li kd) w) := by
  obtain ⟨k, lv, x, d, t, ks⟩ := n
  have hk2 : k = 11 ∨ k = 12 ∨ k = 13 ∨ k = 14 ∨ k = 15 ∨ k = 16 ∨ k = 17 ∨ k = 18 := by
    have hk3 : isInlineB k = true := hk
    simp only [isInlineB, decide_eq_true_eq] at hk3
    omega
  simp only [Node.kids, Node.text, Node.dest, Node.title] at h hsz hlen hrec
  rcases hk2 with rfl | rfl | rfl | rfl | rfl | rfl | rfl | rfl
  · exact inlineFits_str lv x d t ks A c em st li kd w hsz
  · exact inlineFits_soft lv x d t ks A c em st li kd w hsz
  · exact inlineFits_hard lv x d t ks A c em st li kd w hsz
  · exact inlineFits_emph lv x d t ks A c em st li kd w h hsz hlen hrec
  · exact inlineFits_strong lv x d t ks A c em st li kd w h hsz hlen hrec
  · exact inlineFits_code lv x d t ks A c em st li kd w hsz
  · exact inlineFits_link lv x d t ks A c em st li kd w h hsz hlen hrec
  · exact inlineFits_image lv x d t ks A c em st li kd w hsz

end Go.Proofs.YtlganccpgchmeaaDoor
