/-
  Tokens: content that is no HTML: the scanner's raw.
-/
import Derived.Test.YtbhildmalcfhiaaGreatDoorTokName
namespace Go.Proofs.YtbhildmalcfhiaaGreatDoor
open Go.RowKit Go.Deep

instance {W : World} : Nonempty (Gr W) := ⟨⟨W, Below.refl _ _⟩⟩
/-- the lexical walk behind a wall: Lean looks at the goal's head at every step, and a long row of operations that are not wanted takes it no end -/
structure WQ (p : Prop) : Prop where
  out : p
theorem wq_step {P : Program} {ops : Array Oper} {C : World → Prop} {Q : Act → Prop} {a : Act} {o : Oper} {rest : List Oper}
    (h : ∀ K : Act → Prop, (∀ a, WQ (wpQuiet P ops C Q rest a) → K a) → if Region.wanted o (yielded ops a.tmps) then o.quiet P a C K else K (a.put o.dst undef)) : WQ (wpQuiet P ops C Q (o :: rest) a) :=
  ⟨wpQuiet_step (fun K hK => h K (fun a h => hK a h.out))⟩
theorem wq_nil {P : Program} {ops : Array Oper} {C : World → Prop} {Q : Act → Prop} {a : Act} (h : Q a) : WQ (wpQuiet P ops C Q [] a) := ⟨wpQuiet_nil h⟩
theorem wp_region_grow {P : Program} {id : Nat} {Q : Exit → Act → World → Prop} {a : Act} {w : World} {l : List Oper} (hm : P.follows .mixedOrders = true) (hB : Region.lexB .any l.toArray = true)
    (h : WQ (wpQuiet P l.toArray (fun w' => ∃ q : Gr w, w' = q.w) (fun a' => ∀ w', (∃ q : Gr w, w' = q.w) → Q .normal a' w') l a)) : (Code.region id l.toArray true).wp P Q a w :=
  wp_region_quiet (C := fun w' => ∃ q : Gr w, w' = q.w) hm hB ⟨⟨_, (Below.refl _ _).drew⟩, rfl⟩ (by simpa using h.out)
theorem More.from {B bx : Nat} {s : ByteArray} {i : Nat} {L : List (TokR × Value)} {add : List TokR} {w w1 w2 : World} (h : More B bx s i L add w1 w2) (hb : Below B w w1) : More B bx s i L add w w2 := by
  obtain ⟨ov, N, h1, h2, h3, h4⟩ := h
  exact ⟨ov, N, h1, h2, h3, hb.trans h4⟩
theorem end_eq {s name : ByteArray} {k : Nat} (h : k + 2 + name.size ≤ s.size) (h0 : nAt s k = 60) (h1 : nAt s (k + 1) = 47) : endAt s name k = (((lowBA (s.extract (k + 2) (k + 2 + name.size))).toList == name.toList) && (decide (k + 2 + name.size = s.size) || !tagN (nAt s (k + 2 + name.size)))) := by
  have a0 : k < s.size := by omega
  have a1 : k + 1 < s.size := by omega
  simp only [endAt, isAt, h, h0, h1, a0, a1, decide_true, Bool.true_and, Go.ByteArray.toList_eq, lowBA]
theorem end_no {s name : ByteArray} {k : Nat} (h : ¬ (k + 2 + name.size ≤ s.size ∧ nAt s k = 60 ∧ nAt s (k + 1) = 47)) : endAt s name k = false := by
  by_cases a : k + 2 + name.size ≤ s.size
  · by_cases b : nAt s k = 60
    · have c : ¬ nAt s (k + 1) = 47 := fun c => h ⟨a, b, c⟩
      simp [endAt, isAt, c]
    · simp [endAt, isAt, b]
  · simp [endAt, a]

set_option maxRecDepth 100000 in
set_option maxHeartbeats 40000000 in
theorem raw_q (B bx : Nat) (s name : ByteArray) (i : Nat) (ov : Value) (L : List (TokR × Value)) (w : World) (hX : ScanAt w bx s i ov) (hO : ToksOwn w B ov L) (hB : B ≤ bx) (hi : i ≤ s.size) (hs : s.size ≤ 1048576) (hn : name.size ≤ 1048576) (hL : L.length ≤ 1048576) :
    Calls Tryz.prog 86 #[.pointer (some ⟨bx, 0, none⟩), .string name] w fun e w' => e = .returned (.tuple #[]) ∧ More B bx s (rawEnd s name i) L (charsL s i (rawEnd s name i)) w w' := by
  have b1 : w.cell? ⟨bx, 1, none⟩ = some (.int .i64 (i : Int)) := hX.c 1
  have hlt : bx < w.heap.size := hX.lt
  have hne : ov.ownBlock ≠ some bx := hO.ne hX (by decide)
  have hnt : ∀ g, g = bx → ∀ (cs : Array Value) (fz : Nat × Nat), w.heap[g]? ≠ some (.cells cs 68 fz) := by
    rintro g rfl cs fz hc
    rw [show w.heap[g]? = _ from hX] at hc
    cases hc
  have HO := Lib.hid (fun wr (h : GrownX (fun x => x = bx) w wr) => hO.keepX h (fun g hg e => hne (by rw [hg, e])) hnt)
  have HX := Lib.hid hX; clear hX
  have HBl := Lib.hid (fun wr (h : GrownX (fun x => x = bx) w wr) => h.below (B := B) (by omega) (fun x e => by omega))
  clear hO hne hnt
  go_enter Tryz.func86, Tryz.ntmps86
  go_wp2_with fail
  clear b1 hlt
  go_loopw [] (fun wr => ∃ k : Nat, i ≤ k ∧ k ≤ s.size ∧ Hid (ScanAt wr bx s k ov) ∧ Hid (GrownX (fun x => x = bx) w wr) ∧ Hid (rawEnd s name i = rawEnd s name k)) (fun wr => s.size - iOf wr bx)
  case atStart => exact ⟨i, Nat.le_refl _, hi, HX, GrownX.refl _ _, rfl⟩
  case round =>
    clear HX
    obtain ⟨k, hik, hk, HX0, HG0, HS⟩ := hrel
    have b0 : wr.cell? ⟨bx, 0, none⟩ = some (.string s) := HX0.out.c 0
    have b1 : wr.cell? ⟨bx, 1, none⟩ = some (.int .i64 (k : Int)) := HX0.out.c 1
    have hlt : bx < wr.heap.size := HX0.out.lt
    have hk0 : (0 : Int) ≤ (k : Int) := by omega
    by_cases hks : k < s.size
    · have hks' : (k : Int) < (s.size : Int) := by omega
      go_wp2_with fail
      go_quiet (fail)
      obtain ⟨W, hW⟩ : ∃ W, wr.drewN nq = W := ⟨_, rfl⟩
      have HX1 := Lib.hid (show ScanAt W bx s k ov by rw [← hW]; exact HX0.out.drewN _)
      have HG1 := Lib.hid (show GrownX (fun x => x = bx) w W by rw [← hW]; exact HG0.out.drewN _)
      rw [hW]
      have hmeas : iOf wr bx = k := iOf_scan HX0.out
      have HMe := Lib.hid hmeas
      clear hW b0 b1 hlt HX0 HG0 hmeas
      have b0 : W.cell? ⟨bx, 0, none⟩ = some (.string s) := HX1.out.c 0
      have b1 : W.cell? ⟨bx, 1, none⟩ = some (.int .i64 (k : Int)) := HX1.out.c 1
      have bf1 := HX1.out.f 1
      have bsh : W.shape? bx = some (97, 3) := HX1.out.sh
      have hlt : bx < W.heap.size := HX1.out.lt
      by_cases hA : k + 2 + name.size ≤ s.size ∧ nAt s k = 60 ∧ nAt s (k + 1) = 47
      · have hk1 : k + 1 < s.size := by omega
        have e0 : ((s[k]'hks).toNat : Int) = 60 := by rw [bAt_idx hks]; exact hA.2.1
        have e1 : ((s[k + 1]'hk1).toNat : Int) = 47 := by rw [bAt_idx hk1]; exact hA.2.2
        have hfit : (k : Int) + 2 + (name.size : Int) ≤ (s.size : Int) := by omega
        have hk1' : (k : Int) + 1 < (s.size : Int) := by omega
        have hk2' : (k : Int) + 2 ≤ (k : Int) + 2 + (name.size : Int) := by omega
        have hk1p : (0 : Int) ≤ (k : Int) + 1 := by omega
        have hk2p : (0 : Int) ≤ (k : Int) + 2 := by omega
        have hkKp : (0 : Int) ≤ (k : Int) + 2 + (name.size : Int) := by omega
        have wr1 : IntKind.i64.wrap ((k : Int) + 1) = (k : Int) + 1 := IntWalk.i64_in _ (by omega)
        have tn1 : ((k : Int) + 1).toNat = k + 1 := by omega
        have tn2 : ((k : Int) + 2).toNat = k + 2 := by omega
        have tnK : ((k : Int) + 2 + (name.size : Int)).toNat = k + 2 + name.size := by omega
        have wr2 : IntKind.i64.wrap ((k : Int) + 2) = (k : Int) + 2 := IntWalk.i64_in _ (by omega)
        obtain ⟨z, hz⟩ : ∃ z, lowBA (s.extract (k + 2) (k + 2 + name.size)) = z := ⟨_, rfl⟩
        obtain ⟨q, hq⟩ : ∃ q, (z.toList == name.toList) = q := ⟨_, rfl⟩
        have HE := Lib.hid (end_eq (name := name) hA.1 hA.2.1 hA.2.2)
        rw [hz, hq] at HE
        have HZ := Lib.hid hz
        have hA1 := hA.1
        clear hA hz
        have hq0 : ∀ q : Gr W, q.w.cell? ⟨bx, 0, none⟩ = some (.string s) := fun q => (HX1.out.below q.h).c 0
        have hq1 : ∀ q : Gr W, q.w.cell? ⟨bx, 1, none⟩ = some (.int .i64 (k : Int)) := fun q => (HX1.out.below q.h).c 1
        cases q with
        | false =>
          have HS2 := Lib.hid (HS.out.trans (seek_miss hks (by rw [HE.out]; rfl)))
          go_wp2_with fail
          simp only [List.append_eq, List.cons_append, List.nil_append]
          refine wp_region_grow (by kernel_rfl) (by kernel_rfl) ?_
          repeat (refine wq_step (fun K hK => ?_); go_simp; first | (refine hK _ ?_; clear hK K) | (refine ⟨.string z, fun q => ?_, hK _ ?_⟩; (go_at_call 123; exact Gr.calls (lowerT_q _ z _ (by rw [ext_size s hA1]; omega) HZ.out)); clear hK K))
          refine wq_nil ?_
          intro _ hw'
          obtain ⟨g5, hw''⟩ := hw'
          subst hw''
          have HX5 := Lib.hid (show ScanAt g5.w bx s k ov from HX1.out.below g5.h)
          have HG5 := Lib.hid (HG1.out.trans (.of_below g5.h))
          have d0 : g5.w.cell? ⟨bx, 0, none⟩ = some (.string s) := HX5.out.c 0
          have d1 : g5.w.cell? ⟨bx, 1, none⟩ = some (.int .i64 (k : Int)) := HX5.out.c 1
          have df1 := HX5.out.f 1
          have dsh : g5.w.shape? bx = some (97, 3) := HX5.out.sh
          have dlt : bx < g5.w.heap.size := HX5.out.lt
          clear hq0 hq1
          go_wp2_with fail
          go_roundw
          case rel => exact ⟨k + 1, by omega, by omega, HX5.out.go0 _ (by omega), HG5.out.set (Or.inl rfl) 1 _, HS2.out⟩
          case measure =>
            rw [HMe.out, iOf_scan (HX5.out.go0 (j := k + 1) _ (by omega))]
            omega
        | true =>
          by_cases hend : k + 2 + name.size = s.size
          · have e9 : ((k : Int) + 2 + (name.size : Int) == (s.size : Int)) = true := by rw [beq_iff_eq]; omega
            have HS2 := Lib.hid (HS.out.trans (seek_hit hks (by rw [HE.out, decide_eq_true hend]; rfl)))
            clear hend
            go_wp2_with fail
            simp only [List.append_eq, List.cons_append, List.nil_append]
            refine wp_region_grow (by kernel_rfl) (by kernel_rfl) ?_
            repeat (refine wq_step (fun K hK => ?_); go_simp; first | (refine hK _ ?_; clear hK K) | (refine ⟨.string z, fun q => ?_, hK _ ?_⟩; (go_at_call 123; exact Gr.calls (lowerT_q _ z _ (by rw [ext_size s hA1]; omega) HZ.out)); clear hK K))
            refine wq_nil ?_
            intro _ hw'
            obtain ⟨g5, hw''⟩ := hw'
            subst hw''
            have HX5 := Lib.hid (show ScanAt g5.w bx s k ov from HX1.out.below g5.h)
            have HG5 := Lib.hid (HG1.out.trans (.of_below g5.h))
            have d0 : g5.w.cell? ⟨bx, 0, none⟩ = some (.string s) := HX5.out.c 0
            have d1 : g5.w.cell? ⟨bx, 1, none⟩ = some (.int .i64 (k : Int)) := HX5.out.c 1
            have df1 := HX5.out.f 1
            have dsh : g5.w.shape? bx = some (97, 3) := HX5.out.sh
            have dlt : bx < g5.w.heap.size := HX5.out.lt
            clear hq0 hq1
            go_wp2_with fail
            go_at_call 47
            refine (chars_q B bx s k i k ov L _ HX5.out (HO.out _ HG5.out) hB hk hL).mono ?_
            rintro e w7 ⟨rfl, h5⟩
            have H5 := Lib.hid h5; clear h5
            go_wp2_with fail
            go_end0
            rw [HS2.out]
            exact ⟨rfl, H5.out.from (HBl.out _ HG5.out)⟩
          · have e9 : ((k : Int) + 2 + (name.size : Int) == (s.size : Int)) = false := by rw [beq_eq_false_iff_ne]; omega
            have hK : k + 2 + name.size < s.size := by omega
            have hK' : (k : Int) + 2 + (name.size : Int) < (s.size : Int) := by omega
            obtain ⟨n2, hn2⟩ : ∃ n, nAt s (k + 2 + name.size) = n := ⟨_, rfl⟩
            have e2 : ((s[k + 2 + name.size]'hK).toNat : Int) = n2 := by rw [bAt_idx hK]; exact hn2
            obtain ⟨y, hy⟩ : ∃ a, tagN n2 = a := ⟨_, rfl⟩
            have HE2 := Lib.hid (show endAt s name k = !y by rw [HE.out, decide_eq_false hend, hn2, hy]; rfl)
            have HY := Lib.hid hy
            clear hend hn2 hy
            cases y with
            | true =>
              have HS2 := Lib.hid (HS.out.trans (seek_miss hks HE2.out))
              go_wp2_with fail
              simp only [List.append_eq, List.cons_append, List.nil_append]
              refine wp_region_grow (by kernel_rfl) (by kernel_rfl) ?_
              repeat (refine wq_step (fun K hK => ?_); go_simp; first | (refine hK _ ?_; clear hK K) | (refine ⟨.string z, fun q => ?_, hK _ ?_⟩; (go_at_call 123; exact Gr.calls (lowerT_q _ z _ (by rw [ext_size s hA1]; omega) HZ.out)); clear hK K) | (refine ⟨.bool true, fun q => ?_, hK _ ?_⟩; (go_at_call 83; exact Gr.same (tagB_q _ _ _ HY.out)); clear hK K))
              refine wq_nil ?_
              intro _ hw'
              obtain ⟨g5, hw''⟩ := hw'
              subst hw''
              have HX5 := Lib.hid (show ScanAt g5.w bx s k ov from HX1.out.below g5.h)
              have HG5 := Lib.hid (HG1.out.trans (.of_below g5.h))
              have d0 : g5.w.cell? ⟨bx, 0, none⟩ = some (.string s) := HX5.out.c 0
              have d1 : g5.w.cell? ⟨bx, 1, none⟩ = some (.int .i64 (k : Int)) := HX5.out.c 1
              have df1 := HX5.out.f 1
              have dsh : g5.w.shape? bx = some (97, 3) := HX5.out.sh
              have dlt : bx < g5.w.heap.size := HX5.out.lt
              clear hq0 hq1
              go_wp2_with fail
              go_roundw
              case rel => exact ⟨k + 1, by omega, by omega, HX5.out.go0 _ (by omega), HG5.out.set (Or.inl rfl) 1 _, HS2.out⟩
              case measure =>
                rw [HMe.out, iOf_scan (HX5.out.go0 (j := k + 1) _ (by omega))]
                omega
            | false =>
              have HS2 := Lib.hid (HS.out.trans (seek_hit hks HE2.out))
              go_wp2_with fail
              simp only [List.append_eq, List.cons_append, List.nil_append]
              refine wp_region_grow (by kernel_rfl) (by kernel_rfl) ?_
              repeat (refine wq_step (fun K hK => ?_); go_simp; first | (refine hK _ ?_; clear hK K) | (refine ⟨.string z, fun q => ?_, hK _ ?_⟩; (go_at_call 123; exact Gr.calls (lowerT_q _ z _ (by rw [ext_size s hA1]; omega) HZ.out)); clear hK K) | (refine ⟨.bool false, fun q => ?_, hK _ ?_⟩; (go_at_call 83; exact Gr.same (tagB_q _ _ _ HY.out)); clear hK K))
              refine wq_nil ?_
              intro _ hw'
              obtain ⟨g5, hw''⟩ := hw'
              subst hw''
              have HX5 := Lib.hid (show ScanAt g5.w bx s k ov from HX1.out.below g5.h)
              have HG5 := Lib.hid (HG1.out.trans (.of_below g5.h))
              have d0 : g5.w.cell? ⟨bx, 0, none⟩ = some (.string s) := HX5.out.c 0
              have d1 : g5.w.cell? ⟨bx, 1, none⟩ = some (.int .i64 (k : Int)) := HX5.out.c 1
              have df1 := HX5.out.f 1
              have dsh : g5.w.shape? bx = some (97, 3) := HX5.out.sh
              have dlt : bx < g5.w.heap.size := HX5.out.lt
              clear hq0 hq1
              go_wp2_with fail
              go_at_call 47
              refine (chars_q B bx s k i k ov L _ HX5.out (HO.out _ HG5.out) hB hk hL).mono ?_
              rintro e w7 ⟨rfl, h5⟩
              have H5 := Lib.hid h5; clear h5
              go_wp2_with fail
              go_end0
              rw [HS2.out]
              exact ⟨rfl, H5.out.from (HBl.out _ HG5.out)⟩
      · have HE := Lib.hid (end_no hA)
        have HS2 := Lib.hid (HS.out.trans (seek_miss hks HE.out))
        obtain ⟨n0, hn0⟩ : ∃ n, nAt s k = n := ⟨_, rfl⟩
        have e0 : ((s[k]'hks).toNat : Int) = n0 := by rw [bAt_idx hks]; exact hn0
        by_cases h60 : n0 = 60
        · subst h60
          by_cases hf : k + 2 + name.size ≤ s.size
          · have hk1 : k + 1 < s.size := by omega
            have hfit : (k : Int) + 2 + (name.size : Int) ≤ (s.size : Int) := by omega
            have hk1' : (k : Int) + 1 < (s.size : Int) := by omega
            obtain ⟨n1, hn1⟩ : ∃ n, nAt s (k + 1) = n := ⟨_, rfl⟩
            have e1 : ((s[k + 1]'hk1).toNat : Int) = n1 := by rw [bAt_idx hk1]; exact hn1
            have z1 : (n1 == 47) = false := by rw [beq_eq_false_iff_ne]; intro e; exact hA ⟨hf, hn0, by rw [hn1, e]⟩
            clear hA hn1 hn0
            go_wp2_with fail
            try simp only [List.append_eq, List.cons_append, List.nil_append]
            go_quiet (fail)
            go_wp2_with fail
            go_roundw
            case rel => exact ⟨k + 1, by omega, by omega, HX1.out.go _ (by omega) _, (HG1.out.drewN _).set (Or.inl rfl) 1 _, HS2.out⟩
            case measure =>
              rw [HMe.out, iOf_scan (HX1.out.go (j := k + 1) _ (by omega) _)]
              omega
          · have hfit : decide ((k : Int) + 2 + (name.size : Int) ≤ (s.size : Int)) = false := decide_eq_false (by omega)
            clear hA hn0
            go_wp2_with fail
            try simp only [List.append_eq, List.cons_append, List.nil_append]
            go_quiet (fail)
            go_wp2_with fail
            go_roundw
            case rel => exact ⟨k + 1, by omega, by omega, HX1.out.go _ (by omega) _, (HG1.out.drewN _).set (Or.inl rfl) 1 _, HS2.out⟩
            case measure =>
              rw [HMe.out, iOf_scan (HX1.out.go (j := k + 1) _ (by omega) _)]
              omega
        · have z0 : (n0 == 60) = false := by rw [beq_eq_false_iff_ne]; exact h60
          clear hA hn0 h60
          go_wp2_with fail
          try simp only [List.append_eq, List.cons_append, List.nil_append]
          go_quiet (fail)
          go_wp2_with fail
          go_roundw
          case rel => exact ⟨k + 1, by omega, by omega, HX1.out.go _ (by omega) _, (HG1.out.drewN _).set (Or.inl rfl) 1 _, HS2.out⟩
          case measure =>
            rw [HMe.out, iOf_scan (HX1.out.go (j := k + 1) _ (by omega) _)]
            omega
    · have hks' : ¬ (k : Int) < (s.size : Int) := by omega
      have hke : s.size ≤ k := by omega
      have HS := Lib.hid (HS.out.trans (seek_end hke))
      go_wp2_with fail
      go_quiet (fail)
      go_wp2_with fail
      go_at_call 47
      refine (chars_q B bx s k i k ov L _ (HX0.out.drewN _) (HO.out _ (HG0.out.drewN _)) hB hk hL).mono ?_
      rintro e w5 ⟨rfl, h5⟩
      have H5 := Lib.hid h5; clear h5
      go_wp2_with fail
      go_end0
      rw [HS.out]
      exact ⟨rfl, H5.out.from (HBl.out _ (HG0.out.drewN _))⟩

end Go.Proofs.YtbhildmalcfhiaaGreatDoor
