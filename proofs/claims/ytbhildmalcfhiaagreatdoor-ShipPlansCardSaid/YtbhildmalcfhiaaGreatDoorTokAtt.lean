/-
  Tokens: attributes: the scanner's attrs.
-/
import Derived.Test.YtbhildmalcfhiaaGreatDoorTokVal
import Derived.Test.YtbhildmalcfhiaaGreatDoorUnDo
import Derived.Deep.Cut
import Derived.Deep.CutRange
namespace Go.Proofs.YtbhildmalcfhiaaGreatDoor
open Go.RowKit Go.Deep

/-- the scanner, the token's box, and the row of its attributes -/
structure AState (N bx tb : Nat) (s : ByteArray) (k : Nat) (ov : Value) (kd ai : Int) (nm tx : ByteArray) (D : List AttrR) (A : Option Addr) (c : Nat) (w0 w : World) : Prop where
  sc : ScanAt w bx s k ov
  tk : CB w tb 56 #[.int .i64 kd, .int .i64 ai, .string nm, .string tx, .slice A D.length c]
  row : w.ownsRow N 68 2 (.slice A D.length c) D.length (attCells D)
  gr : GrownX (fun x => x = bx ∨ x = tb) w0 w
section
variable {N bx tb : Nat} {s : ByteArray} {k k2 : Nat} {ov : Value} {kd ai : Int} {nm tx : ByteArray} {D : List AttrR} {A : Option Addr} {c : Nat} {w0 w w' : World}
theorem AState.scan (h : AState N bx tb s k ov kd ai nm tx D A c w0 w) (hx : ScanAt w' bx s k2 ov) (g : GrownX (fun x => x = bx) w w') (hne : bx ≠ tb) (hb : bx < N) : AState N bx tb s k2 ov kd ai nm tx D A c w0 w' :=
  ⟨hx, h.tk.keepX g (fun e => hne e.symm), own_keepX h.row g (fun q hq e => by have := own_block_ge h.row q hq; omega), h.gr.trans (g.mono (fun _ _ e => Or.inl e))⟩
theorem AState.below (h : AState N bx tb s k ov kd ai nm tx D A c w0 w) (hb : Below w.heap.size w w') : AState N bx tb s k ov kd ai nm tx D A c w0 w' :=
  ⟨h.sc.below hb, h.tk.below hb, own_keepX h.row (GrownX.of_below (p := fun _ => False) hb) (fun _ _ e => e), h.gr.trans (.of_below hb)⟩
theorem AState.drewN (h : AState N bx tb s k ov kd ai nm tx D A c w0 w) (n : Nat) : AState N bx tb s k ov kd ai nm tx D A c w0 (w.drewN n) := h.below (Below.drewN' (Below.refl _ _) n)
theorem AState.alloc (h : AState N bx tb s k ov kd ai nm tx D A c w0 w) (o : Obj) : AState N bx tb s k ov kd ai nm tx D A c w0 (w.alloc o) := h.below ((Below.refl _ _).alloc (Nat.le_refl _) o)
theorem AState.lt (h : AState N bx tb s k ov kd ai nm tx D A c w0 w) : ∀ g, (Value.slice A D.length c).ownBlock = some g → g < w.heap.size := own_lt h.row
/-- a box of the call's own is written -/
theorem AState.box (h : AState N bx tb s k ov kd ai nm tx D A c w0 w) {ab : Nat} (hA : ∀ g, (Value.slice A D.length c).ownBlock = some g → g < ab) (hb : bx < ab) (ht : tb < ab) (h0 : w0.heap.size ≤ ab) (o : Nat) (v : Value) : AState N bx tb s k ov kd ai nm tx D A c w0 (w.setCell ⟨ab, o, none⟩ v) := by
  have g := GrownX.one0 w ab o v
  exact ⟨CB.keepX h.sc g (by omega), h.tk.keepX g (by omega), own_keepX h.row g (fun q hq e => by have := hA q hq; omega), h.gr.set (Or.inr h0) o v⟩
theorem AState.maxT {B : Nat} (h : AState N bx tb s k ov kd ai nm tx D A c w0 w) (hm : MaxT B w0) (hw : B ≤ w0.heap.size) (hb : B ≤ bx) (ht : B ≤ tb) : MaxT B w := hm.keep (h.gr.below hw (fun x e => by rcases e with e | e <;> omega))
theorem AState.push {W : World} {a : AttrR} {g6 k6 : Nat} (h : AState N bx tb s k ov kd ai nm tx D A c w0 w) (hW : Below w.heap.size w W) (hg : W.grownBy w' (Value.slice A D.length c).ownBlock)
    (own6 : w'.ownsRow N 68 2 (.slice (some ⟨g6, 0, none⟩) (D.length + 1) k6) (D.length + 1) (attCells D ++ [.string a.name, .string a.value])) (hne : bx ≠ tb) (hb : bx < N) (ht : tb < N) (hN : w0.heap.size = N) :
    AState N bx tb s k ov kd ai nm tx (D ++ [a]) (some ⟨g6, 0, none⟩) k6 w0 (w'.setCell ⟨tb, 4, none⟩ (.slice (some ⟨g6, 0, none⟩) (D.length + 1) k6)) := by
  have e : (D ++ [a]).length = D.length + 1 := by simp
  have hr : ∀ q, (Value.slice A D.length c).ownBlock = some q → N ≤ q := own_block_ge h.row
  have g := GrownX.one0 w' tb 4 (.slice (some ⟨g6, 0, none⟩) (D.length + 1) k6)
  have h1 : CB w' bx 97 #[.string s, .int .i64 (k : Int), ov] := CB.other (CB.below h.sc hW) hg (fun e => by have := hr bx e.symm; omega)
  have h2 : CB w' tb 56 #[.int .i64 kd, .int .i64 ai, .string nm, .string tx, .slice A D.length c] := CB.other (CB.below h.tk hW) hg (fun e => by have := hr tb e.symm; omega)
  refine ⟨h1.keepX g (fun e => hne e), by rw [e]; exact h2.put 4 _, by rw [attCells_snoc, e]; exact own_keepX own6 g (fun q hq e => by have := own_block_ge own6 q hq; omega), ?_⟩
  exact ((h.gr.trans (.of_below hW)).trans2 (q := fun x => N ≤ x) (GrownX.of_grown hg (fun q hq => hr q hq)) (fun x hx e => by omega)).set (Or.inl (Or.inr rfl)) 4 _
end
def AttsPost (B bx tb : Nat) (s : ByteArray) (i : Nat) (ov : Value) (kd ai : Int) (nm tx : ByteArray) (w : World) (e : Ending) (w' : World) : Prop :=
  ∃ A c, e = .returned (.bool (decide ((attsV s i).2 < s.size))) ∧ AState w.heap.size bx tb s (min ((attsV s i).2 + 1) s.size) ov kd ai nm tx (attsV s i).1 A c w w' ∧ Below B w w'
theorem AttsPost.mk {B bx tb : Nat} {s : ByteArray} {i j m : Nat} {ov : Value} {kd ai : Int} {nm tx : ByteArray} {D : List AttrR} {A : Option Addr} {c : Nat} {w w' : World} {b : Bool} (h : attsV s i = (D, j)) (hb : decide (j < s.size) = b) (hm : min (j + 1) s.size = m) (hS : AState w.heap.size bx tb s m ov kd ai nm tx D A c w w') (hB : B ≤ bx) (hB2 : B ≤ tb) (hw : B ≤ w.heap.size) : AttsPost B bx tb s i ov kd ai nm tx w (.returned (.bool b)) w' := by
  refine ⟨A, c, by rw [h, hb], by rw [h]; simp only; rw [hm]; exact hS, hS.gr.below hw (fun x e => by rcases e with e | e <;> omega)⟩
theorem or3_false {a b c : Bool} (h : false = (a || b || c)) : a = false ∧ b = false ∧ c = false := by
  revert h; cases a <;> cases b <;> cases c <;> simp
set_option maxRecDepth 100000 in
set_option maxHeartbeats 40000000 in
theorem attrs_q (B bx tb : Nat) (s : ByteArray) (i : Nat) (ov : Value) (kd ai : Int) (nm tx : ByteArray) (w : World) (hX : ScanAt w bx s i ov)
    (hT : CB w tb 56 #[.int .i64 kd, .int .i64 ai, .string nm, .string tx, .slice none 0 0]) (hne : bx ≠ tb) (hB : B ≤ bx) (hB2 : B ≤ tb) (hi : i ≤ s.size) (hs : s.size ≤ 1048576) (hm : MaxT B w) :
    Calls Tryz.prog 84 #[.pointer (some ⟨bx, 0, none⟩), .pointer (some ⟨tb, 0, none⟩)] w (AttsPost B bx tb s i ov kd ai nm tx w) := by
  have hbw : bx < w.heap.size := hX.lt
  have htw : tb < w.heap.size := hT.lt
  have hBw : B ≤ w.heap.size := by omega
  have H0 := Lib.hid (⟨hX, hT, World.ownsRow_nil _ _ _ _, GrownX.refl _ _⟩ : AState w.heap.size bx tb s i ov kd ai nm tx [] none 0 w w)
  have HM := Lib.hid hm; clear hm hX hT
  obtain ⟨N, hN⟩ : ∃ N, w.heap.size = N := ⟨_, rfl⟩
  rw [hN] at H0 hbw htw hBw
  have HN := Lib.hid hN; clear hN
  go_enter Tryz.func84, Tryz.ntmps84
  go_wp2_with fail
  go_loopw [] (fun wr => ∃ (k : Nat) (D : List AttrR) (A : Option Addr) (c : Nat), i ≤ k ∧ k ≤ s.size ∧ D.length ≤ k ∧ Hid (AttsRel s i D k) ∧ Hid (AState N bx tb s k ov kd ai nm tx D A c w wr)) (fun wr => s.size - iOf wr bx)
  case atStart => exact ⟨i, [], none, 0, Nat.le_refl _, hi, Nat.zero_le _, AttsRel.start _ _, H0⟩
  case round =>
    clear H0
    obtain ⟨k, D, A, c, hik, hk, hDk, HR, HS0⟩ := hrel
    have HMe := Lib.hid (iOf_scan HS0.out.sc)
    have b0 : wr.cell? ⟨bx, 0, none⟩ = some (.string s) := HS0.out.sc.c 0
    have b1 : wr.cell? ⟨bx, 1, none⟩ = some (.int .i64 (k : Int)) := HS0.out.sc.c 1
    have hlt : bx < wr.heap.size := HS0.out.sc.lt
    have hk0 : (0 : Int) ≤ (k : Int) := by omega
    by_cases hks : k < s.size
    · have hks' : (k : Int) < (s.size : Int) := by omega
      obtain ⟨n, hn⟩ : ∃ n, nAt s k = n := ⟨_, rfl⟩
      have e0 : ((s[k]'hks).toNat : Int) = n := by rw [bAt_idx hks]; exact hn
      go_wp2_with fail
      go_quiet (fail)
      obtain ⟨W1, hW⟩ : ∃ W, wr.drewN nq = W := ⟨_, rfl⟩
      have HS1 := Lib.hid (show AState N bx tb s k ov kd ai nm tx D A c w W1 by rw [← hW]; exact HS0.out.drewN _)
      rw [hW]
      clear hW
      clear b0 b1 hlt HS0
      have b0 : W1.cell? ⟨bx, 0, none⟩ = some (.string s) := HS1.out.sc.c 0
      have b1 : W1.cell? ⟨bx, 1, none⟩ = some (.int .i64 (k : Int)) := HS1.out.sc.c 1
      have bf1 := HS1.out.sc.f 1
      have bsh : W1.shape? bx = some (97, 3) := HS1.out.sc.sh
      have hlt : bx < W1.heap.size := HS1.out.sc.lt
      go_wp2_with fail
      go_quiet (fail)
      obtain ⟨W2, hW⟩ : ∃ W, W1.drewN nq = W := ⟨_, rfl⟩
      have HS2 := Lib.hid (show AState N bx tb s k ov kd ai nm tx D A c w W2 by rw [← hW]; exact HS1.out.drewN _)
      rw [hW]
      clear hW
      clear b0 b1 bf1 bsh hlt
      clear HS1
      have b0 : W2.cell? ⟨bx, 0, none⟩ = some (.string s) := HS2.out.sc.c 0
      have b1 : W2.cell? ⟨bx, 1, none⟩ = some (.int .i64 (k : Int)) := HS2.out.sc.c 1
      have bf1 := HS2.out.sc.f 1
      have bsh : W2.shape? bx = some (97, 3) := HS2.out.sc.sh
      have hlt : bx < W2.heap.size := HS2.out.sc.lt
      by_cases h62 : n = 62
      · have HV := Lib.hid (HR.out.stop (Or.inr (hn.trans h62)))
        have z62 : (n == 62) = true := by rw [beq_iff_eq]; exact h62
        clear h62 hn
        have HF := Lib.hid (AState.scan HS2.out (HS2.out.sc.go0 ((k : Int) + 1) (by omega : (k : Int) + 1 = ((k + 1 : Nat) : Int))) (GrownX.one0 _ _ _ _) hne hbw)
        go_wp2_with fail
        go_ret
        rw [← HN.out] at HF
        exact AttsPost.mk HV.out (by simpa using hks) (by omega) HF.out hB hB2 (by have := HN.out; omega)
      · have z62 : (n == 62) = false := by rw [beq_eq_false_iff_ne]; exact h62
        obtain ⟨l, hl⟩ : ∃ a, isLetterP n = a := ⟨_, rfl⟩
        obtain ⟨v, hv⟩ : ∃ a, begN n = a := ⟨_, rfl⟩
        have HL := Lib.hid hl
        have HBg := Lib.hid (show v = (l || (n == 95) || (n == 58)) by rw [← hv, begN, hl])
        clear hl
        cases v with
        | false =>
          have HR2 := Lib.hid (HR.out.skip hks (by rw [hn]; exact h62) (by rw [hn]; exact hv))
          obtain ⟨hlf, z95, z58⟩ := or3_false HBg.out
          subst hlf
          clear hv hn h62
          go_wp2_with (go_at_call 80; go_must (refine (shipIsLetter_any n _ _ HL.out).mono ?_); rintro e w1 ⟨rfl, rfl⟩)
          go_roundw
          case rel => exact ⟨k + 1, D, A, c, by omega, by omega, by omega, HR2.out, AState.scan HS2.out (HS2.out.sc.go0 _ (by omega)) (GrownX.one0 _ _ _ _) hne hbw⟩
          case measure =>
            rw [HMe.out, iOf_scan (HS2.out.sc.go0 (j := k + 1) _ (by omega))]
            omega
        | true =>
          have HR2 := Lib.hid (HR.out.push hks (by rw [hn]; exact h62) (by rw [hn]; exact hv))
          have hbe := attEnd_le hks (by rw [hn]; exact hv)
          have hsb := skip_beg hks (by rw [hn]; exact hv)
          obtain ⟨E, hE⟩ : ∃ E, attEnd s k = E := ⟨_, rfl⟩
          obtain ⟨K, hK⟩ : ∃ K, skipTo attN s k = K := ⟨_, rfl⟩
          rw [hE] at hbe HR2
          rw [hK] at hsb
          have HE := Lib.hid (show (attVal s K).2 = E by rw [← hK]; exact hE)
          have HAt := Lib.hid (show attAt s k = ⟨lowBA (s.extract k K), (attVal s K).1⟩ by rw [← hK]; rfl)
          have HK := Lib.hid hK
          clear hE hK hv hn h62
          go_upto_region 7 with fail
          go_cut [43] from 7 to 99 (fun s43 wx => s43 = .bool true ∧ wx = W2)
          case first =>
            cases l with
            | true =>
              go_wp2_with (go_at_call 80; go_must (refine (shipIsLetter_any n _ _ HL.out).mono ?_); rintro e w1 ⟨rfl, rfl⟩)
              go_meet
              exact ⟨rfl, rfl⟩
            | false =>
              cases z95 : (n == 95) with
              | true =>
                go_wp2_with (go_at_call 80; go_must (refine (shipIsLetter_any n _ _ HL.out).mono ?_); rintro e w1 ⟨rfl, rfl⟩)
                go_meet
                exact ⟨rfl, rfl⟩
              | false =>
                have z58 : (n == 58) = true := by have := HBg.out; rw [z95] at this; simpa using this.symm
                go_wp2_with (go_at_call 80; go_must (refine (shipIsLetter_any n _ _ HL.out).mono ?_); rintro e w1 ⟨rfl, rfl⟩)
                go_meet
                exact ⟨rfl, rfl⟩
          case rest =>
            obtain ⟨rfl, rfl⟩ := hcut
            go_wp2_with (go_at_call 82; go_must (refine (nameA_q bx s k ov _ HS2.out.sc hk hs).mono ?_); rintro e w3 ⟨rfl, hx3, hg3⟩; have HS3 := Lib.hid (HS2.out.scan hx3 hg3 hne hbw); clear hx3 hg3)
            rw [HK.out] at HS3 ⊢
            obtain ⟨nb, hnb⟩ : ∃ nb, lowBA (s.extract k K) = nb := ⟨_, rfl⟩
            rw [hnb] at HAt ⊢
            obtain ⟨ab, hab⟩ : ∃ ab, w3.heap.size = ab := ⟨_, rfl⟩
            obtain ⟨W4, hW⟩ : ∃ W, w3.alloc (.cells #[.string nb, .string ⟨#[]⟩] 68) = W := ⟨_, rfl⟩
            have HAB4 := Lib.hid (show CB W4 ab 68 #[.string nb, .string ⟨#[]⟩] by rw [← hW, ← hab]; exact CB.new _ _ _)
            have HS4 := Lib.hid (show AState N bx tb s K ov kd ai nm tx D A c w W4 by rw [← hW]; exact HS3.out.alloc _)
            have HA := Lib.hid (show ∀ g, (Value.slice A D.length c).ownBlock = some g → g < ab by rw [← hab]; exact HS3.out.lt)
            have habw : w.heap.size ≤ ab := by rw [← hab]; exact HS3.out.gr.size
            have hbab : bx < ab := by rw [← hab]; exact HS3.out.sc.lt
            have htab : tb < ab := by rw [← hab]; exact HS3.out.tk.lt
            rw [hW, hab]
            clear hW hab hnb HS3 HS2 b0 b1 bf1 bsh hlt
            have b0 : W4.cell? ⟨bx, 0, none⟩ = some (.string s) := HS4.out.sc.c 0
            have b1 : W4.cell? ⟨bx, 1, none⟩ = some (.int .i64 (K : Int)) := HS4.out.sc.c 1
            have bf1 := HS4.out.sc.f 1
            have bsh : W4.shape? bx = some (97, 3) := HS4.out.sc.sh
            have hlt : bx < W4.heap.size := HS4.out.sc.lt
            have hK0 : (0 : Int) ≤ (K : Int) := by omega
            have hK1 : (K : Int) ≤ (s.size : Int) := by omega
            by_cases hq : K < s.size ∧ nAt s K = 61
            · have hKs := hq.1
              have hKs' : (K : Int) < (s.size : Int) := by omega
              have eK : ((s[K]'hKs).toNat : Int) = 61 := by rw [bAt_idx hKs]; exact hq.2
              have HVv := Lib.hid (valR_att hq.1 hq.2)
              clear hq
              obtain ⟨vb, vn, hvr⟩ : ∃ vb vn, valR s (K + 1) = (vb, vn) := ⟨_, _, rfl⟩
              have hvl := valR_le (s := s) (i := K + 1) (by omega)
              rw [hvr] at HVv hvl
              simp only at hvl
              have HVr := Lib.hid hvr
              clear hvr
              obtain ⟨u, hu⟩ : ∃ u, unBA vb = u := ⟨_, rfl⟩
              have HU := Lib.hid hu
              clear hu
              have HEv := Lib.hid (show vn = E by rw [← HE.out, HVv.out])
              have HR3 := Lib.hid (show AttsRel s i (D ++ [⟨nb, u⟩]) E by rw [← HU.out]; have h9 := HR2.out; rw [HAt.out, HVv.out] at h9; exact h9)
              go_quiet (fail)
              obtain ⟨W5, hW⟩ : ∃ W, W4.drewN nq = W := ⟨_, rfl⟩
              have HS5 := Lib.hid (show AState N bx tb s K ov kd ai nm tx D A c w W5 by rw [← hW]; exact HS4.out.drewN _)
              have HAB5 := Lib.hid (show CB W5 ab 68 #[.string nb, .string ⟨#[]⟩] by rw [← hW]; exact HAB4.out.drewN _)
              rw [hW]
              clear hW HS4 HAB4 b0 b1 bf1 bsh hlt
              have b0 : W5.cell? ⟨bx, 0, none⟩ = some (.string s) := HS5.out.sc.c 0
              have b1 : W5.cell? ⟨bx, 1, none⟩ = some (.int .i64 (K : Int)) := HS5.out.sc.c 1
              have bf1 := HS5.out.sc.f 1
              have bsh : W5.shape? bx = some (97, 3) := HS5.out.sc.sh
              have hlt : bx < W5.heap.size := HS5.out.sc.lt
              have HS6 := Lib.hid (AState.scan HS5.out (HS5.out.sc.go0 ((K : Int) + 1) (by omega : (K : Int) + 1 = ((K + 1 : Nat) : Int))) (GrownX.one0 _ _ _ _) hne hbw)
              have HAB6 := Lib.hid (HAB5.out.keepX (GrownX.one0 W5 bx 1 (.int .i64 ((K : Int) + 1))) (by omega))
              have HM6 := Lib.hid (HS6.out.maxT HM.out (by have := HN.out; omega) hB hB2)
              go_wp2_with (first
                | (go_at_call 127; go_must (refine (value_q B bx s (K + 1) ov _ HS6.out.sc (by omega) hs HM6.out hB).mono ?_); rw [HVr.out]; rintro e w7 ⟨rfl, hx7, hg7⟩; have HS7 := Lib.hid (HS6.out.scan hx7 hg7 hne hbw); have HAB7 := Lib.hid (HAB6.out.keepX hg7 (by omega)); clear hx7 hg7)
                | (go_at_call 126; go_must (refine (unescape_q vb u _ HU.out (by omega)).mono ?_); rintro e w8 ⟨rfl, hb8⟩; have HS8 := Lib.hid (HS7.out.below hb8); have HAB8 := Lib.hid (HAB7.out.below hb8); clear hb8; have c1 : w8.cell? ⟨ab, 1, none⟩ = some (.string ⟨#[]⟩) := HAB8.out.c 1; have c1f := HAB8.out.f 1; have c1s : w8.shape? ab = some (68, 2) := HAB8.out.sh; have c1l : ab < w8.heap.size := HAB8.out.lt))
              have HS9 := Lib.hid (HS8.out.box HA.out hbab htab habw 1 (.string u))
              have HAB9 := Lib.hid (HAB8.out.put 1 (.string u))
              obtain ⟨W9, hW⟩ : ∃ W, w8.setCell ⟨ab, 1, none⟩ (.string u) = W := ⟨_, rfl⟩
              rw [hW] at HS9 HAB9 ⊢
              rw [HEv.out] at HS9
              clear hW c1 c1f c1s c1l HS8 HAB8 HS7 HAB7 HS6 HAB6 HS5 HAB5 b0 b1 bf1 bsh hlt
              have t4 : W9.cell? ⟨tb, 4, none⟩ = some (.slice A D.length c) := HS9.out.tk.c 4
              have a0 : W9.cell? ⟨ab, 0, none⟩ = some (.string nb) := HAB9.out.c 0
              have a1 : W9.cell? ⟨ab, 1, none⟩ = some (.string u) := HAB9.out.c 1
              have htl : tb < W9.heap.size := HS9.out.tk.lt
              have hal : ab < W9.heap.size := HAB9.out.lt
              have hNW : N ≤ W9.heap.size := by have h8 := HS9.out.gr.size; have h9 := HN.out; omega
              go_wp2_with fail
              go_region_law (refine step_pushT rfl (.tmp 94) (.tmp 96) 54 rfl N 68 _ 2 32 Tryz.underlying54 info_att rfl (by omega) (.slice A D.length c) D.length _ (by simp [Act.eval]) (own_alloc (own_drew HS9.out.row) _) [.string nb, .string u] rfl _ (by simp [Act.eval]) (cell_new _ [.string nb, .string u] 68 _ rfl) (by intro u hu; simp at hu; rcases hu with rfl | rfl <;> rfl) (by omega) (by unfold maxLen; omega) (by simp; omega) ?_
                             intro g6 k6 w6 own6 hg6 hgg6 hb6
                             have HF6 := Lib.hid (HS9.out.push (a := ⟨nb, u⟩) (((Below.refl _ _).alloc (Nat.le_refl _) (.cells #[.string nb, .string u] 68)).drew) hg6 own6 hne hbw htw HN.out)
                             have HT6 := Lib.hid (CB.other (CB.drew (CB.alloc HS9.out.tk (.cells #[.string nb, .string u] 68))) hg6 (fun e => by have := own_block_ge HS9.out.row tb e.symm; omega))
                             clear own6 hg6 hgg6 hb6
                             have u4 : w6.cell? ⟨tb, 4, none⟩ = some (.slice A D.length c) := HT6.out.c 4
                             have u4f := HT6.out.f 4
                             have u4s : w6.shape? tb = some (56, 5) := HT6.out.sh)
              all_goals
                try go_wp2_with fail
                go_roundw
                case rel => exact ⟨E, D ++ [⟨nb, u⟩], _, _, by omega, by omega, by rw [List.length_append]; simp only [List.length_cons, List.length_nil]; omega, HR3, HF6⟩
                case measure =>
                  rw [HMe.out, iOf_scan HF6.out.sc]
                  omega
            · have HVv := Lib.hid (attVal_none hq)
              have eK : K < s.size → ∃ h : K < s.size, ((s[K]'h).toNat : Int) = nAt s K ∧ ((nAt s K) == 61) = false := fun h => ⟨h, by rw [bAt_idx h]; rfl, by simpa using fun e => hq ⟨h, e⟩⟩
              clear hq
              have HEv := Lib.hid (show K = E by rw [← HE.out, HVv.out])
              have HR3 := Lib.hid (show AttsRel s i (D ++ [⟨nb, ⟨#[]⟩⟩]) E by have h9 := HR2.out; rw [HAt.out, HVv.out] at h9; exact h9)
              go_cut [6, 78] from 7 to 99 (fun s6 s78 wx => s6 = .pointer (some ⟨ab, 0, none⟩) ∧ s78 = .bool false ∧ ∃ nq, wx = W4.drewN nq)
              case first =>
                by_cases hKs : K < s.size
                · have hKs' : (K : Int) < (s.size : Int) := by omega
                  obtain ⟨_, e0, e2⟩ := eK hKs
                  clear eK
                  go_quiet (fail)
                  go_wp2_with fail
                  go_meet
                  exact ⟨rfl, rfl, _, rfl⟩
                · have hKs' : ¬ (K : Int) < (s.size : Int) := by omega
                  clear eK
                  go_quiet (fail)
                  go_wp2_with fail
                  go_meet
                  exact ⟨rfl, rfl, _, rfl⟩
              case rest =>
                obtain ⟨rfl, rfl, nq, hW⟩ := hcut
                have HS9 := Lib.hid (show AState N bx tb s E ov kd ai nm tx D A c w wc by rw [hW, ← HEv.out]; exact HS4.out.drewN _)
                have HAB9 := Lib.hid (show CB wc ab 68 #[.string nb, .string ⟨#[]⟩] by rw [hW]; exact HAB4.out.drewN _)
                clear hW HS4 HAB4 b0 b1 bf1 bsh hlt eK
                have t4 : wc.cell? ⟨tb, 4, none⟩ = some (.slice A D.length c) := HS9.out.tk.c 4
                have a0 : wc.cell? ⟨ab, 0, none⟩ = some (.string nb) := HAB9.out.c 0
                have a1 : wc.cell? ⟨ab, 1, none⟩ = some (.string ⟨#[]⟩) := HAB9.out.c 1
                have htl : tb < wc.heap.size := HS9.out.tk.lt
                have hal : ab < wc.heap.size := HAB9.out.lt
                have hNW : N ≤ wc.heap.size := by have h8 := HS9.out.gr.size; have h9 := HN.out; omega
                go_wp2_with fail
                go_region_law (refine step_pushT rfl (.tmp 94) (.tmp 96) 54 rfl N 68 _ 2 32 Tryz.underlying54 info_att rfl (by omega) (.slice A D.length c) D.length _ (by simp [Act.eval]) (own_alloc (own_drew HS9.out.row) _) [.string nb, .string ⟨#[]⟩] rfl _ (by simp [Act.eval]) (cell_new _ [.string nb, .string ⟨#[]⟩] 68 _ rfl) (by intro u hu; simp at hu; rcases hu with rfl | rfl <;> rfl) (by omega) (by unfold maxLen; omega) (by simp; omega) ?_
                               intro g6 k6 w6 own6 hg6 hgg6 hb6
                               have HF6 := Lib.hid (HS9.out.push (a := ⟨nb, ⟨#[]⟩⟩) (((Below.refl _ _).alloc (Nat.le_refl _) (.cells #[.string nb, .string ⟨#[]⟩] 68)).drew) hg6 own6 hne hbw htw HN.out)
                               have HT6 := Lib.hid (CB.other (CB.drew (CB.alloc HS9.out.tk (.cells #[.string nb, .string ⟨#[]⟩] 68))) hg6 (fun e => by have := own_block_ge HS9.out.row tb e.symm; omega))
                               clear own6 hg6 hgg6 hb6
                               have u4 : w6.cell? ⟨tb, 4, none⟩ = some (.slice A D.length c) := HT6.out.c 4
                               have u4f := HT6.out.f 4
                               have u4s : w6.shape? tb = some (56, 5) := HT6.out.sh)
                all_goals
                  try go_wp2_with fail
                  go_roundw
                  case rel => exact ⟨E, D ++ [⟨nb, ⟨#[]⟩⟩], _, _, by omega, by omega, by rw [List.length_append]; simp only [List.length_cons, List.length_nil]; omega, HR3, HF6⟩
                  case measure =>
                    rw [HMe.out, iOf_scan HF6.out.sc]
                    omega

    · have hks' : ¬ (k : Int) < (s.size : Int) := by omega
      obtain rfl : k = s.size := by omega
      have HV := Lib.hid (HR.out.stop (Or.inl (Nat.le_refl _)))
      go_wp2_with fail
      go_quiet (fail)
      go_wp2_with fail
      go_ret
      rw [← HN.out] at HS0
      exact AttsPost.mk HV.out (by simp) (by omega) (HS0.out.drewN _) hB hB2 (by have := HN.out; omega)

end Go.Proofs.YtbhildmalcfhiaaGreatDoor
