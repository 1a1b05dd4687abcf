/-
  Lists of inlines that can be printed, by the reference: mastref1.goodInlines.
-/
import Derived.Test.YtlganccpgchmeaaDoorFitRInl
namespace Go.Proofs.YtlganccpgchmeaaDoor
open Go.RowKit Go.Deep

theorem goodInline_q (n : Node) (A : Option Addr) (c : Nat) (em st li ce ls : Bool) (kd p : Int) (w : World) (hce : (kd == 10) = ce) (h : NodesAt w (.slice A n.kids.length c) n.kids) (hn : nodeErr n p = 0) (hk : isInlineB n.kind = true) (hsz : n.text.size + n.dest.size + n.title.size ≤ 1073741824)
    (hrec : ∀ (em st li : Bool) (W : World), Keeps w W → Calls Tryd.prog 60 #[.slice A n.kids.length c, .int .i64 n.kind, .agg #[.bool em, .bool st, .bool li, .bool ce, .bool ls]] W (InlRes (edgeB n.kind n.kids && inlL n.kids none em st li kd) W)) :
    Calls Tryd.prog 88 #[.agg #[.int .i64 n.kind, .int .i64 n.level, .string n.text, .string n.dest, .string n.title, .slice A n.kids.length c], .agg #[.bool em, .bool st, .bool li, .bool ce, .bool ls]] w (InlRes (rinl n em st li kd) w) := by
  obtain ⟨u1, u2, u3⟩ := node_unused hn
  obtain ⟨k, lv, x, d, t, ks⟩ := n
  have hk2 : k = 11 ∨ k = 12 ∨ k = 13 ∨ k = 14 ∨ k = 15 ∨ k = 16 ∨ k = 17 ∨ k = 18 := by
    have hk3 : isInlineB k = true := hk
    simp only [isInlineB, decide_eq_true_eq] at hk3
    omega
  simp only [Node.kids, Node.text, Node.dest, Node.title, Node.kind] at h hsz hrec u1 u2 u3
  rcases hk2 with rfl | rfl | rfl | rfl | rfl | rfl | rfl | rfl
  · exact goodInline_str lv x d t ks A c em st li ce ls kd w hce hsz
  · exact goodInline_soft lv x d t ks A c em st li ce ls kd w hce hsz
  · exact goodInline_hard lv x d t ks A c em st li ce ls kd w hce hsz
  · exact goodInline_emph lv x d t ks A c em st li ce ls kd w hce hsz h hrec
  · exact goodInline_strong lv x d t ks A c em st li ce ls kd w hce hsz h hrec
  · exact goodInline_code lv x d t ks A c em st li ce ls kd w hce hsz ⟨u2 (by decide), u3 (by decide)⟩
  · exact goodInline_link lv x d t ks A c em st li ce ls kd w hce hsz (u1 (by decide)) h hrec
  · exact goodInline_image lv x d t ks A c em st li ce ls kd w hce hsz
/-- an edge that a list can have -/
def edgeOk (par : Int) (a : Node) : Bool := !(brk a.kind || (star par && star a.kind))
theorem edge_of {par : Int} {l : List Node} (h : ∀ (j : Nat) (a : Node), l[j]? = some a → (j = 0 ∨ j + 1 = l.length) → edgeOk par a = true) : edgeB par l = true := by
  cases hl : l.length with
  | zero =>
    have : l = [] := List.length_eq_zero_iff.1 hl
    rw [this]; rfl
  | succ q =>
    obtain ⟨a, ha⟩ : ∃ a, l[0]? = some a := ⟨_, List.getElem?_eq_getElem (by omega)⟩
    obtain ⟨b, hb⟩ : ∃ b, l[q]? = some b := ⟨_, List.getElem?_eq_getElem (by omega)⟩
    rw [edge_ends hl ha hb]
    have h1 := h 0 a ha (Or.inl rfl)
    have h2 := h q b hb (Or.inr hl.symm)
    unfold edgeOk at h1 h2
    revert h1 h2
    cases brk a.kind <;> cases brk b.kind <;> cases star par <;> cases star a.kind <;> cases star b.kind <;> simp
theorem edge_no {par : Int} {l : List Node} {j : Nat} {a : Node} (ha : l[j]? = some a) (hj : j = 0 ∨ j + 1 = l.length) (hn : edgeOk par a = false) : edgeB par l = false := by
  have hjl := (List.getElem?_eq_some_iff.1 ha).1
  obtain ⟨q, hq⟩ : ∃ q, l.length = q + 1 := ⟨l.length - 1, by omega⟩
  obtain ⟨a0, ha0⟩ : ∃ a, l[0]? = some a := ⟨_, List.getElem?_eq_getElem (by omega)⟩
  obtain ⟨b0, hb0⟩ : ∃ b, l[q]? = some b := ⟨_, List.getElem?_eq_getElem (by omega)⟩
  rw [edge_ends hq ha0 hb0]
  have hor : a = a0 ∨ a = b0 := by
    rcases hj with h | h
    · left; rw [h] at ha; exact Option.some.inj (ha.symm.trans ha0)
    · right; rw [show j = q by omega] at ha; exact Option.some.inj (ha.symm.trans hb0)
  unfold edgeOk at hn
  rcases hor with h | h <;> (rw [h] at hn; revert hn; cases brk a0.kind <;> cases brk b0.kind <;> cases star par <;> cases star a0.kind <;> cases star b0.kind <;> simp)

set_option maxRecDepth 100000 in
set_option maxHeartbeats 32000000 in
theorem goodInlines_any (N : Nat) : ∀ (l : List Node) (v : Value) (par : Int) (em st li ce ls : Bool) (kd p : Int) (w : World), SizeOf.sizeOf l ≤ N → NodesAt w v l → nodesErr l p = 0 → noBlk p = true → weight l ≤ 1073741824 → (kd == 10) = ce → (kd == 2) = ls →
    Calls Tryd.prog 60 #[v, .int .i64 par, .agg #[.bool em, .bool st, .bool li, .bool ce, .bool ls]] w (InlRes (edgeB par l && inlL l none em st li kd) w) := by
  induction N with
  | zero =>
    intro l v par em st li ce ls kd p w hN
    cases l <;> simp at hN
  | succ N ih =>
    intro l v par em st li ce ls kd p w hN h he hp hw hce hls
    obtain ⟨An, c, bl, o, kv, rfl, hlc, hc, hA, hcell, hkid⟩ := h.inv
    have hll : l.length ≤ 1073741824 := Nat.le_trans (len_weight l) hw
    have HCell := Lib.hid hcell
    have HKid := Lib.hid hkid
    have HN := Lib.hid hN
    have HE := Lib.hid he
    have HP := Lib.hid hp
    have HW := Lib.hid hw
    have HI := Lib.hid ih
    have HA := Lib.hid hA
    have HCe := Lib.hid hce
    have HLs := Lib.hid hls
    obtain ⟨R0, hR0⟩ : ∃ R, inlL l none em st li kd = R := ⟨_, rfl⟩
    obtain ⟨R, hR⟩ : ∃ R, (edgeB par l && inlL l none em st li kd) = R := ⟨_, rfl⟩
    have HR0 := Lib.hid hR0
    have HR := Lib.hid (show R = (edgeB par l && R0) by rw [← hR, hR0])
    rw [hR]
    obtain ⟨sp, hsp⟩ : ∃ b, star par = b := ⟨_, rfl⟩
    have HSp := Lib.hid hsp
    have HX0 := Lib.hid (CB.new w #[.bool em, .bool st, .bool li, .bool ce, .bool ls] 72)
    have HB0 := Lib.hid ((Below.refl w.heap.size w).alloc (Nat.le_refl _) (.cells #[.bool em, .bool st, .bool li, .bool ce, .bool ls] 72))
    obtain ⟨nw, hnw⟩ : ∃ nw, w.heap.size = nw := ⟨_, rfl⟩
    have HNw := Lib.hid hnw
    rw [hnw] at HX0 HB0
    unfold maxLen at hc
    clear h hcell hkid hN he hp hw ih hA hR hR0 hsp hce hls
    rw [show (InlRes R w) = fun e w' => e = .returned (.bool R) ∧ Below nw w w' by rw [← hnw]; rfl]
    clear hnw
    go_enter Tryd.func60, Tryd.ntmps60
    go_wp2_with fail
    try rw [HNw.out]
    go_loopw [12] (fun t12 wr => ∃ k : Nat, k ≤ l.length ∧ t12 = .int .i64 k ∧ Hid (R0 = inlL (l.drop k) (prevN l k) em st li kd) ∧ Hid (∀ (j : Nat) (a : Node), j < k → l[j]? = some a → (j = 0 ∨ j + 1 = l.length) → edgeOk par a = true) ∧ Hid (CB wr nw 72 #[.bool em, .bool st, .bool li, .bool ce, .bool ls]) ∧ Hid (Below nw w wr)) (fun t _ => l.length - (intOf t).toNat)
    case atStart => exact ⟨0, Nat.zero_le _, rfl, Lib.hid (by rw [← HR0.out]; rfl), Lib.hid (fun j a hj => absurd hj (by omega)), HX0, HB0⟩
    case round =>
      clear HX0 HB0
      obtain ⟨k, hk, rfl, HS, HEd, HX, HB⟩ := hrel
      by_cases hlt : k < l.length
      · obtain rfl := HA.out (by rintro rfl; simp at hlt)
        obtain ⟨n, hn⟩ : ∃ n, l[k]? = some n := ⟨_, List.getElem?_eq_getElem hlt⟩
        have hkeep := Keeps.of_below (by rw [← HNw.out] at HB; exact HB.out)
        obtain ⟨p0, p1, p2, p3, p4, p5, _, _, _, _, _⟩ := (HCell.out k n hn).keep hkeep
        have hkid := (HKid.out k n hn).keep hkeep
        obtain ⟨A3, c3, b3, o3, k3, e3, _, _, _, _, _⟩ := hkid.inv
        rw [e3] at hkid p5
        obtain ⟨en1, en2⟩ := nodesErr_mem HE.out hn
        have hinl := perm_inline (nodeErr_perm en1) HP.out
        have hsz := node_sizes hn
        have hw9 := HW.out
        have HInl := Lib.hid hinl
        have HEn1 := Lib.hid en1
        have HEn2 := Lib.hid en2
        have HSz := Lib.hid (size_at HN.out hn)
        have HWk := Lib.hid (show weight n.kids ≤ 1073741824 by omega)
        have hts : n.text.size ≤ 1073741824 := by omega
        have HSs := Lib.hid (show n.text.size + n.dest.size + n.title.size ≤ 1073741824 by omega)
        have HAt := Lib.hid (inlL_at em st li kd hn)
        have HNx := Lib.hid hn
        obtain ⟨v2, hv2⟩ : ∃ v2, rinl n em st li kd = v2 := ⟨_, rfl⟩
        have HV2 := Lib.hid hv2
        obtain ⟨W0, hW0⟩ : ∃ W, wr.alloc (.cells #[.int .i64 n.kind, .int .i64 n.level, .string n.text, .string n.dest, .string n.title, .slice A3 n.kids.length c3] 31) = W := ⟨_, rfl⟩
        have HYr := Lib.hid (show CB W0 wr.heap.size 31 #[.int .i64 n.kind, .int .i64 n.level, .string n.text, .string n.dest, .string n.title, .slice A3 n.kids.length c3] by rw [← hW0]; exact CB.new _ _ _)
        have HXr := Lib.hid (show CB W0 nw 72 #[.bool em, .bool st, .bool li, .bool ce, .bool ls] by rw [← hW0]; exact HX.out.alloc _)
        have HBr := Lib.hid (show Below nw w W0 by rw [← hW0]; exact HB.out.alloc (by have := HB.out.size; have := HNw.out; omega) _)
        have HKr := Lib.hid (show NodesAt W0 (.slice A3 n.kids.length c3) n.kids by rw [← hW0]; exact hkid.keep (Keeps.alloc _ _))
        have y0 := HYr.out.c 0
        have y1 := HYr.out.c 1
        have y2 := HYr.out.c 2
        have y3 := HYr.out.c 3
        have y4 := HYr.out.c 4
        have y5 := HYr.out.c 5
        have x0 := HXr.out.c 0
        have x1 := HXr.out.c 1
        have x2 := HXr.out.c 2
        have x3 := HXr.out.c 3
        have x4 := HXr.out.c 4
        simp only [List.getElem?_toArray, List.getElem?_cons_zero, List.getElem?_cons_succ] at y0 y1 y2 y3 y4 y5 x0 x1 x2 x3 x4
        have bb := World.block_lt_of_cell? _ _ p0
        simp only at bb
        clear e3 hkid en1 en2 hinl hsz hw9 hv2 hn
        cases hbx : brk n.kind with
        | true =>
          have HBx := Lib.hid hbx
          obtain ⟨sx, hsx⟩ : ∃ b, star n.kind = b := ⟨_, rfl⟩
          have HSx := Lib.hid hsx
          clear hsx
          by_cases hk0 : k = 0
          · have tk : ((k : Int) == 0) = true := by simp; omega
            have hg : decide ((0 : Int) < (k : Int)) = false := by simp; omega
            have hgn : ¬ 0 < k := by omega
            have HPv := Lib.hid (show pvB (prevN l k) n = true by rw [hk0]; rfl)
            have HPl := Lib.hid (show k = 0 ∨ k + 1 = l.length from Or.inl hk0)
            clear hk0
            have HOk := Lib.hid (show edgeOk par n = false by unfold edgeOk; rw [hbx]; rfl)
            clear hbx
            go_upto_region 4 with fail
            try rw [hW0]
            clear hkeep p0 p1 p2 p3 p4 p5 hW0
            have HRf := Lib.hid (show R = false by rw [HR.out, edge_no HNx.out HPl.out HOk.out]; rfl)
            go_wp2_with (first
              | (go_at_call_of 85 n.kind; go_must (refine (ended_r n.kind _ _ HBx.out).mono ?_); rintro e w3 ⟨rfl, hw3⟩; obtain rfl := hw3.symm)
              | (go_at_call_of 86 n.kind; go_must (refine (starred_r n.kind _ _ HSx.out).mono ?_); rintro e w3 ⟨rfl, hw3⟩; obtain rfl := hw3.symm)
              | (go_at_call 86; go_must (refine (starred_r par _ _ HSp.out).mono ?_); rintro e w3 ⟨rfl, hw3⟩; obtain rfl := hw3.symm))
            go_ret
            exact ⟨ret_bool HRf.out.symm, HBr.out⟩
          · obtain ⟨j, hj⟩ : ∃ j, k = j + 1 := ⟨k - 1, by omega⟩
            obtain ⟨a, ha⟩ : ∃ a, l[j]? = some a := ⟨_, List.getElem?_eq_getElem (by omega)⟩
            obtain ⟨A1, c1, b4, o4, k4, e4, _, _, _, _, _⟩ := (HKid.out j a ha).inv
            obtain ⟨r0', r1', r2', r3', r4', r5', _, _, _, _, _⟩ := (HCell.out j a ha).keep hkeep
            rw [e4] at r5'
            have r0 : W0.cell? ⟨bl, o + j * 6, none⟩ = some (.int .i64 a.kind) := by rw [← hW0]; exact Keeps.alloc wr _ _ _ r0'
            have r1 : W0.cell? ⟨bl, o + j * 6 + 1, none⟩ = some (.int .i64 a.level) := by rw [← hW0]; exact Keeps.alloc wr _ _ _ r1'
            have r2 : W0.cell? ⟨bl, o + j * 6 + 2, none⟩ = some (.string a.text) := by rw [← hW0]; exact Keeps.alloc wr _ _ _ r2'
            have r3 : W0.cell? ⟨bl, o + j * 6 + 3, none⟩ = some (.string a.dest) := by rw [← hW0]; exact Keeps.alloc wr _ _ _ r3'
            have r4 : W0.cell? ⟨bl, o + j * 6 + 4, none⟩ = some (.string a.title) := by rw [← hW0]; exact Keeps.alloc wr _ _ _ r4'
            have r5 : W0.cell? ⟨bl, o + j * 6 + 5, none⟩ = some (.slice A1 a.kids.length c1) := by rw [← hW0]; exact Keeps.alloc wr _ _ _ r5'
            have hsa := node_sizes ha
            have hw9 := HW.out
            have hta : a.text.size ≤ 1073741824 := by omega
            have HPvN := Lib.hid (show prevN l k = some a by rw [hj]; exact prevN_succ ha)
            obtain ⟨v1, hv1⟩ : ∃ v1, pairK a.kind n.kind a.text n.text = v1 := ⟨_, rfl⟩
            have HV1 := Lib.hid hv1
            have HPv := Lib.hid (show pvB (prevN l k) n = v1 by rw [HPvN.out]; exact hv1)
            have tk : ((k : Int) == 0) = false := by simp; omega
            have hg : decide ((0 : Int) < (k : Int)) = true := by simp; omega
            have hgn : 0 < k := by omega
            have hkj : (k : Int) - 1 = (j : Int) := by omega
            have hjl : j < l.length := by omega
            have hjl2 : (j : Int) < (l.length : Int) := by omega
            have hwj : IntKind.i64.wrap (j : Int) = (j : Int) := IntWalk.i64_in _ (by omega)
            clear ha e4 hsa hw9 hv1 hj r0' r1' r2' r3' r4' r5'
            by_cases hkl : k + 1 = l.length
            · have te : ((k : Int) == (l.length : Int) - 1) = true := by simp; omega
              have HPl := Lib.hid (show k = 0 ∨ k + 1 = l.length from Or.inr (by omega))
              have HOk := Lib.hid (show edgeOk par n = false by unfold edgeOk; rw [hbx]; rfl)
              clear hbx hkl
              go_upto_region 4 with fail
              try rw [hW0]
              clear hkeep p0 p1 p2 p3 p4 p5 hW0
              have HRf := Lib.hid (show R = false by rw [HR.out, edge_no HNx.out HPl.out HOk.out]; rfl)
              go_wp2_with (first
                | (go_at_call_of 85 n.kind; go_must (refine (ended_r n.kind _ _ HBx.out).mono ?_); rintro e w3 ⟨rfl, hw3⟩; obtain rfl := hw3.symm)
                | (go_at_call_of 86 n.kind; go_must (refine (starred_r n.kind _ _ HSx.out).mono ?_); rintro e w3 ⟨rfl, hw3⟩; obtain rfl := hw3.symm)
                | (go_at_call 86; go_must (refine (starred_r par _ _ HSp.out).mono ?_); rintro e w3 ⟨rfl, hw3⟩; obtain rfl := hw3.symm))
              go_ret
              exact ⟨ret_bool HRf.out.symm, HBr.out⟩
            · have te : ((k : Int) == (l.length : Int) - 1) = false := by simp; omega
              have HNp := Lib.hid (show ¬ (k = 0 ∨ k + 1 = l.length) by omega)
              cases ls with
              | false =>
                have HNi := Lib.hid (show inlN n em st li kd = false by
                  have hk9 : n.kind = 12 ∨ n.kind = 13 := by have h9 := hbx; simp only [brk, Bool.or_eq_true, beq_iff_eq] at h9; exact h9
                  unfold inlN
                  rw [if_neg (by omega), if_neg (by omega), if_pos hk9]; exact HLs.out)
                clear hbx hkl
                go_upto_region 4 with fail
                try rw [hW0]
                clear hkeep p0 p1 p2 p3 p4 p5 hW0
                have HRf := Lib.hid (show R = false by rw [HR.out, HS.out, HAt.out, HNi.out]; simp)
                go_wp2_with (first
                  | (go_at_call_of 85 n.kind; go_must (refine (ended_r n.kind _ _ HBx.out).mono ?_); rintro e w3 ⟨rfl, hw3⟩; obtain rfl := hw3.symm)
                  | (go_at_call_of 86 n.kind; go_must (refine (starred_r n.kind _ _ HSx.out).mono ?_); rintro e w3 ⟨rfl, hw3⟩; obtain rfl := hw3.symm)
                  | (go_at_call 86; go_must (refine (starred_r par _ _ HSp.out).mono ?_); rintro e w3 ⟨rfl, hw3⟩; obtain rfl := hw3.symm))
                go_ret
                exact ⟨ret_bool HRf.out.symm, HBr.out⟩
              | true =>
                have HV2i := Lib.hid (show inlN n em st li kd = v2 by
                  have hk9 : n.kind = 12 ∨ n.kind = 13 := by have h9 := hbx; simp only [brk, Bool.or_eq_true, beq_iff_eq] at h9; exact h9
                  rw [← HV2.out]
                  unfold rinl
                  rw [if_pos hbx]
                  unfold inlN
                  rw [if_neg (by omega), if_neg (by omega), if_pos hk9]; exact HLs.out)
                clear hbx hkl
                go_upto_region 4 with fail
                try rw [hW0]
                clear hkeep p0 p1 p2 p3 p4 p5 hW0
                go_wp2_with (first
                  | (go_at_call_of 85 n.kind; go_must (refine (ended_r n.kind _ _ HBx.out).mono ?_); rintro e w3 ⟨rfl, hw3⟩; obtain rfl := hw3.symm)
                  | (go_at_call_of 86 n.kind; go_must (refine (starred_r n.kind _ _ HSx.out).mono ?_); rintro e w3 ⟨rfl, hw3⟩; obtain rfl := hw3.symm)
                  | (go_at_call 86; go_must (refine (starred_r par _ _ HSp.out).mono ?_); rintro e w3 ⟨rfl, hw3⟩; obtain rfl := hw3.symm))
                go_still_tail 9, (by kernel_rfl)
                change wpList _ _ _ _ _ (World.drew W0)
                obtain ⟨W1, hW1⟩ : ∃ W, World.drew W0 = W := ⟨_, rfl⟩
                have HYr := Lib.hid (show CB W1 wr.heap.size 31 #[.int .i64 n.kind, .int .i64 n.level, .string n.text, .string n.dest, .string n.title, .slice A3 n.kids.length c3] by rw [← hW1]; exact HYr.out.drew)
                have HXr := Lib.hid (show CB W1 nw 72 #[.bool em, .bool st, .bool li, .bool ce, .bool true] by rw [← hW1]; exact HXr.out.drew)
                have HBr := Lib.hid (show Below nw w W1 by rw [← hW1]; exact HBr.out.drew)
                have HKr := Lib.hid (show NodesAt W1 (.slice A3 n.kids.length c3) n.kids by rw [← hW1]; exact HKr.out.keep (Keeps.of_below (Below.refl _ _).drew))
                rw [hW1]
                clear hW1 y0 y1 y2 y3 y4 y5 x0 x1 x2 x3 x4 r0 r1 r2 r3 r4 r5
                cases v1 with
                | true =>
                  cases v2 with
                  | true =>
                    have HSn := Lib.hid (show R0 = inlL (l.drop (k + 1)) (prevN l (k + 1)) em st li kd by rw [HS.out, HAt.out, HPv.out, HV2i.out]; rfl)
                    go_wp2_with (first
                      | (go_at_call 87; go_must (refine (goodPair_r _ _ _ _ _ _ _ _ _ _ _ _ _ _ _ _ _ _ HV1.out hta hts).mono ?_); rintro e w3 ⟨rfl, hb⟩; have HKr := Lib.hid (HKr.out.keep (Keeps.of_below hb)); have HYr := Lib.hid (HYr.out.below hb); have HXr := Lib.hid (HXr.out.below hb); have HBr := Lib.hid (HBr.out.trans (hb.mono (by have := HBr.out.size; have := HNw.out; omega))); clear hb; have y0 := HYr.out.c 0; have y1 := HYr.out.c 1; have y2 := HYr.out.c 2; have y3 := HYr.out.c 3; have y4 := HYr.out.c 4; have y5 := HYr.out.c 5; have x0 := HXr.out.c 0; have x1 := HXr.out.c 1; have x2 := HXr.out.c 2; have x3 := HXr.out.c 3; have x4 := HXr.out.c 4; simp only [List.getElem?_toArray, List.getElem?_cons_zero, List.getElem?_cons_succ] at y0 y1 y2 y3 y4 y5 x0 x1 x2 x3 x4)
                      | (go_at_call 88; go_must (refine (goodInline_q n A3 c3 em st li ce true kd p _ HCe.out HKr.out HEn1.out HInl.out HSs.out (fun em st li W' hW' => HI.out n.kids _ n.kind em st li ce true kd n.kind W' HSz.out (HKr.out.keep hW') HEn2.out (noBlk_inline HInl.out) HWk.out HCe.out HLs.out)).mono ?_); rw [HV2.out]; rintro e w5 ⟨rfl, hb⟩; have HX5 := Lib.hid (HXr.out.below hb); have HB5 := Lib.hid (HBr.out.trans (hb.mono (by have := HBr.out.size; have := HNw.out; omega))); clear hb))
                    go_roundw
                    case rel => exact ⟨k + 1, by omega, by go_num, HSn, Lib.hid (fun j a hj ha h3 => by
                          rcases Nat.lt_succ_iff_lt_or_eq.1 hj with h1 | rfl
                          · exact HEd.out j a h1 ha h3
                          · rw [HNx.out] at ha; cases ha; exact absurd h3 HNp.out), HX5, HB5⟩
                    case measure => simp [intOf]; omega
                  | false =>
                    have HRf := Lib.hid (show R = false by rw [HR.out, HS.out, HAt.out, HV2i.out]; simp)
                    go_wp2_with (first
                      | (go_at_call 87; go_must (refine (goodPair_r _ _ _ _ _ _ _ _ _ _ _ _ _ _ _ _ _ _ HV1.out hta hts).mono ?_); rintro e w3 ⟨rfl, hb⟩; have HKr := Lib.hid (HKr.out.keep (Keeps.of_below hb)); have HYr := Lib.hid (HYr.out.below hb); have HXr := Lib.hid (HXr.out.below hb); have HBr := Lib.hid (HBr.out.trans (hb.mono (by have := HBr.out.size; have := HNw.out; omega))); clear hb; have y0 := HYr.out.c 0; have y1 := HYr.out.c 1; have y2 := HYr.out.c 2; have y3 := HYr.out.c 3; have y4 := HYr.out.c 4; have y5 := HYr.out.c 5; have x0 := HXr.out.c 0; have x1 := HXr.out.c 1; have x2 := HXr.out.c 2; have x3 := HXr.out.c 3; have x4 := HXr.out.c 4; simp only [List.getElem?_toArray, List.getElem?_cons_zero, List.getElem?_cons_succ] at y0 y1 y2 y3 y4 y5 x0 x1 x2 x3 x4)
                      | (go_at_call 88; go_must (refine (goodInline_q n A3 c3 em st li ce true kd p _ HCe.out HKr.out HEn1.out HInl.out HSs.out (fun em st li W' hW' => HI.out n.kids _ n.kind em st li ce true kd n.kind W' HSz.out (HKr.out.keep hW') HEn2.out (noBlk_inline HInl.out) HWk.out HCe.out HLs.out)).mono ?_); rw [HV2.out]; rintro e w5 ⟨rfl, hb⟩; have HX5 := Lib.hid (HXr.out.below hb); have HB5 := Lib.hid (HBr.out.trans (hb.mono (by have := HBr.out.size; have := HNw.out; omega))); clear hb))
                    go_ret
                    exact ⟨ret_bool HRf.out.symm, HB5.out⟩
                | false =>
                  have HRf := Lib.hid (show R = false by rw [HR.out, HS.out, HAt.out, HPv.out]; simp)
                  go_wp2_with (first
                    | (go_at_call 87; go_must (refine (goodPair_r _ _ _ _ _ _ _ _ _ _ _ _ _ _ _ _ _ _ HV1.out hta hts).mono ?_); rintro e w3 ⟨rfl, hb⟩; have HKr := Lib.hid (HKr.out.keep (Keeps.of_below hb)); have HYr := Lib.hid (HYr.out.below hb); have HXr := Lib.hid (HXr.out.below hb); have HBr := Lib.hid (HBr.out.trans (hb.mono (by have := HBr.out.size; have := HNw.out; omega))); clear hb; have y0 := HYr.out.c 0; have y1 := HYr.out.c 1; have y2 := HYr.out.c 2; have y3 := HYr.out.c 3; have y4 := HYr.out.c 4; have y5 := HYr.out.c 5; have x0 := HXr.out.c 0; have x1 := HXr.out.c 1; have x2 := HXr.out.c 2; have x3 := HXr.out.c 3; have x4 := HXr.out.c 4; simp only [List.getElem?_toArray, List.getElem?_cons_zero, List.getElem?_cons_succ] at y0 y1 y2 y3 y4 y5 x0 x1 x2 x3 x4))
                  go_ret
                  exact ⟨ret_bool HRf.out.symm, HBr.out⟩
        | false =>
          have HBx := Lib.hid hbx
          have HV2i := Lib.hid (show inlN n em st li kd = v2 by rw [← HV2.out]; unfold rinl; rw [hbx]; rfl)
          clear hbx
          by_cases hk0 : k = 0
          · have tk : ((k : Int) == 0) = true := by simp; omega
            have hg : decide ((0 : Int) < (k : Int)) = false := by simp; omega
            have hgn : ¬ 0 < k := by omega
            have HPv := Lib.hid (show pvB (prevN l k) n = true by rw [hk0]; rfl)
            have HPl := Lib.hid (show k = 0 ∨ k + 1 = l.length from Or.inl hk0)
            clear hk0
            cases hsx : star n.kind with
            | false =>
              have HSx := Lib.hid hsx
              have HOk := Lib.hid (show edgeOk par n = true by unfold edgeOk; rw [HBx.out, hsx]; simp)
              clear hsx
              go_upto_region 4 with fail
              try rw [hW0]
              clear hkeep p0 p1 p2 p3 p4 p5 hW0
              cases sp with
              | true =>
                go_wp2_with (first
                  | (go_at_call_of 85 n.kind; go_must (refine (ended_r n.kind _ _ HBx.out).mono ?_); rintro e w3 ⟨rfl, hw3⟩; obtain rfl := hw3.symm)
                  | (go_at_call_of 86 n.kind; go_must (refine (starred_r n.kind _ _ HSx.out).mono ?_); rintro e w3 ⟨rfl, hw3⟩; obtain rfl := hw3.symm)
                  | (go_at_call 86; go_must (refine (starred_r par _ _ HSp.out).mono ?_); rintro e w3 ⟨rfl, hw3⟩; obtain rfl := hw3.symm))
                go_quiet (fail)
                obtain ⟨W2, hW2⟩ : ∃ W, W0.drewN nq = W := ⟨_, rfl⟩
                have HYr := Lib.hid (show CB W2 wr.heap.size 31 #[.int .i64 n.kind, .int .i64 n.level, .string n.text, .string n.dest, .string n.title, .slice A3 n.kids.length c3] by rw [← hW2]; exact HYr.out.drewN nq)
                have HXr := Lib.hid (show CB W2 nw 72 #[.bool em, .bool st, .bool li, .bool ce, .bool ls] by rw [← hW2]; exact HXr.out.drewN nq)
                have HBr := Lib.hid (show Below nw w W2 by rw [← hW2]; exact Below.drewN' HBr.out nq)
                have HKr := Lib.hid (show NodesAt W2 (.slice A3 n.kids.length c3) n.kids by rw [← hW2]; exact HKr.out.keep (Keeps.of_below (Below.drewN' (Below.refl _ _) nq)))
                rw [hW2]
                clear hW2
                have y0 := HYr.out.c 0
                have y1 := HYr.out.c 1
                have y2 := HYr.out.c 2
                have y3 := HYr.out.c 3
                have y4 := HYr.out.c 4
                have y5 := HYr.out.c 5
                have x0 := HXr.out.c 0
                have x1 := HXr.out.c 1
                have x2 := HXr.out.c 2
                have x3 := HXr.out.c 3
                have x4 := HXr.out.c 4
                simp only [List.getElem?_toArray, List.getElem?_cons_zero, List.getElem?_cons_succ] at y0 y1 y2 y3 y4 y5 x0 x1 x2 x3 x4
                cases v2 with
                | true =>
                  have HSn := Lib.hid (show R0 = inlL (l.drop (k + 1)) (prevN l (k + 1)) em st li kd by rw [HS.out, HAt.out, HPv.out, HV2i.out]; rfl)
                  go_wp2_with (first
                    | (go_at_call 88; go_must (refine (goodInline_q n A3 c3 em st li ce ls kd p _ HCe.out HKr.out HEn1.out HInl.out HSs.out (fun em st li W' hW' => HI.out n.kids _ n.kind em st li ce ls kd n.kind W' HSz.out (HKr.out.keep hW') HEn2.out (noBlk_inline HInl.out) HWk.out HCe.out HLs.out)).mono ?_); rw [HV2.out]; rintro e w5 ⟨rfl, hb⟩; have HX5 := Lib.hid (HXr.out.below hb); have HB5 := Lib.hid (HBr.out.trans (hb.mono (by have := HBr.out.size; have := HNw.out; omega))); clear hb))
                  go_roundw
                  case rel => exact ⟨k + 1, by omega, by go_num, HSn, Lib.hid (fun j a hj ha h3 => by
                        rcases Nat.lt_succ_iff_lt_or_eq.1 hj with h1 | rfl
                        · exact HEd.out j a h1 ha h3
                        · rw [HNx.out] at ha; cases ha; exact HOk.out), HX5, HB5⟩
                  case measure => simp [intOf]; omega
                | false =>
                  have HRf := Lib.hid (show R = false by rw [HR.out, HS.out, HAt.out, HV2i.out]; simp)
                  go_wp2_with (first
                    | (go_at_call 88; go_must (refine (goodInline_q n A3 c3 em st li ce ls kd p _ HCe.out HKr.out HEn1.out HInl.out HSs.out (fun em st li W' hW' => HI.out n.kids _ n.kind em st li ce ls kd n.kind W' HSz.out (HKr.out.keep hW') HEn2.out (noBlk_inline HInl.out) HWk.out HCe.out HLs.out)).mono ?_); rw [HV2.out]; rintro e w5 ⟨rfl, hb⟩; have HX5 := Lib.hid (HXr.out.below hb); have HB5 := Lib.hid (HBr.out.trans (hb.mono (by have := HBr.out.size; have := HNw.out; omega))); clear hb))
                  go_ret
                  exact ⟨ret_bool HRf.out.symm, HB5.out⟩
              | false =>
                go_wp2_with (first
                  | (go_at_call_of 85 n.kind; go_must (refine (ended_r n.kind _ _ HBx.out).mono ?_); rintro e w3 ⟨rfl, hw3⟩; obtain rfl := hw3.symm)
                  | (go_at_call_of 86 n.kind; go_must (refine (starred_r n.kind _ _ HSx.out).mono ?_); rintro e w3 ⟨rfl, hw3⟩; obtain rfl := hw3.symm)
                  | (go_at_call 86; go_must (refine (starred_r par _ _ HSp.out).mono ?_); rintro e w3 ⟨rfl, hw3⟩; obtain rfl := hw3.symm))
                go_quiet (fail)
                obtain ⟨W2, hW2⟩ : ∃ W, W0.drewN nq = W := ⟨_, rfl⟩
                have HYr := Lib.hid (show CB W2 wr.heap.size 31 #[.int .i64 n.kind, .int .i64 n.level, .string n.text, .string n.dest, .string n.title, .slice A3 n.kids.length c3] by rw [← hW2]; exact HYr.out.drewN nq)
                have HXr := Lib.hid (show CB W2 nw 72 #[.bool em, .bool st, .bool li, .bool ce, .bool ls] by rw [← hW2]; exact HXr.out.drewN nq)
                have HBr := Lib.hid (show Below nw w W2 by rw [← hW2]; exact Below.drewN' HBr.out nq)
                have HKr := Lib.hid (show NodesAt W2 (.slice A3 n.kids.length c3) n.kids by rw [← hW2]; exact HKr.out.keep (Keeps.of_below (Below.drewN' (Below.refl _ _) nq)))
                rw [hW2]
                clear hW2
                have y0 := HYr.out.c 0
                have y1 := HYr.out.c 1
                have y2 := HYr.out.c 2
                have y3 := HYr.out.c 3
                have y4 := HYr.out.c 4
                have y5 := HYr.out.c 5
                have x0 := HXr.out.c 0
                have x1 := HXr.out.c 1
                have x2 := HXr.out.c 2
                have x3 := HXr.out.c 3
                have x4 := HXr.out.c 4
                simp only [List.getElem?_toArray, List.getElem?_cons_zero, List.getElem?_cons_succ] at y0 y1 y2 y3 y4 y5 x0 x1 x2 x3 x4
                cases v2 with
                | true =>
                  have HSn := Lib.hid (show R0 = inlL (l.drop (k + 1)) (prevN l (k + 1)) em st li kd by rw [HS.out, HAt.out, HPv.out, HV2i.out]; rfl)
                  go_wp2_with (first
                    | (go_at_call 88; go_must (refine (goodInline_q n A3 c3 em st li ce ls kd p _ HCe.out HKr.out HEn1.out HInl.out HSs.out (fun em st li W' hW' => HI.out n.kids _ n.kind em st li ce ls kd n.kind W' HSz.out (HKr.out.keep hW') HEn2.out (noBlk_inline HInl.out) HWk.out HCe.out HLs.out)).mono ?_); rw [HV2.out]; rintro e w5 ⟨rfl, hb⟩; have HX5 := Lib.hid (HXr.out.below hb); have HB5 := Lib.hid (HBr.out.trans (hb.mono (by have := HBr.out.size; have := HNw.out; omega))); clear hb))
                  go_roundw
                  case rel => exact ⟨k + 1, by omega, by go_num, HSn, Lib.hid (fun j a hj ha h3 => by
                        rcases Nat.lt_succ_iff_lt_or_eq.1 hj with h1 | rfl
                        · exact HEd.out j a h1 ha h3
                        · rw [HNx.out] at ha; cases ha; exact HOk.out), HX5, HB5⟩
                  case measure => simp [intOf]; omega
                | false =>
                  have HRf := Lib.hid (show R = false by rw [HR.out, HS.out, HAt.out, HV2i.out]; simp)
                  go_wp2_with (first
                    | (go_at_call 88; go_must (refine (goodInline_q n A3 c3 em st li ce ls kd p _ HCe.out HKr.out HEn1.out HInl.out HSs.out (fun em st li W' hW' => HI.out n.kids _ n.kind em st li ce ls kd n.kind W' HSz.out (HKr.out.keep hW') HEn2.out (noBlk_inline HInl.out) HWk.out HCe.out HLs.out)).mono ?_); rw [HV2.out]; rintro e w5 ⟨rfl, hb⟩; have HX5 := Lib.hid (HXr.out.below hb); have HB5 := Lib.hid (HBr.out.trans (hb.mono (by have := HBr.out.size; have := HNw.out; omega))); clear hb))
                  go_ret
                  exact ⟨ret_bool HRf.out.symm, HB5.out⟩
            | true =>
              have HSx := Lib.hid hsx
              cases sp with
              | true =>
                have HOk := Lib.hid (show edgeOk par n = false by unfold edgeOk; rw [hsx, HSp.out]; simp)
                clear hsx
                go_upto_region 4 with fail
                try rw [hW0]
                clear hkeep p0 p1 p2 p3 p4 p5 hW0
                have HRf := Lib.hid (show R = false by rw [HR.out, edge_no HNx.out HPl.out HOk.out]; rfl)
                go_wp2_with (first
                  | (go_at_call_of 85 n.kind; go_must (refine (ended_r n.kind _ _ HBx.out).mono ?_); rintro e w3 ⟨rfl, hw3⟩; obtain rfl := hw3.symm)
                  | (go_at_call_of 86 n.kind; go_must (refine (starred_r n.kind _ _ HSx.out).mono ?_); rintro e w3 ⟨rfl, hw3⟩; obtain rfl := hw3.symm)
                  | (go_at_call 86; go_must (refine (starred_r par _ _ HSp.out).mono ?_); rintro e w3 ⟨rfl, hw3⟩; obtain rfl := hw3.symm))
                go_ret
                exact ⟨ret_bool HRf.out.symm, HBr.out⟩
              | false =>
                have HOk := Lib.hid (show edgeOk par n = true by unfold edgeOk; rw [HBx.out, HSp.out]; simp)
                clear hsx
                go_upto_region 4 with fail
                try rw [hW0]
                clear hkeep p0 p1 p2 p3 p4 p5 hW0
                go_wp2_with (first
                  | (go_at_call_of 85 n.kind; go_must (refine (ended_r n.kind _ _ HBx.out).mono ?_); rintro e w3 ⟨rfl, hw3⟩; obtain rfl := hw3.symm)
                  | (go_at_call_of 86 n.kind; go_must (refine (starred_r n.kind _ _ HSx.out).mono ?_); rintro e w3 ⟨rfl, hw3⟩; obtain rfl := hw3.symm)
                  | (go_at_call 86; go_must (refine (starred_r par _ _ HSp.out).mono ?_); rintro e w3 ⟨rfl, hw3⟩; obtain rfl := hw3.symm))
                go_quiet (fail)
                obtain ⟨W2, hW2⟩ : ∃ W, W0.drewN nq = W := ⟨_, rfl⟩
                have HYr := Lib.hid (show CB W2 wr.heap.size 31 #[.int .i64 n.kind, .int .i64 n.level, .string n.text, .string n.dest, .string n.title, .slice A3 n.kids.length c3] by rw [← hW2]; exact HYr.out.drewN nq)
                have HXr := Lib.hid (show CB W2 nw 72 #[.bool em, .bool st, .bool li, .bool ce, .bool ls] by rw [← hW2]; exact HXr.out.drewN nq)
                have HBr := Lib.hid (show Below nw w W2 by rw [← hW2]; exact Below.drewN' HBr.out nq)
                have HKr := Lib.hid (show NodesAt W2 (.slice A3 n.kids.length c3) n.kids by rw [← hW2]; exact HKr.out.keep (Keeps.of_below (Below.drewN' (Below.refl _ _) nq)))
                rw [hW2]
                clear hW2
                have y0 := HYr.out.c 0
                have y1 := HYr.out.c 1
                have y2 := HYr.out.c 2
                have y3 := HYr.out.c 3
                have y4 := HYr.out.c 4
                have y5 := HYr.out.c 5
                have x0 := HXr.out.c 0
                have x1 := HXr.out.c 1
                have x2 := HXr.out.c 2
                have x3 := HXr.out.c 3
                have x4 := HXr.out.c 4
                simp only [List.getElem?_toArray, List.getElem?_cons_zero, List.getElem?_cons_succ] at y0 y1 y2 y3 y4 y5 x0 x1 x2 x3 x4
                cases v2 with
                | true =>
                  have HSn := Lib.hid (show R0 = inlL (l.drop (k + 1)) (prevN l (k + 1)) em st li kd by rw [HS.out, HAt.out, HPv.out, HV2i.out]; rfl)
                  go_wp2_with (first
                    | (go_at_call 88; go_must (refine (goodInline_q n A3 c3 em st li ce ls kd p _ HCe.out HKr.out HEn1.out HInl.out HSs.out (fun em st li W' hW' => HI.out n.kids _ n.kind em st li ce ls kd n.kind W' HSz.out (HKr.out.keep hW') HEn2.out (noBlk_inline HInl.out) HWk.out HCe.out HLs.out)).mono ?_); rw [HV2.out]; rintro e w5 ⟨rfl, hb⟩; have HX5 := Lib.hid (HXr.out.below hb); have HB5 := Lib.hid (HBr.out.trans (hb.mono (by have := HBr.out.size; have := HNw.out; omega))); clear hb))
                  go_roundw
                  case rel => exact ⟨k + 1, by omega, by go_num, HSn, Lib.hid (fun j a hj ha h3 => by
                        rcases Nat.lt_succ_iff_lt_or_eq.1 hj with h1 | rfl
                        · exact HEd.out j a h1 ha h3
                        · rw [HNx.out] at ha; cases ha; exact HOk.out), HX5, HB5⟩
                  case measure => simp [intOf]; omega
                | false =>
                  have HRf := Lib.hid (show R = false by rw [HR.out, HS.out, HAt.out, HV2i.out]; simp)
                  go_wp2_with (first
                    | (go_at_call 88; go_must (refine (goodInline_q n A3 c3 em st li ce ls kd p _ HCe.out HKr.out HEn1.out HInl.out HSs.out (fun em st li W' hW' => HI.out n.kids _ n.kind em st li ce ls kd n.kind W' HSz.out (HKr.out.keep hW') HEn2.out (noBlk_inline HInl.out) HWk.out HCe.out HLs.out)).mono ?_); rw [HV2.out]; rintro e w5 ⟨rfl, hb⟩; have HX5 := Lib.hid (HXr.out.below hb); have HB5 := Lib.hid (HBr.out.trans (hb.mono (by have := HBr.out.size; have := HNw.out; omega))); clear hb))
                  go_ret
                  exact ⟨ret_bool HRf.out.symm, HB5.out⟩
          · obtain ⟨j, hj⟩ : ∃ j, k = j + 1 := ⟨k - 1, by omega⟩
            obtain ⟨a, ha⟩ : ∃ a, l[j]? = some a := ⟨_, List.getElem?_eq_getElem (by omega)⟩
            obtain ⟨A1, c1, b4, o4, k4, e4, _, _, _, _, _⟩ := (HKid.out j a ha).inv
            obtain ⟨r0', r1', r2', r3', r4', r5', _, _, _, _, _⟩ := (HCell.out j a ha).keep hkeep
            rw [e4] at r5'
            have r0 : W0.cell? ⟨bl, o + j * 6, none⟩ = some (.int .i64 a.kind) := by rw [← hW0]; exact Keeps.alloc wr _ _ _ r0'
            have r1 : W0.cell? ⟨bl, o + j * 6 + 1, none⟩ = some (.int .i64 a.level) := by rw [← hW0]; exact Keeps.alloc wr _ _ _ r1'
            have r2 : W0.cell? ⟨bl, o + j * 6 + 2, none⟩ = some (.string a.text) := by rw [← hW0]; exact Keeps.alloc wr _ _ _ r2'
            have r3 : W0.cell? ⟨bl, o + j * 6 + 3, none⟩ = some (.string a.dest) := by rw [← hW0]; exact Keeps.alloc wr _ _ _ r3'
            have r4 : W0.cell? ⟨bl, o + j * 6 + 4, none⟩ = some (.string a.title) := by rw [← hW0]; exact Keeps.alloc wr _ _ _ r4'
            have r5 : W0.cell? ⟨bl, o + j * 6 + 5, none⟩ = some (.slice A1 a.kids.length c1) := by rw [← hW0]; exact Keeps.alloc wr _ _ _ r5'
            have hsa := node_sizes ha
            have hw9 := HW.out
            have hta : a.text.size ≤ 1073741824 := by omega
            have HPvN := Lib.hid (show prevN l k = some a by rw [hj]; exact prevN_succ ha)
            obtain ⟨v1, hv1⟩ : ∃ v1, pairK a.kind n.kind a.text n.text = v1 := ⟨_, rfl⟩
            have HV1 := Lib.hid hv1
            have HPv := Lib.hid (show pvB (prevN l k) n = v1 by rw [HPvN.out]; exact hv1)
            have tk : ((k : Int) == 0) = false := by simp; omega
            have hg : decide ((0 : Int) < (k : Int)) = true := by simp; omega
            have hgn : 0 < k := by omega
            have hkj : (k : Int) - 1 = (j : Int) := by omega
            have hjl : j < l.length := by omega
            have hjl2 : (j : Int) < (l.length : Int) := by omega
            have hwj : IntKind.i64.wrap (j : Int) = (j : Int) := IntWalk.i64_in _ (by omega)
            clear ha e4 hsa hw9 hv1 hj r0' r1' r2' r3' r4' r5'
            by_cases hkl : k + 1 = l.length
            · have te : ((k : Int) == (l.length : Int) - 1) = true := by simp; omega
              have HPl := Lib.hid (show k = 0 ∨ k + 1 = l.length from Or.inr (by omega))
              clear hkl
              cases hsx : star n.kind with
              | false =>
                have HSx := Lib.hid hsx
                have HOk := Lib.hid (show edgeOk par n = true by unfold edgeOk; rw [HBx.out, hsx]; simp)
                clear hsx
                go_upto_region 4 with fail
                try rw [hW0]
                clear hkeep p0 p1 p2 p3 p4 p5 hW0
                cases sp with
                | true =>
                  go_wp2_with (first
                    | (go_at_call_of 85 n.kind; go_must (refine (ended_r n.kind _ _ HBx.out).mono ?_); rintro e w3 ⟨rfl, hw3⟩; obtain rfl := hw3.symm)
                    | (go_at_call_of 86 n.kind; go_must (refine (starred_r n.kind _ _ HSx.out).mono ?_); rintro e w3 ⟨rfl, hw3⟩; obtain rfl := hw3.symm)
                    | (go_at_call 86; go_must (refine (starred_r par _ _ HSp.out).mono ?_); rintro e w3 ⟨rfl, hw3⟩; obtain rfl := hw3.symm))
                  go_still_tail 9, (by kernel_rfl)
                  change wpList _ _ _ _ _ (World.drew W0)
                  obtain ⟨W1, hW1⟩ : ∃ W, World.drew W0 = W := ⟨_, rfl⟩
                  have HYr := Lib.hid (show CB W1 wr.heap.size 31 #[.int .i64 n.kind, .int .i64 n.level, .string n.text, .string n.dest, .string n.title, .slice A3 n.kids.length c3] by rw [← hW1]; exact HYr.out.drew)
                  have HXr := Lib.hid (show CB W1 nw 72 #[.bool em, .bool st, .bool li, .bool ce, .bool ls] by rw [← hW1]; exact HXr.out.drew)
                  have HBr := Lib.hid (show Below nw w W1 by rw [← hW1]; exact HBr.out.drew)
                  have HKr := Lib.hid (show NodesAt W1 (.slice A3 n.kids.length c3) n.kids by rw [← hW1]; exact HKr.out.keep (Keeps.of_below (Below.refl _ _).drew))
                  rw [hW1]
                  clear hW1 y0 y1 y2 y3 y4 y5 x0 x1 x2 x3 x4 r0 r1 r2 r3 r4 r5
                  cases v1 with
                  | true =>
                    cases v2 with
                    | true =>
                      have HSn := Lib.hid (show R0 = inlL (l.drop (k + 1)) (prevN l (k + 1)) em st li kd by rw [HS.out, HAt.out, HPv.out, HV2i.out]; rfl)
                      go_wp2_with (first
                        | (go_at_call 87; go_must (refine (goodPair_r _ _ _ _ _ _ _ _ _ _ _ _ _ _ _ _ _ _ HV1.out hta hts).mono ?_); rintro e w3 ⟨rfl, hb⟩; have HKr := Lib.hid (HKr.out.keep (Keeps.of_below hb)); have HYr := Lib.hid (HYr.out.below hb); have HXr := Lib.hid (HXr.out.below hb); have HBr := Lib.hid (HBr.out.trans (hb.mono (by have := HBr.out.size; have := HNw.out; omega))); clear hb; have y0 := HYr.out.c 0; have y1 := HYr.out.c 1; have y2 := HYr.out.c 2; have y3 := HYr.out.c 3; have y4 := HYr.out.c 4; have y5 := HYr.out.c 5; have x0 := HXr.out.c 0; have x1 := HXr.out.c 1; have x2 := HXr.out.c 2; have x3 := HXr.out.c 3; have x4 := HXr.out.c 4; simp only [List.getElem?_toArray, List.getElem?_cons_zero, List.getElem?_cons_succ] at y0 y1 y2 y3 y4 y5 x0 x1 x2 x3 x4)
                        | (go_at_call 88; go_must (refine (goodInline_q n A3 c3 em st li ce ls kd p _ HCe.out HKr.out HEn1.out HInl.out HSs.out (fun em st li W' hW' => HI.out n.kids _ n.kind em st li ce ls kd n.kind W' HSz.out (HKr.out.keep hW') HEn2.out (noBlk_inline HInl.out) HWk.out HCe.out HLs.out)).mono ?_); rw [HV2.out]; rintro e w5 ⟨rfl, hb⟩; have HX5 := Lib.hid (HXr.out.below hb); have HB5 := Lib.hid (HBr.out.trans (hb.mono (by have := HBr.out.size; have := HNw.out; omega))); clear hb))
                      go_roundw
                      case rel => exact ⟨k + 1, by omega, by go_num, HSn, Lib.hid (fun j a hj ha h3 => by
                            rcases Nat.lt_succ_iff_lt_or_eq.1 hj with h1 | rfl
                            · exact HEd.out j a h1 ha h3
                            · rw [HNx.out] at ha; cases ha; exact HOk.out), HX5, HB5⟩
                      case measure => simp [intOf]; omega
                    | false =>
                      have HRf := Lib.hid (show R = false by rw [HR.out, HS.out, HAt.out, HV2i.out]; simp)
                      go_wp2_with (first
                        | (go_at_call 87; go_must (refine (goodPair_r _ _ _ _ _ _ _ _ _ _ _ _ _ _ _ _ _ _ HV1.out hta hts).mono ?_); rintro e w3 ⟨rfl, hb⟩; have HKr := Lib.hid (HKr.out.keep (Keeps.of_below hb)); have HYr := Lib.hid (HYr.out.below hb); have HXr := Lib.hid (HXr.out.below hb); have HBr := Lib.hid (HBr.out.trans (hb.mono (by have := HBr.out.size; have := HNw.out; omega))); clear hb; have y0 := HYr.out.c 0; have y1 := HYr.out.c 1; have y2 := HYr.out.c 2; have y3 := HYr.out.c 3; have y4 := HYr.out.c 4; have y5 := HYr.out.c 5; have x0 := HXr.out.c 0; have x1 := HXr.out.c 1; have x2 := HXr.out.c 2; have x3 := HXr.out.c 3; have x4 := HXr.out.c 4; simp only [List.getElem?_toArray, List.getElem?_cons_zero, List.getElem?_cons_succ] at y0 y1 y2 y3 y4 y5 x0 x1 x2 x3 x4)
                        | (go_at_call 88; go_must (refine (goodInline_q n A3 c3 em st li ce ls kd p _ HCe.out HKr.out HEn1.out HInl.out HSs.out (fun em st li W' hW' => HI.out n.kids _ n.kind em st li ce ls kd n.kind W' HSz.out (HKr.out.keep hW') HEn2.out (noBlk_inline HInl.out) HWk.out HCe.out HLs.out)).mono ?_); rw [HV2.out]; rintro e w5 ⟨rfl, hb⟩; have HX5 := Lib.hid (HXr.out.below hb); have HB5 := Lib.hid (HBr.out.trans (hb.mono (by have := HBr.out.size; have := HNw.out; omega))); clear hb))
                      go_ret
                      exact ⟨ret_bool HRf.out.symm, HB5.out⟩
                  | false =>
                    have HRf := Lib.hid (show R = false by rw [HR.out, HS.out, HAt.out, HPv.out]; simp)
                    go_wp2_with (first
                      | (go_at_call 87; go_must (refine (goodPair_r _ _ _ _ _ _ _ _ _ _ _ _ _ _ _ _ _ _ HV1.out hta hts).mono ?_); rintro e w3 ⟨rfl, hb⟩; have HKr := Lib.hid (HKr.out.keep (Keeps.of_below hb)); have HYr := Lib.hid (HYr.out.below hb); have HXr := Lib.hid (HXr.out.below hb); have HBr := Lib.hid (HBr.out.trans (hb.mono (by have := HBr.out.size; have := HNw.out; omega))); clear hb; have y0 := HYr.out.c 0; have y1 := HYr.out.c 1; have y2 := HYr.out.c 2; have y3 := HYr.out.c 3; have y4 := HYr.out.c 4; have y5 := HYr.out.c 5; have x0 := HXr.out.c 0; have x1 := HXr.out.c 1; have x2 := HXr.out.c 2; have x3 := HXr.out.c 3; have x4 := HXr.out.c 4; simp only [List.getElem?_toArray, List.getElem?_cons_zero, List.getElem?_cons_succ] at y0 y1 y2 y3 y4 y5 x0 x1 x2 x3 x4))
                    go_ret
                    exact ⟨ret_bool HRf.out.symm, HBr.out⟩
                | false =>
                  go_wp2_with (first
                    | (go_at_call_of 85 n.kind; go_must (refine (ended_r n.kind _ _ HBx.out).mono ?_); rintro e w3 ⟨rfl, hw3⟩; obtain rfl := hw3.symm)
                    | (go_at_call_of 86 n.kind; go_must (refine (starred_r n.kind _ _ HSx.out).mono ?_); rintro e w3 ⟨rfl, hw3⟩; obtain rfl := hw3.symm)
                    | (go_at_call 86; go_must (refine (starred_r par _ _ HSp.out).mono ?_); rintro e w3 ⟨rfl, hw3⟩; obtain rfl := hw3.symm))
                  go_still_tail 9, (by kernel_rfl)
                  change wpList _ _ _ _ _ (World.drew W0)
                  obtain ⟨W1, hW1⟩ : ∃ W, World.drew W0 = W := ⟨_, rfl⟩
                  have HYr := Lib.hid (show CB W1 wr.heap.size 31 #[.int .i64 n.kind, .int .i64 n.level, .string n.text, .string n.dest, .string n.title, .slice A3 n.kids.length c3] by rw [← hW1]; exact HYr.out.drew)
                  have HXr := Lib.hid (show CB W1 nw 72 #[.bool em, .bool st, .bool li, .bool ce, .bool ls] by rw [← hW1]; exact HXr.out.drew)
                  have HBr := Lib.hid (show Below nw w W1 by rw [← hW1]; exact HBr.out.drew)
                  have HKr := Lib.hid (show NodesAt W1 (.slice A3 n.kids.length c3) n.kids by rw [← hW1]; exact HKr.out.keep (Keeps.of_below (Below.refl _ _).drew))
                  rw [hW1]
                  clear hW1 y0 y1 y2 y3 y4 y5 x0 x1 x2 x3 x4 r0 r1 r2 r3 r4 r5
                  cases v1 with
                  | true =>
                    cases v2 with
                    | true =>
                      have HSn := Lib.hid (show R0 = inlL (l.drop (k + 1)) (prevN l (k + 1)) em st li kd by rw [HS.out, HAt.out, HPv.out, HV2i.out]; rfl)
                      go_wp2_with (first
                        | (go_at_call 87; go_must (refine (goodPair_r _ _ _ _ _ _ _ _ _ _ _ _ _ _ _ _ _ _ HV1.out hta hts).mono ?_); rintro e w3 ⟨rfl, hb⟩; have HKr := Lib.hid (HKr.out.keep (Keeps.of_below hb)); have HYr := Lib.hid (HYr.out.below hb); have HXr := Lib.hid (HXr.out.below hb); have HBr := Lib.hid (HBr.out.trans (hb.mono (by have := HBr.out.size; have := HNw.out; omega))); clear hb; have y0 := HYr.out.c 0; have y1 := HYr.out.c 1; have y2 := HYr.out.c 2; have y3 := HYr.out.c 3; have y4 := HYr.out.c 4; have y5 := HYr.out.c 5; have x0 := HXr.out.c 0; have x1 := HXr.out.c 1; have x2 := HXr.out.c 2; have x3 := HXr.out.c 3; have x4 := HXr.out.c 4; simp only [List.getElem?_toArray, List.getElem?_cons_zero, List.getElem?_cons_succ] at y0 y1 y2 y3 y4 y5 x0 x1 x2 x3 x4)
                        | (go_at_call 88; go_must (refine (goodInline_q n A3 c3 em st li ce ls kd p _ HCe.out HKr.out HEn1.out HInl.out HSs.out (fun em st li W' hW' => HI.out n.kids _ n.kind em st li ce ls kd n.kind W' HSz.out (HKr.out.keep hW') HEn2.out (noBlk_inline HInl.out) HWk.out HCe.out HLs.out)).mono ?_); rw [HV2.out]; rintro e w5 ⟨rfl, hb⟩; have HX5 := Lib.hid (HXr.out.below hb); have HB5 := Lib.hid (HBr.out.trans (hb.mono (by have := HBr.out.size; have := HNw.out; omega))); clear hb))
                      go_roundw
                      case rel => exact ⟨k + 1, by omega, by go_num, HSn, Lib.hid (fun j a hj ha h3 => by
                            rcases Nat.lt_succ_iff_lt_or_eq.1 hj with h1 | rfl
                            · exact HEd.out j a h1 ha h3
                            · rw [HNx.out] at ha; cases ha; exact HOk.out), HX5, HB5⟩
                      case measure => simp [intOf]; omega
                    | false =>
                      have HRf := Lib.hid (show R = false by rw [HR.out, HS.out, HAt.out, HV2i.out]; simp)
                      go_wp2_with (first
                        | (go_at_call 87; go_must (refine (goodPair_r _ _ _ _ _ _ _ _ _ _ _ _ _ _ _ _ _ _ HV1.out hta hts).mono ?_); rintro e w3 ⟨rfl, hb⟩; have HKr := Lib.hid (HKr.out.keep (Keeps.of_below hb)); have HYr := Lib.hid (HYr.out.below hb); have HXr := Lib.hid (HXr.out.below hb); have HBr := Lib.hid (HBr.out.trans (hb.mono (by have := HBr.out.size; have := HNw.out; omega))); clear hb; have y0 := HYr.out.c 0; have y1 := HYr.out.c 1; have y2 := HYr.out.c 2; have y3 := HYr.out.c 3; have y4 := HYr.out.c 4; have y5 := HYr.out.c 5; have x0 := HXr.out.c 0; have x1 := HXr.out.c 1; have x2 := HXr.out.c 2; have x3 := HXr.out.c 3; have x4 := HXr.out.c 4; simp only [List.getElem?_toArray, List.getElem?_cons_zero, List.getElem?_cons_succ] at y0 y1 y2 y3 y4 y5 x0 x1 x2 x3 x4)
                        | (go_at_call 88; go_must (refine (goodInline_q n A3 c3 em st li ce ls kd p _ HCe.out HKr.out HEn1.out HInl.out HSs.out (fun em st li W' hW' => HI.out n.kids _ n.kind em st li ce ls kd n.kind W' HSz.out (HKr.out.keep hW') HEn2.out (noBlk_inline HInl.out) HWk.out HCe.out HLs.out)).mono ?_); rw [HV2.out]; rintro e w5 ⟨rfl, hb⟩; have HX5 := Lib.hid (HXr.out.below hb); have HB5 := Lib.hid (HBr.out.trans (hb.mono (by have := HBr.out.size; have := HNw.out; omega))); clear hb))
                      go_ret
                      exact ⟨ret_bool HRf.out.symm, HB5.out⟩
                  | false =>
                    have HRf := Lib.hid (show R = false by rw [HR.out, HS.out, HAt.out, HPv.out]; simp)
                    go_wp2_with (first
                      | (go_at_call 87; go_must (refine (goodPair_r _ _ _ _ _ _ _ _ _ _ _ _ _ _ _ _ _ _ HV1.out hta hts).mono ?_); rintro e w3 ⟨rfl, hb⟩; have HKr := Lib.hid (HKr.out.keep (Keeps.of_below hb)); have HYr := Lib.hid (HYr.out.below hb); have HXr := Lib.hid (HXr.out.below hb); have HBr := Lib.hid (HBr.out.trans (hb.mono (by have := HBr.out.size; have := HNw.out; omega))); clear hb; have y0 := HYr.out.c 0; have y1 := HYr.out.c 1; have y2 := HYr.out.c 2; have y3 := HYr.out.c 3; have y4 := HYr.out.c 4; have y5 := HYr.out.c 5; have x0 := HXr.out.c 0; have x1 := HXr.out.c 1; have x2 := HXr.out.c 2; have x3 := HXr.out.c 3; have x4 := HXr.out.c 4; simp only [List.getElem?_toArray, List.getElem?_cons_zero, List.getElem?_cons_succ] at y0 y1 y2 y3 y4 y5 x0 x1 x2 x3 x4))
                    go_ret
                    exact ⟨ret_bool HRf.out.symm, HBr.out⟩
              | true =>
                have HSx := Lib.hid hsx
                cases sp with
                | true =>
                  have HOk := Lib.hid (show edgeOk par n = false by unfold edgeOk; rw [hsx, HSp.out]; simp)
                  clear hsx
                  go_upto_region 4 with fail
                  try rw [hW0]
                  clear hkeep p0 p1 p2 p3 p4 p5 hW0
                  have HRf := Lib.hid (show R = false by rw [HR.out, edge_no HNx.out HPl.out HOk.out]; rfl)
                  go_wp2_with (first
                    | (go_at_call_of 85 n.kind; go_must (refine (ended_r n.kind _ _ HBx.out).mono ?_); rintro e w3 ⟨rfl, hw3⟩; obtain rfl := hw3.symm)
                    | (go_at_call_of 86 n.kind; go_must (refine (starred_r n.kind _ _ HSx.out).mono ?_); rintro e w3 ⟨rfl, hw3⟩; obtain rfl := hw3.symm)
                    | (go_at_call 86; go_must (refine (starred_r par _ _ HSp.out).mono ?_); rintro e w3 ⟨rfl, hw3⟩; obtain rfl := hw3.symm))
                  go_ret
                  exact ⟨ret_bool HRf.out.symm, HBr.out⟩
                | false =>
                  have HOk := Lib.hid (show edgeOk par n = true by unfold edgeOk; rw [HBx.out, HSp.out]; simp)
                  clear hsx
                  go_upto_region 4 with fail
                  try rw [hW0]
                  clear hkeep p0 p1 p2 p3 p4 p5 hW0
                  go_wp2_with (first
                    | (go_at_call_of 85 n.kind; go_must (refine (ended_r n.kind _ _ HBx.out).mono ?_); rintro e w3 ⟨rfl, hw3⟩; obtain rfl := hw3.symm)
                    | (go_at_call_of 86 n.kind; go_must (refine (starred_r n.kind _ _ HSx.out).mono ?_); rintro e w3 ⟨rfl, hw3⟩; obtain rfl := hw3.symm)
                    | (go_at_call 86; go_must (refine (starred_r par _ _ HSp.out).mono ?_); rintro e w3 ⟨rfl, hw3⟩; obtain rfl := hw3.symm))
                  go_still_tail 9, (by kernel_rfl)
                  change wpList _ _ _ _ _ (World.drew W0)
                  obtain ⟨W1, hW1⟩ : ∃ W, World.drew W0 = W := ⟨_, rfl⟩
                  have HYr := Lib.hid (show CB W1 wr.heap.size 31 #[.int .i64 n.kind, .int .i64 n.level, .string n.text, .string n.dest, .string n.title, .slice A3 n.kids.length c3] by rw [← hW1]; exact HYr.out.drew)
                  have HXr := Lib.hid (show CB W1 nw 72 #[.bool em, .bool st, .bool li, .bool ce, .bool ls] by rw [← hW1]; exact HXr.out.drew)
                  have HBr := Lib.hid (show Below nw w W1 by rw [← hW1]; exact HBr.out.drew)
                  have HKr := Lib.hid (show NodesAt W1 (.slice A3 n.kids.length c3) n.kids by rw [← hW1]; exact HKr.out.keep (Keeps.of_below (Below.refl _ _).drew))
                  rw [hW1]
                  clear hW1 y0 y1 y2 y3 y4 y5 x0 x1 x2 x3 x4 r0 r1 r2 r3 r4 r5
                  cases v1 with
                  | true =>
                    cases v2 with
                    | true =>
                      have HSn := Lib.hid (show R0 = inlL (l.drop (k + 1)) (prevN l (k + 1)) em st li kd by rw [HS.out, HAt.out, HPv.out, HV2i.out]; rfl)
                      go_wp2_with (first
                        | (go_at_call 87; go_must (refine (goodPair_r _ _ _ _ _ _ _ _ _ _ _ _ _ _ _ _ _ _ HV1.out hta hts).mono ?_); rintro e w3 ⟨rfl, hb⟩; have HKr := Lib.hid (HKr.out.keep (Keeps.of_below hb)); have HYr := Lib.hid (HYr.out.below hb); have HXr := Lib.hid (HXr.out.below hb); have HBr := Lib.hid (HBr.out.trans (hb.mono (by have := HBr.out.size; have := HNw.out; omega))); clear hb; have y0 := HYr.out.c 0; have y1 := HYr.out.c 1; have y2 := HYr.out.c 2; have y3 := HYr.out.c 3; have y4 := HYr.out.c 4; have y5 := HYr.out.c 5; have x0 := HXr.out.c 0; have x1 := HXr.out.c 1; have x2 := HXr.out.c 2; have x3 := HXr.out.c 3; have x4 := HXr.out.c 4; simp only [List.getElem?_toArray, List.getElem?_cons_zero, List.getElem?_cons_succ] at y0 y1 y2 y3 y4 y5 x0 x1 x2 x3 x4)
                        | (go_at_call 88; go_must (refine (goodInline_q n A3 c3 em st li ce ls kd p _ HCe.out HKr.out HEn1.out HInl.out HSs.out (fun em st li W' hW' => HI.out n.kids _ n.kind em st li ce ls kd n.kind W' HSz.out (HKr.out.keep hW') HEn2.out (noBlk_inline HInl.out) HWk.out HCe.out HLs.out)).mono ?_); rw [HV2.out]; rintro e w5 ⟨rfl, hb⟩; have HX5 := Lib.hid (HXr.out.below hb); have HB5 := Lib.hid (HBr.out.trans (hb.mono (by have := HBr.out.size; have := HNw.out; omega))); clear hb))
                      go_roundw
                      case rel => exact ⟨k + 1, by omega, by go_num, HSn, Lib.hid (fun j a hj ha h3 => by
                            rcases Nat.lt_succ_iff_lt_or_eq.1 hj with h1 | rfl
                            · exact HEd.out j a h1 ha h3
                            · rw [HNx.out] at ha; cases ha; exact HOk.out), HX5, HB5⟩
                      case measure => simp [intOf]; omega
                    | false =>
                      have HRf := Lib.hid (show R = false by rw [HR.out, HS.out, HAt.out, HV2i.out]; simp)
                      go_wp2_with (first
                        | (go_at_call 87; go_must (refine (goodPair_r _ _ _ _ _ _ _ _ _ _ _ _ _ _ _ _ _ _ HV1.out hta hts).mono ?_); rintro e w3 ⟨rfl, hb⟩; have HKr := Lib.hid (HKr.out.keep (Keeps.of_below hb)); have HYr := Lib.hid (HYr.out.below hb); have HXr := Lib.hid (HXr.out.below hb); have HBr := Lib.hid (HBr.out.trans (hb.mono (by have := HBr.out.size; have := HNw.out; omega))); clear hb; have y0 := HYr.out.c 0; have y1 := HYr.out.c 1; have y2 := HYr.out.c 2; have y3 := HYr.out.c 3; have y4 := HYr.out.c 4; have y5 := HYr.out.c 5; have x0 := HXr.out.c 0; have x1 := HXr.out.c 1; have x2 := HXr.out.c 2; have x3 := HXr.out.c 3; have x4 := HXr.out.c 4; simp only [List.getElem?_toArray, List.getElem?_cons_zero, List.getElem?_cons_succ] at y0 y1 y2 y3 y4 y5 x0 x1 x2 x3 x4)
                        | (go_at_call 88; go_must (refine (goodInline_q n A3 c3 em st li ce ls kd p _ HCe.out HKr.out HEn1.out HInl.out HSs.out (fun em st li W' hW' => HI.out n.kids _ n.kind em st li ce ls kd n.kind W' HSz.out (HKr.out.keep hW') HEn2.out (noBlk_inline HInl.out) HWk.out HCe.out HLs.out)).mono ?_); rw [HV2.out]; rintro e w5 ⟨rfl, hb⟩; have HX5 := Lib.hid (HXr.out.below hb); have HB5 := Lib.hid (HBr.out.trans (hb.mono (by have := HBr.out.size; have := HNw.out; omega))); clear hb))
                      go_ret
                      exact ⟨ret_bool HRf.out.symm, HB5.out⟩
                  | false =>
                    have HRf := Lib.hid (show R = false by rw [HR.out, HS.out, HAt.out, HPv.out]; simp)
                    go_wp2_with (first
                      | (go_at_call 87; go_must (refine (goodPair_r _ _ _ _ _ _ _ _ _ _ _ _ _ _ _ _ _ _ HV1.out hta hts).mono ?_); rintro e w3 ⟨rfl, hb⟩; have HKr := Lib.hid (HKr.out.keep (Keeps.of_below hb)); have HYr := Lib.hid (HYr.out.below hb); have HXr := Lib.hid (HXr.out.below hb); have HBr := Lib.hid (HBr.out.trans (hb.mono (by have := HBr.out.size; have := HNw.out; omega))); clear hb; have y0 := HYr.out.c 0; have y1 := HYr.out.c 1; have y2 := HYr.out.c 2; have y3 := HYr.out.c 3; have y4 := HYr.out.c 4; have y5 := HYr.out.c 5; have x0 := HXr.out.c 0; have x1 := HXr.out.c 1; have x2 := HXr.out.c 2; have x3 := HXr.out.c 3; have x4 := HXr.out.c 4; simp only [List.getElem?_toArray, List.getElem?_cons_zero, List.getElem?_cons_succ] at y0 y1 y2 y3 y4 y5 x0 x1 x2 x3 x4))
                    go_ret
                    exact ⟨ret_bool HRf.out.symm, HBr.out⟩
            · have te : ((k : Int) == (l.length : Int) - 1) = false := by simp; omega
              have HNp := Lib.hid (show ¬ (k = 0 ∨ k + 1 = l.length) by omega)
              clear hkl
              obtain ⟨sx, hsx⟩ : ∃ b, star n.kind = b := ⟨_, rfl⟩
              have HSx := Lib.hid hsx
              clear hsx
              go_upto_region 4 with fail
              try rw [hW0]
              clear hkeep p0 p1 p2 p3 p4 p5 hW0
              go_wp2_with (first
                | (go_at_call_of 85 n.kind; go_must (refine (ended_r n.kind _ _ HBx.out).mono ?_); rintro e w3 ⟨rfl, hw3⟩; obtain rfl := hw3.symm)
                | (go_at_call_of 86 n.kind; go_must (refine (starred_r n.kind _ _ HSx.out).mono ?_); rintro e w3 ⟨rfl, hw3⟩; obtain rfl := hw3.symm)
                | (go_at_call 86; go_must (refine (starred_r par _ _ HSp.out).mono ?_); rintro e w3 ⟨rfl, hw3⟩; obtain rfl := hw3.symm))
              go_still_tail 9, (by kernel_rfl)
              change wpList _ _ _ _ _ (World.drew W0)
              obtain ⟨W1, hW1⟩ : ∃ W, World.drew W0 = W := ⟨_, rfl⟩
              have HYr := Lib.hid (show CB W1 wr.heap.size 31 #[.int .i64 n.kind, .int .i64 n.level, .string n.text, .string n.dest, .string n.title, .slice A3 n.kids.length c3] by rw [← hW1]; exact HYr.out.drew)
              have HXr := Lib.hid (show CB W1 nw 72 #[.bool em, .bool st, .bool li, .bool ce, .bool ls] by rw [← hW1]; exact HXr.out.drew)
              have HBr := Lib.hid (show Below nw w W1 by rw [← hW1]; exact HBr.out.drew)
              have HKr := Lib.hid (show NodesAt W1 (.slice A3 n.kids.length c3) n.kids by rw [← hW1]; exact HKr.out.keep (Keeps.of_below (Below.refl _ _).drew))
              rw [hW1]
              clear hW1 y0 y1 y2 y3 y4 y5 x0 x1 x2 x3 x4 r0 r1 r2 r3 r4 r5
              cases v1 with
              | true =>
                cases v2 with
                | true =>
                  have HSn := Lib.hid (show R0 = inlL (l.drop (k + 1)) (prevN l (k + 1)) em st li kd by rw [HS.out, HAt.out, HPv.out, HV2i.out]; rfl)
                  go_wp2_with (first
                    | (go_at_call 87; go_must (refine (goodPair_r _ _ _ _ _ _ _ _ _ _ _ _ _ _ _ _ _ _ HV1.out hta hts).mono ?_); rintro e w3 ⟨rfl, hb⟩; have HKr := Lib.hid (HKr.out.keep (Keeps.of_below hb)); have HYr := Lib.hid (HYr.out.below hb); have HXr := Lib.hid (HXr.out.below hb); have HBr := Lib.hid (HBr.out.trans (hb.mono (by have := HBr.out.size; have := HNw.out; omega))); clear hb; have y0 := HYr.out.c 0; have y1 := HYr.out.c 1; have y2 := HYr.out.c 2; have y3 := HYr.out.c 3; have y4 := HYr.out.c 4; have y5 := HYr.out.c 5; have x0 := HXr.out.c 0; have x1 := HXr.out.c 1; have x2 := HXr.out.c 2; have x3 := HXr.out.c 3; have x4 := HXr.out.c 4; simp only [List.getElem?_toArray, List.getElem?_cons_zero, List.getElem?_cons_succ] at y0 y1 y2 y3 y4 y5 x0 x1 x2 x3 x4)
                    | (go_at_call 88; go_must (refine (goodInline_q n A3 c3 em st li ce ls kd p _ HCe.out HKr.out HEn1.out HInl.out HSs.out (fun em st li W' hW' => HI.out n.kids _ n.kind em st li ce ls kd n.kind W' HSz.out (HKr.out.keep hW') HEn2.out (noBlk_inline HInl.out) HWk.out HCe.out HLs.out)).mono ?_); rw [HV2.out]; rintro e w5 ⟨rfl, hb⟩; have HX5 := Lib.hid (HXr.out.below hb); have HB5 := Lib.hid (HBr.out.trans (hb.mono (by have := HBr.out.size; have := HNw.out; omega))); clear hb))
                  go_roundw
                  case rel => exact ⟨k + 1, by omega, by go_num, HSn, Lib.hid (fun j a hj ha h3 => by
                        rcases Nat.lt_succ_iff_lt_or_eq.1 hj with h1 | rfl
                        · exact HEd.out j a h1 ha h3
                        · rw [HNx.out] at ha; cases ha; exact absurd h3 HNp.out), HX5, HB5⟩
                  case measure => simp [intOf]; omega
                | false =>
                  have HRf := Lib.hid (show R = false by rw [HR.out, HS.out, HAt.out, HV2i.out]; simp)
                  go_wp2_with (first
                    | (go_at_call 87; go_must (refine (goodPair_r _ _ _ _ _ _ _ _ _ _ _ _ _ _ _ _ _ _ HV1.out hta hts).mono ?_); rintro e w3 ⟨rfl, hb⟩; have HKr := Lib.hid (HKr.out.keep (Keeps.of_below hb)); have HYr := Lib.hid (HYr.out.below hb); have HXr := Lib.hid (HXr.out.below hb); have HBr := Lib.hid (HBr.out.trans (hb.mono (by have := HBr.out.size; have := HNw.out; omega))); clear hb; have y0 := HYr.out.c 0; have y1 := HYr.out.c 1; have y2 := HYr.out.c 2; have y3 := HYr.out.c 3; have y4 := HYr.out.c 4; have y5 := HYr.out.c 5; have x0 := HXr.out.c 0; have x1 := HXr.out.c 1; have x2 := HXr.out.c 2; have x3 := HXr.out.c 3; have x4 := HXr.out.c 4; simp only [List.getElem?_toArray, List.getElem?_cons_zero, List.getElem?_cons_succ] at y0 y1 y2 y3 y4 y5 x0 x1 x2 x3 x4)
                    | (go_at_call 88; go_must (refine (goodInline_q n A3 c3 em st li ce ls kd p _ HCe.out HKr.out HEn1.out HInl.out HSs.out (fun em st li W' hW' => HI.out n.kids _ n.kind em st li ce ls kd n.kind W' HSz.out (HKr.out.keep hW') HEn2.out (noBlk_inline HInl.out) HWk.out HCe.out HLs.out)).mono ?_); rw [HV2.out]; rintro e w5 ⟨rfl, hb⟩; have HX5 := Lib.hid (HXr.out.below hb); have HB5 := Lib.hid (HBr.out.trans (hb.mono (by have := HBr.out.size; have := HNw.out; omega))); clear hb))
                  go_ret
                  exact ⟨ret_bool HRf.out.symm, HB5.out⟩
              | false =>
                have HRf := Lib.hid (show R = false by rw [HR.out, HS.out, HAt.out, HPv.out]; simp)
                go_wp2_with (first
                  | (go_at_call 87; go_must (refine (goodPair_r _ _ _ _ _ _ _ _ _ _ _ _ _ _ _ _ _ _ HV1.out hta hts).mono ?_); rintro e w3 ⟨rfl, hb⟩; have HKr := Lib.hid (HKr.out.keep (Keeps.of_below hb)); have HYr := Lib.hid (HYr.out.below hb); have HXr := Lib.hid (HXr.out.below hb); have HBr := Lib.hid (HBr.out.trans (hb.mono (by have := HBr.out.size; have := HNw.out; omega))); clear hb; have y0 := HYr.out.c 0; have y1 := HYr.out.c 1; have y2 := HYr.out.c 2; have y3 := HYr.out.c 3; have y4 := HYr.out.c 4; have y5 := HYr.out.c 5; have x0 := HXr.out.c 0; have x1 := HXr.out.c 1; have x2 := HXr.out.c 2; have x3 := HXr.out.c 3; have x4 := HXr.out.c 4; simp only [List.getElem?_toArray, List.getElem?_cons_zero, List.getElem?_cons_succ] at y0 y1 y2 y3 y4 y5 x0 x1 x2 x3 x4))
                go_ret
                exact ⟨ret_bool HRf.out.symm, HBr.out⟩
      · have HRt := Lib.hid (show R = true by
          rw [HR.out, edge_of (fun j a h1 h2 => HEd.out j a (by have := (List.getElem?_eq_some_iff.1 h1).1; omega) h1 h2), HS.out]
          exact inlL_end2 (by omega) _ _ _ _ _)
        go_wp2_with fail
        go_ret
        exact ⟨ret_bool HRt.out.symm, HB.out⟩

end Go.Proofs.YtlganccpgchmeaaDoor
