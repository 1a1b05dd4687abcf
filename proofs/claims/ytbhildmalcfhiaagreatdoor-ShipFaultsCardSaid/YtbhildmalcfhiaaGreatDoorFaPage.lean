/-
  Faults of a page by the reference: mastref1.pageFaults.
-/
import Derived.Test.YtbhildmalcfhiaaGreatDoorFaNestP
import Derived.Test.YtbhildmalcfhiaaGreatDoorFaEnd
namespace Go.Proofs.YtbhildmalcfhiaaGreatDoor
open Go.RowKit Go.Deep

theorem RS.box {N jb : Nat} {D : List FaultR} {w0 w : World} (h : RS N jb D w0 w) : ∃ fv, CB w jb 122 #[fv] := by
  obtain ⟨A, c, h1, _⟩ := h.ex
  exact ⟨_, h1⟩
/-- the faults and the row of open elements -/
structure RN (N jb : Nat) (D : List FaultR) (O : List (TokR × Value)) (A : Option Addr) (c : Nat) (w0 w : World) : Prop where
  js : RS N jb D w0 w
  op : w.ownsRow N 56 5 (.slice A O.length c) O.length (tokCells O)
section
variable {N jb : Nat} {D : List FaultR} {O : List (TokR × Value)} {A : Option Addr} {c : Nat} {w0 w w' : World}
theorem RN.below (h : RN N jb D O A c w0 w) (hb : Below w.heap.size w w') : RN N jb D O A c w0 w' := ⟨h.js.below hb, own_stay h.op hb⟩
theorem RN.alloc (h : RN N jb D O A c w0 w) (o : Obj) : RN N jb D O A c w0 (w.alloc o) := h.below ((Below.refl _ _).alloc (Nat.le_refl _) o)
theorem RN.drewN (h : RN N jb D O A c w0 w) (n : Nat) : RN N jb D O A c w0 (w.drewN n) := h.below (Below.drewN' (Below.refl _ _) n)
theorem RN.off (h : RN N jb D O A c w0 w) {g : Nat} (hg : (Value.slice A O.length c).ownBlock = some g) : ¬ JP jb w g := by
  obtain ⟨cs, hc⟩ := own_type h.op hg
  rintro (e | ⟨cs', fz, e⟩)
  · obtain ⟨fv, hb⟩ := h.js.box
    rw [e] at hc
    have := Option.some.inj ((show w.heap[jb]? = _ from hb).symm.trans (show w.heap[jb]? = _ from hc))
    injection this with e1 e2
    exact absurd e2 (by decide)
  · rw [show w.heap[g]? = _ from hc] at e
    have := Option.some.inj e
    injection this with e1 e2
    exact absurd e2 (by decide)
theorem RN.jp {D' : List FaultR} (h : RN N jb D O A c w0 w) (hj : RS N jb D' w0 w') (g : GrownX (JP jb w) w w') : RN N jb D' O A c w0 w' := ⟨hj, own_keepX h.op g (fun _ hg => h.off hg)⟩
theorem RN.push {W : World} {x : TokR × Value} {g6 k6 : Nat} (h : RN N jb D O A c w0 W) (hg : W.grownBy w' (Value.slice A O.length c).ownBlock) (own6 : w'.ownsRow N 56 5 (.slice (some ⟨g6, 0, none⟩) (O.length + 1) k6) (O.length + 1) (tokCells O ++ tokRow x)) : RN N jb D (O ++ [x]) (some ⟨g6, 0, none⟩) k6 w0 w' := by
  have e : (O ++ [x]).length = O.length + 1 := by simp
  refine ⟨?_, by rw [e, tokCells_snoc]; exact own6⟩
  cases hv : (Value.slice A O.length c).ownBlock with
  | none => rw [hv] at hg; exact h.js.below ⟨hg.os, hg.tape, hg.output, hg.size, fun x hx => hg.block x hx (by simp)⟩
  | some g =>
    rw [hv] at hg
    exact h.js.other hg (own_block_ge h.op g hv) (h.off hv)
theorem RN.cut (h : RN N jb D O A c w0 w) {j : Nat} (hj : j ≤ O.length) : RN N jb D (O.take j) A c w0 w := by
  have h2 := own_cut h.op hj
  rw [tokCells_take] at h2
  have e : (O.take j).length = j := by rw [List.length_take]; omega
  exact ⟨h.js, by rw [e]; exact h2⟩
end

structure QS (N jb : Nat) (D : List FaultR) (O : List (TokR × Value)) (A : Option Addr) (c : Nat) (ids : List (List UInt8)) (Ai : Option Addr) (ci : Nat) (w0 w : World) : Prop where
  rn : RN N jb D O A c w0 w
  id : w.ownsRow N 9 1 (.slice Ai ids.length ci) ids.length (strCells ids)
structure QT (N jb tb : Nat) (cs : Array Value) (D : List FaultR) (O : List (TokR × Value)) (A : Option Addr) (c : Nat) (ids : List (List UInt8)) (Ai : Option Addr) (ci : Nat) (w0 w : World) : Prop where
  q : QS N jb D O A c ids Ai ci w0 w
  tok : CB w tb 56 cs
section
variable {N jb tb : Nat} {cs : Array Value} {D : List FaultR} {O : List (TokR × Value)} {A Ai : Option Addr} {c ci : Nat} {ids : List (List UInt8)} {w0 w w' : World}
theorem QS.below (h : QS N jb D O A c ids Ai ci w0 w) (hb : Below w.heap.size w w') : QS N jb D O A c ids Ai ci w0 w' := ⟨h.rn.below hb, own_stay h.id hb⟩
theorem QS.alloc (h : QS N jb D O A c ids Ai ci w0 w) (o : Obj) : QS N jb D O A c ids Ai ci w0 (w.alloc o) := h.below ((Below.refl _ _).alloc (Nat.le_refl _) o)
theorem QS.off (h : QS N jb D O A c ids Ai ci w0 w) {g : Nat} (hg : (Value.slice Ai ids.length ci).ownBlock = some g) : ¬ JP jb w g := by
  obtain ⟨cs, hc⟩ := own_type h.id hg
  rintro (e | ⟨cs', fz, e⟩)
  · obtain ⟨fv, hb⟩ := h.rn.js.box
    rw [e] at hc
    have := Option.some.inj ((show w.heap[jb]? = _ from hb).symm.trans (show w.heap[jb]? = _ from hc))
    injection this with e1 e2
    exact absurd e2 (by decide)
  · rw [show w.heap[g]? = _ from hc] at e
    have := Option.some.inj e
    injection this with e1 e2
    exact absurd e2 (by decide)
theorem QS.jp {D' : List FaultR} (h : QS N jb D O A c ids Ai ci w0 w) (hj : RS N jb D' w0 w') (g : GrownX (JP jb w) w w') : QS N jb D' O A c ids Ai ci w0 w' := ⟨h.rn.jp hj g, own_keepX h.id g (fun _ hg => h.off hg)⟩
theorem QS.pushO {W : World} {x : TokR × Value} {g6 k6 : Nat} (h : QS N jb D O A c ids Ai ci w0 W) (hg : W.grownBy w' (Value.slice A O.length c).ownBlock) (own6 : w'.ownsRow N 56 5 (.slice (some ⟨g6, 0, none⟩) (O.length + 1) k6) (O.length + 1) (tokCells O ++ tokRow x)) : QS N jb D (O ++ [x]) (some ⟨g6, 0, none⟩) k6 ids Ai ci w0 w' :=
  ⟨h.rn.push hg own6, own_keepX h.id (GrownX.of_grown (p := fun x => (Value.slice A O.length c).ownBlock = some x) hg (fun _ e => e)) (fun g hg' e => own_apart h.rn.op h.id (by decide) g e hg')⟩
theorem QS.pushI {W : World} {v : List UInt8} {g6 k6 : Nat} (h : QS N jb D O A c ids Ai ci w0 W) (hg : W.grownBy w' (Value.slice Ai ids.length ci).ownBlock) (own6 : w'.ownsRow N 9 1 (.slice (some ⟨g6, 0, none⟩) (ids.length + 1) k6) (ids.length + 1) (strCells (ids ++ [v]))) : QS N jb D O A c (ids ++ [v]) (some ⟨g6, 0, none⟩) k6 w0 w' := by
  have e : (ids ++ [v]).length = ids.length + 1 := by simp
  refine ⟨⟨?_, own_keepX h.rn.op (GrownX.of_grown (p := fun x => (Value.slice Ai ids.length ci).ownBlock = some x) hg (fun _ e => e)) (fun g hg' e => own_apart h.id h.rn.op (by decide) g e hg')⟩, by rw [e]; exact own6⟩
  cases hv : (Value.slice Ai ids.length ci).ownBlock with
  | none => rw [hv] at hg; exact h.rn.js.below ⟨hg.os, hg.tape, hg.output, hg.size, fun x hx => hg.block x hx (by simp)⟩
  | some g =>
    rw [hv] at hg
    exact h.rn.js.other hg (own_block_ge h.id g hv) (h.off hv)
theorem QS.cut (h : QS N jb D O A c ids Ai ci w0 w) {j : Nat} (hj : j ≤ O.length) : QS N jb D (O.take j) A c ids Ai ci w0 w := ⟨h.rn.cut hj, h.id⟩
theorem QT.below (h : QT N jb tb cs D O A c ids Ai ci w0 w) (hb : Below w.heap.size w w') : QT N jb tb cs D O A c ids Ai ci w0 w' := ⟨h.q.below hb, h.tok.below hb⟩
theorem QT.drewN (h : QT N jb tb cs D O A c ids Ai ci w0 w) (n : Nat) : QT N jb tb cs D O A c ids Ai ci w0 (w.drewN n) := h.below (Below.drewN' (Below.refl _ _) n)
theorem QT.jp {D' : List FaultR} (h : QT N jb tb cs D O A c ids Ai ci w0 w) (hj : RS N jb D' w0 w') (g : GrownX (JP jb w) w w') (ht : tb ≠ jb) : QT N jb tb cs D' O A c ids Ai ci w0 w' := ⟨h.q.jp hj g, h.tok.jp g ht (by decide)⟩
theorem QT.pushI {W : World} {v : List UInt8} {g6 k6 : Nat} (h : QT N jb tb cs D O A c ids Ai ci w0 W) (hg : W.grownBy w' (Value.slice Ai ids.length ci).ownBlock) (own6 : w'.ownsRow N 9 1 (.slice (some ⟨g6, 0, none⟩) (ids.length + 1) k6) (ids.length + 1) (strCells (ids ++ [v]))) : QT N jb tb cs D O A c (ids ++ [v]) (some ⟨g6, 0, none⟩) k6 w0 w' := ⟨h.q.pushI hg own6, h.tok.grown h.q.id hg (by decide)⟩
theorem QT.bel (h : QT N jb tb cs D O A c ids Ai ci w0 w) : Below N w0 w := h.q.rn.js.bel
end
theorem ref_next {T : List TokR} {k : Nat} {t : TokR} {S : RefS} (h : refTo T k = S) (hx : T[k]? = some t) (h2 : t.kind ≠ 2) (h3 : t.kind ≠ 3) : refTo T (k + 1) = S := by rw [refTo_succ hx, h, refStep, if_neg h3, if_neg h2]
theorem ref_none {T : List TokR} {k : Nat} {t : TokR} {la : Int} {go se : Bool} {ids : List (List UInt8)} {O : List TokR} {E : List FaultR} (h : refTo T k = ⟨la, go, se, ids, O, E⟩) (hx : T[k]? = some t) (h3 : t.kind = 3) (hf : findO O t.name O.length = none) : refTo T (k + 1) = ⟨la, go, se, ids, O, E ++ [⟨t.at_, 5⟩]⟩ := by
  rw [refTo_succ hx, h, refStep, if_pos h3, refClose, closeStep]
  simp only [hf]
theorem ref_some {T : List TokR} {k j : Nat} {t : TokR} {la : Int} {go se : Bool} {ids : List (List UInt8)} {O : List TokR} {E : List FaultR} (h : refTo T k = ⟨la, go, se, ids, O, E⟩) (hx : T[k]? = some t) (h3 : t.kind = 3) (hf : findO O t.name O.length = some j) : refTo T (k + 1) = ⟨la, go, se, ids, O.take j, E ++ unclosed (O.drop (j + 1))⟩ := by
  rw [refTo_succ hx, h, refStep, if_pos h3, refClose, closeStep]
  simp only [hf]
theorem ref_open {T : List TokR} {k at0 : Nat} {nm tx : ByteArray} {atts : List AttrR} {la la2 : Int} {go go2 se se2 : Bool} {ids ids3 : List (List UInt8)} {O O2 : List TokR} {E D1 D2 D3 D4 : List FaultR} (h : refTo T k = ⟨la, go, se, ids, O, E⟩) (hx : T[k]? = some ⟨2, at0, nm, tx, atts⟩)
    (h1 : E ++ oAlt ⟨2, at0, nm, tx, atts⟩ = D1) (h2 : D1 ++ oHead la ⟨2, at0, nm, tx, atts⟩ = D2) (h3 : D2 ++ oId ids ⟨2, at0, nm, tx, atts⟩ = D3) (h4 : D3 ++ oLink T k ⟨2, at0, nm, tx, atts⟩ = D4)
    (h5 : nextL la ⟨2, at0, nm, tx, atts⟩ = la2) (h6 : nextI ids ⟨2, at0, nm, tx, atts⟩ = ids3) (h7 : nextT se ⟨2, at0, nm, tx, atts⟩ = se2) (h8 : (if nm = titleN ∧ se = false then goodT T k else go) = go2) (h9 : (if voidB nm = false then O ++ [⟨2, at0, nm, tx, atts⟩] else O) = O2) : refTo T (k + 1) = ⟨la2, go2, se2, ids3, O2, D4⟩ := by
  rw [refTo_succ hx, h, refStep, if_neg (by simp), if_pos rfl, refOpen]
  simp only
  rw [h1, h2, h3, h4, h5, h6, h7, h8, h9]

end Go.Proofs.YtbhildmalcfhiaaGreatDoor

namespace Go.Proofs.YtbhildmalcfhiaaGreatDoor
open Go.RowKit Go.Deep

def FaPost (D : List FaultR) (w : World) (e : Ending) (w' : World) : Prop :=
  ∃ (A : Option Addr) (c : Nat), e = .returned (.slice A D.length c) ∧ w'.ownsRow w.heap.size 41 3 (.slice A D.length c) D.length (faCells ⟨#[]⟩ D) ∧ Below w.heap.size w w'
theorem ref_len (T : List TokR) : ∀ k, (refTo T k).out.length + (refTo T k).open_.length ≤ 6 * k
  | 0 => by simp [refTo]
  | k + 1 => by
    have ih := ref_len T k
    rw [refTo]
    split
    · rename_i t _
      unfold refStep
      split
      · unfold refClose closeStep
        simp only
        split
        · simp; omega
        · simp only [List.length_append, unclosed_len, List.length_drop, List.length_take]; omega
      · split
        · have a1 : (oAlt t).length ≤ 1 := one_len _
          have a2 : (oHead (refTo T k).last t).length ≤ 1 := one_len _
          have a3 : (oId (refTo T k).ids t).length ≤ 1 := one_len _
          have a5 : (oLink T k t).length ≤ 1 := one_len _
          unfold refOpen
          simp only [List.length_append]
          split
          · simp only [List.length_append, List.length_singleton]; omega
          · omega
        · omega
    · omega

set_option maxRecDepth 100000 in
set_option maxHeartbeats 80000000 in
theorem pageFaults_q (T : List (TokR × Value)) (tv : Value) (w0 : World) (hT : ToksIn w0 tv T) (hm : MaxT w0.heap.size w0) (hL : T.length ≤ 20000) (hx : ∀ x ∈ T, x.1.text.size ≤ 1048576) :
    Calls Tryz.prog 35 #[tv] w0 (FaPost (refEnd (refTo (T.map (·.1)) T.length)) w0) := by
  obtain ⟨At, ct, bt, rfl, hlc, hct, hAt⟩ := hT.shape
  have HAt := Lib.hid hAt; clear hAt
  obtain ⟨N, hN⟩ : ∃ N, w0.heap.size = N := ⟨_, rfl⟩
  have HT := Lib.hid (fun wr (hb : Below N w0 wr) => hT.keep (Keeps.of_below (by rw [hN]; exact hb)))
  have HM := Lib.hid (show MaxT N w0 by rw [← hN]; exact hm)
  have HX := Lib.hid hx; clear hx hT hm
  have H0 := Lib.hid (show QS N N [] [] none 0 [] none 0 w0 (w0.alloc (.cells #[.slice none 0 0] 122)) from
    ⟨⟨⟨⟨none, 0, by rw [← hN]; exact CB.new _ _ _, World.ownsRow_nil _ _ _ _⟩, (Below.refl _ _).alloc (by omega) _, hN, Nat.le_refl _⟩, World.ownsRow_nil _ _ _ _⟩, World.ownsRow_nil _ _ _ _⟩)
  have HN := Lib.hid hN
  clear hN
  go_enter Tryz.func35, Tryz.ntmps35
  go_wp2_with fail
  rw [HN.out]
  go_loopw [4, 5, 6, 7, 8, 26] (fun t4 t5 t6 t7 t8 t26 wr => ∃ (k : Nat) (la : Int) (go se : Bool) (ids : List (List UInt8)) (O : List (TokR × Value)) (E : List FaultR) (A Ai : Option Addr) (c ci q qi : Nat), t4 = .int .i64 la ∧ t5 = .bool go ∧ t6 = .bool se ∧ t7 = .slice Ai qi ci ∧ t8 = .slice A q c ∧ t26 = .int .i64 k ∧ ids.length = qi ∧ O.length = q ∧ k ≤ T.length ∧ 0 ≤ la ∧ la ≤ 6 ∧ qi ≤ k ∧ Hid (∀ z ∈ O, ∃ Az nz cz, z.2 = .slice Az nz cz) ∧ Hid (refTo (T.map (·.1)) k = ⟨la, go, se, ids, O.map (·.1), E⟩) ∧ Hid (QS N N E O A c ids Ai ci w0 wr)) (fun _ _ _ _ _ t26 _ => T.length - (intOf t26).toNat)
  case atStart => exact ⟨0, 0, false, false, [], [], [], none, none, 0, 0, 0, 0, rfl, rfl, rfl, rfl, rfl, rfl, rfl, rfl, Nat.zero_le _, by omega, by omega, Nat.zero_le _, (fun z hz => by cases hz), rfl, H0⟩
  case round =>
    clear H0
    obtain ⟨k, la, go, se, ids, O, E, A, Ai, c, ci, q, qi, rfl, rfl, rfl, rfl, rfl, rfl, hqi, hq, hk, hla0, hla6, hik, HAtt, HS, HQ⟩ := hrel
    subst hq; subst hqi
    obtain ⟨wo, rfl⟩ : ∃ wo : World, wo = wr := ⟨_, rfl⟩
    have hcm : c ≤ 9223372036854775807 ∧ O.length ≤ c := by
      obtain ⟨A', c', e, h1, h2, _⟩ := own_form HQ.out.rn.op
      cases e
      unfold maxLen at h1
      exact ⟨by omega, h2⟩
    obtain ⟨hcm, hOc⟩ := hcm
    have hln : E.length + O.length ≤ 6 * k := by have := ref_len (T.map (·.1)) k; rw [HS.out] at this; simpa using this
    have hNo : N ≤ wo.heap.size := HQ.out.rn.js.size
    by_cases hlt : k < T.length
    · obtain rfl := HAt.out (by intro h; rw [h] at hlt; simp at hlt)
      obtain ⟨x, hx⟩ : ∃ x, T[k]? = some x := ⟨_, List.getElem?_eq_getElem hlt⟩
      have HMx := Lib.hid (map_at hx)
      have HXA := Lib.hid (fun (wx : World) (hb : Below N w0 wx) => ((HT.out wx hb).cells (fun _ => rfl) hx).1)
      obtain ⟨hxa, hxc⟩ := (HT.out wo HQ.out.rn.js.bel).cells (fun _ => rfl) hx
      clear hx
      obtain ⟨⟨kd, at0, nm, tx, atts⟩, av⟩ := x
      obtain ⟨Ax, cx, bx, hxv, _⟩ := hxa
      simp only at hxv HXA HMx
      subst hxv
      have p0 := hxc 0 _ rfl
      have p1 := hxc 1 _ rfl
      have p2 := hxc 2 _ rfl
      have p3 := hxc 3 _ rfl
      have p4 := hxc 4 _ rfl
      simp only [Nat.add_zero] at p0
      clear hxc
      have hne0 : wo.heap.size ≠ N := by obtain ⟨fv, hb⟩ := HQ.out.rn.js.box; have := hb.lt; omega
      by_cases k2 : kd = 2
      · subst k2
        as_aux_lemma =>
          go_upto_region 23 with fail
          obtain ⟨tb, htb⟩ : ∃ tb, wo.heap.size = tb := ⟨_, rfl⟩
          obtain ⟨wa, hwa⟩ : ∃ W, wo.alloc (.cells #[.int .i64 2, .int .i64 (at0 : Int), .string nm, .string tx, .slice Ax atts.length cx] 56) = W := ⟨_, rfl⟩
          have Hwa := Lib.hid (show QT N N tb #[.int .i64 2, .int .i64 (at0 : Int), .string nm, .string tx, .slice Ax atts.length cx] E O A c ids Ai ci w0 wa by rw [← hwa, ← htb]; exact ⟨HQ.out.alloc _, CB.new _ _ _⟩)
          have hne : tb ≠ N := by rw [← htb]; exact hne0
          rw [hwa]
          try rw [htb]
          clear hwa htb p0 p1 p2 p3 p4 HQ hne0
          obtain ⟨va, hva⟩ : ∃ v, attrS altN atts = v := ⟨_, rfl⟩
          have Hva := Lib.hid hva; clear hva
          obtain ⟨ba, hba⟩ : ∃ v, (attrV altN atts).isSome = v := ⟨_, rfl⟩
          have Hba := Lib.hid hba; clear hba
          have x0 := Hwa.out.tok.c 0
          have x1 := Hwa.out.tok.c 1
          have x2 := Hwa.out.tok.c 2
          have x3 := Hwa.out.tok.c 3
          have x4 := Hwa.out.tok.c 4
          simp only [List.getElem?_toArray, List.getElem?_cons_zero, List.getElem?_cons_succ] at x0 x1 x2 x3 x4
          have xl := Hwa.out.tok.lt
          go_upto_region 24 with (go_at_call 68; go_must (refine (attrOf_q 2 at0 nm tx _ atts altN va ba _ (HXA.out _ Hwa.out.bel) Hva.out Hba.out).mono ?_); rintro e wb ⟨rfl, hb⟩; have Hwb := Lib.hid (Hwa.out.below hb); clear hb)
          clear x0 x1 x2 x3 x4 xl
          have x0 := Hwb.out.tok.c 0
          have x1 := Hwb.out.tok.c 1
          have x2 := Hwb.out.tok.c 2
          have x3 := Hwb.out.tok.c 3
          have x4 := Hwb.out.tok.c 4
          simp only [List.getElem?_toArray, List.getElem?_cons_zero, List.getElem?_cons_succ] at x0 x1 x2 x3 x4
          have xl := Hwb.out.tok.lt
          obtain ⟨bA, hbA⟩ : ∃ v, (decide (nm = imgN) && !ba) = v := ⟨_, rfl⟩
          have HbA := Lib.hid hbA; clear hbA
          go_cut [88] from 27 to 207 (fun s88 wx => s88 = .bool bA ∧ Hid (QT N N tb #[.int .i64 2, .int .i64 (at0 : Int), .string nm, .string tx, .slice Ax atts.length cx] E O A c ids Ai ci w0 wx))
          case first =>
            as_aux_lemma =>
              by_cases hn : nm = imgN
              · have z : (nm.toList == [105, 109, 103]) = true := nm_eq' hn
                have HV := Lib.hid (show bA = !ba by rw [← HbA.out]; simp [hn])
                clear hn
                cases ba with
                | false =>
                  go_wp2_with fail
                  go_meet
                  exact ⟨by rw [HV.out]; rfl, Hwb⟩
                | true =>
                  go_wp2_with fail
                  go_meet
                  exact ⟨by rw [HV.out]; rfl, Hwb⟩
              · have z : (nm.toList == [105, 109, 103]) = false := nm_ne' hn
                have HV := Lib.hid (show bA = false by rw [← HbA.out]; simp [hn])
                clear hn
                go_wp2_with fail
                go_meet
                exact ⟨by rw [HV.out], Hwb⟩
          case rest =>
            as_aux_lemma =>
              obtain ⟨rfl, HA⟩ := hcut
              obtain ⟨w1, rfl⟩ : ∃ W : World, W = wc := ⟨_, rfl⟩
              clear x0 x1 x2 x3 x4 xl
              go_upto_if 88 with fail
              have x0 := HA.out.tok.c 0
              have x1 := HA.out.tok.c 1
              have x2 := HA.out.tok.c 2
              have x3 := HA.out.tok.c 3
              have x4 := HA.out.tok.c 4
              simp only [List.getElem?_toArray, List.getElem?_cons_zero, List.getElem?_cons_succ] at x0 x1 x2 x3 x4
              have xl := HA.out.tok.lt
              obtain ⟨D1, hD1⟩ : ∃ v, E ++ oAlt (⟨2, at0, nm, tx, atts⟩ : TokR) = v := ⟨_, rfl⟩
              have HD1 := Lib.hid hD1; clear hD1
              have HO1 := Lib.hid (show D1 = E ++ bif bA then [⟨at0, 1⟩] else [] by rw [← HD1.out]; exact congrArg (E ++ ·) (oAlt_b (t := (⟨2, at0, nm, tx, atts⟩ : TokR)) (by have h9 := HbA.out; rw [← Hba.out] at h9; exact h9)))
              have hD1 : D1.length ≤ E.length + 1 := by rw [HO1.out]; cases bA <;> simp
              go_cut [] from 27 to 207 (fun wx => Hid (QT N N tb #[.int .i64 2, .int .i64 (at0 : Int), .string nm, .string tx, .slice Ax atts.length cx] D1 O A c ids Ai ci w0 wx))
              case first =>
                as_aux_lemma =>
                  cases bA with
                  | true =>
                    go_wp2_with (go_at_call 67; go_must (refine (addR_q N N E at0 _ 1 w0 _ HA.out.q.rn.js rfl (by omega)).mono ?_); rintro e wd ⟨rfl, hj, hg⟩; have Hwd := Lib.hid (HA.out.jp hj hg hne); clear hj hg)
                    go_meet
                    rw [HO1.out]; exact Hwd
                  | false =>
                    go_wp2_with fail
                    go_meet
                    rw [HO1.out, cond_false, List.append_nil]; exact HA
              case rest =>
                as_aux_lemma =>
                  obtain ⟨w2, rfl⟩ : ∃ W : World, W = wc := ⟨_, rfl⟩
                  have HB := hcut
                  clear hcut HA
                  clear x0 x1 x2 x3 x4 xl
                  go_upto_region 26 with fail
                  have x0 := HB.out.tok.c 0
                  have x1 := HB.out.tok.c 1
                  have x2 := HB.out.tok.c 2
                  have x3 := HB.out.tok.c 3
                  have x4 := HB.out.tok.c 4
                  simp only [List.getElem?_toArray, List.getElem?_cons_zero, List.getElem?_cons_succ] at x0 x1 x2 x3 x4
                  have xl := HB.out.tok.lt
                  obtain ⟨bH, hbH⟩ : ∃ v, headB nm = v := ⟨_, rfl⟩
                  have HbH := Lib.hid hbH; clear hbH
                  go_cut [114] from 27 to 207 (fun s114 wx => s114 = .bool bH ∧ Hid (QT N N tb #[.int .i64 2, .int .i64 (at0 : Int), .string nm, .string tx, .slice Ax atts.length cx] D1 O A c ids Ai ci w0 wx))
                  case first =>
                    as_aux_lemma =>
                      by_cases hz : nm.size = 2
                      · have z0 : ((nm.size : Int) == 2) = true := by rw [beq_iff_eq]; omega
                        have q0 : (0 : Int) < (nm.size : Int) := by omega
                        have q1 : (1 : Int) < (nm.size : Int) := by omega
                        have g0 : 0 < nm.size := by omega
                        have g1 : 1 < nm.size := by omega
                        obtain ⟨n0, hn0⟩ : ∃ v, nAt nm 0 = v := ⟨_, rfl⟩
                        obtain ⟨n1, hn1⟩ : ∃ v, nAt nm 1 = v := ⟨_, rfl⟩
                        have e0 : ((nm[0]'g0).toNat : Int) = n0 := by rw [bAt_idx g0]; exact hn0
                        have e1 : ((nm[1]'g1).toNat : Int) = n1 := by rw [bAt_idx g1]; exact hn1
                        by_cases k0 : n0 = 104
                        · have z1 : (n0 == 104) = true := beq_iff_eq.2 k0
                          by_cases k1 : 49 ≤ n1
                          · by_cases k2 : n1 ≤ 54
                            · have HV := Lib.hid (show bH = true by rw [← HbH.out, headB, hn0, hn1, k0]; simp [hz, k1, k2])
                              clear hn0 hn1 k0 hz
                              go_wp2_with fail
                              go_meet
                              exact ⟨by rw [HV.out], HB⟩
                            · have HV := Lib.hid (show bH = false by rw [← HbH.out, headB, hn0, hn1]; simp [k2])
                              clear hn0 hn1 k0 hz
                              go_wp2_with fail
                              go_meet
                              exact ⟨by rw [HV.out], HB⟩
                          · have HV := Lib.hid (show bH = false by rw [← HbH.out, headB, hn0, hn1]; simp [k1])
                            clear hn0 hn1 k0 hz
                            go_wp2_with fail
                            go_meet
                            exact ⟨by rw [HV.out], HB⟩
                        · have z1 : (n0 == 104) = false := beq_eq_false_iff_ne.2 k0
                          have HV := Lib.hid (show bH = false by rw [← HbH.out, headB, hn0, z1]; simp)
                          clear hn0 hn1 k0 hz
                          go_wp2_with fail
                          go_meet
                          exact ⟨by rw [HV.out], HB⟩
                      · have z0 : ((nm.size : Int) == 2) = false := beq_eq_false_iff_ne.2 (by omega)
                        have HV := Lib.hid (show bH = false by rw [← HbH.out, headB]; simp [hz])
                        clear hz
                        go_wp2_with fail
                        go_meet
                        exact ⟨by rw [HV.out], HB⟩
                  case rest =>
                    as_aux_lemma =>
                      obtain ⟨rfl, HC⟩ := hcut
                      obtain ⟨w3, rfl⟩ : ∃ W : World, W = wc := ⟨_, rfl⟩
                      clear x0 x1 x2 x3 x4 xl
                      clear HB
                      go_upto_if 114 with fail
                      have x0 := HC.out.tok.c 0
                      have x1 := HC.out.tok.c 1
                      have x2 := HC.out.tok.c 2
                      have x3 := HC.out.tok.c 3
                      have x4 := HC.out.tok.c 4
                      simp only [List.getElem?_toArray, List.getElem?_cons_zero, List.getElem?_cons_succ] at x0 x1 x2 x3 x4
                      have xl := HC.out.tok.lt
                      obtain ⟨D2, hD2⟩ : ∃ v, D1 ++ oHead la (⟨2, at0, nm, tx, atts⟩ : TokR) = v := ⟨_, rfl⟩
                      have HD2 := Lib.hid hD2; clear hD2
                      obtain ⟨la2, hla2⟩ : ∃ v, nextL la (⟨2, at0, nm, tx, atts⟩ : TokR) = v := ⟨_, rfl⟩
                      have Hla2 := Lib.hid hla2; clear hla2
                      go_cut [4] from 27 to 207 (fun s4 wx => s4 = .int .i64 la2 ∧ 0 ≤ la2 ∧ la2 ≤ 6 ∧ D2.length ≤ D1.length + 1 ∧ Hid (QT N N tb #[.int .i64 2, .int .i64 (at0 : Int), .string nm, .string tx, .slice Ax atts.length cx] D2 O A c ids Ai ci w0 wx))
                      case first =>
                        as_aux_lemma =>
                          cases bH with
                          | false =>
                            have e1 : la2 = la := by rw [← Hla2.out, nextL, if_neg (by rw [HbH.out]; simp)]
                            have e2 : D2 = D1 := by rw [← HD2.out, oHead, if_neg (by rw [HbH.out]; simp), List.append_nil]
                            subst e1 e2
                            go_wp2_with fail
                            go_meet
                            exact ⟨rfl, hla0, hla6, by omega, HC⟩
                          | true =>
                            obtain ⟨c8, hc1, hc2, hc3, hc0, hc4⟩ := head_form HbH.out
                            have g1 : 1 < nm.size := by omega
                            obtain ⟨n1, hn1⟩ : ∃ v, nAt nm 1 = v := ⟨_, rfl⟩
                            have e1 : ((nm[1]'g1).toNat : Int) = n1 := by rw [bAt_idx g1]; exact hn1
                            have hla : n1 - 48 = la2 := by rw [← Hla2.out, nextL, if_pos HbH.out, ← hn1]
                            have hv1 : 1 ≤ la2 := by omega
                            have hv6 : la2 ≤ 6 := by omega
                            have hwu : IntKind.u8.wrap (n1 - 48) = la2 := by rw [hla, IntKind.wrap_u8]; omega
                            have hwi : IntKind.i64.wrap la2 = la2 := wrap_small (by omega) (by omega)
                            have q1 : (1 : Int) < (nm.size : Int) := by omega
                            have hw1 : IntKind.i64.wrap (la + 1) = la + 1 := wrap_small (by omega) (by omega)
                            have HN1 := Lib.hid (show nAt nm 1 - 48 = la2 by rw [hn1]; exact hla)
                            clear hc0 hc1 hc2 hc3 hc4 hn1 hla
                            by_cases hgt : la + 1 < la2
                            · have e2 : D2 = D1 ++ [⟨at0, 2⟩] := by rw [← HD2.out, oHead, if_pos ⟨HbH.out, by have := HN1.out; simp only; omega⟩]
                              go_wp2_with (go_at_call 67; go_must (refine (addR_q N N D1 at0 _ 2 w0 _ HC.out.q.rn.js rfl (by omega)).mono ?_); rintro e wf ⟨rfl, hj, hg⟩; have Hwf := Lib.hid (HC.out.jp hj hg hne); clear hj hg; have v2 := Hwf.out.tok.c 2; simp only [List.getElem?_toArray, List.getElem?_cons_zero, List.getElem?_cons_succ] at v2; have vl := Hwf.out.tok.lt)
                              go_meet
                              exact ⟨rfl, by omega, hv6, by rw [e2]; simp, by rw [e2]; exact Hwf⟩
                            · have e2 : D2 = D1 := by rw [← HD2.out, oHead, if_neg (fun e => hgt (by have := e.2; have := HN1.out; simp only at *; omega)), List.append_nil]
                              go_wp2_with fail
                              go_meet
                              exact ⟨rfl, by omega, hv6, by rw [e2]; omega, by rw [e2]; exact HC⟩
                      case rest =>
                        as_aux_lemma =>
                          obtain ⟨rfl, hl0, hl6, hD2, HE⟩ := hcut
                          obtain ⟨w4, rfl⟩ : ∃ W : World, W = wc := ⟨_, rfl⟩
                          clear x0 x1 x2 x3 x4 xl
                          clear HC
                          obtain ⟨vv, hvv⟩ : ∃ v, attrS idN atts = v := ⟨_, rfl⟩
                          have Hvv := Lib.hid hvv; clear hvv
                          have x0 := HE.out.tok.c 0
                          have x1 := HE.out.tok.c 1
                          have x2 := HE.out.tok.c 2
                          have x3 := HE.out.tok.c 3
                          have x4 := HE.out.tok.c 4
                          simp only [List.getElem?_toArray, List.getElem?_cons_zero, List.getElem?_cons_succ] at x0 x1 x2 x3 x4
                          have xl := HE.out.tok.lt
                          go_upto_region 32 with (go_at_call 23; go_must (refine (idOf_q 2 at0 nm tx _ atts vv _ (HXA.out _ HE.out.bel) Hvv.out).mono ?_); rintro e wg ⟨rfl, hb⟩; have Hwg := Lib.hid (HE.out.below hb); clear hb)
                          clear x0 x1 x2 x3 x4 xl
                          have x0 := Hwg.out.tok.c 0
                          have x1 := Hwg.out.tok.c 1
                          have x2 := Hwg.out.tok.c 2
                          have x3 := Hwg.out.tok.c 3
                          have x4 := Hwg.out.tok.c 4
                          simp only [List.getElem?_toArray, List.getElem?_cons_zero, List.getElem?_cons_succ] at x0 x1 x2 x3 x4
                          have xl := Hwg.out.tok.lt
                          obtain ⟨D3, hD3⟩ : ∃ v, D2 ++ oId ids (⟨2, at0, nm, tx, atts⟩ : TokR) = v := ⟨_, rfl⟩
                          have HD3 := Lib.hid hD3; clear hD3
                          obtain ⟨ids3, hids3⟩ : ∃ v, nextI ids (⟨2, at0, nm, tx, atts⟩ : TokR) = v := ⟨_, rfl⟩
                          have Hids3 := Lib.hid hids3; clear hids3
                          obtain ⟨ne, hne1⟩ : ∃ b, decide (vv.data.toList ≠ []) = b := ⟨_, rfl⟩
                          have HNe := Lib.hid hne1; clear hne1
                          go_cut [136] from 27 to 207 (fun s136 wx => s136 = .bool ne ∧ Hid (QT N N tb #[.int .i64 2, .int .i64 (at0 : Int), .string nm, .string tx, .slice Ax atts.length cx] D2 O A c ids Ai ci w0 wx))
                          case first =>
                            as_aux_lemma =>
                              by_cases hv : vv.data.toList = []
                              · have r1 : (vv.toList == []) = true := by rw [Go.ByteArray.toList_eq]; exact beq_iff_eq.2 hv
                                have r2 : vv.toList.isEmpty = true := by rw [Go.ByteArray.toList_eq, hv]; rfl
                                have r3 : vv.toList = [] := by rw [Go.ByteArray.toList_eq]; exact hv
                                have HV := Lib.hid (show ne = false by rw [← HNe.out]; simp [hv])
                                clear hv
                                go_wp2_with fail
                                go_meet
                                exact ⟨by rw [HV.out], Hwg⟩
                              · have r1 : (vv.toList == []) = false := by rw [Go.ByteArray.toList_eq]; exact beq_eq_false_iff_ne.2 hv
                                have r2 : vv.toList.isEmpty = false := by rw [Go.ByteArray.toList_eq]; simpa using hv
                                have r3 : ¬ vv.toList = [] := by rw [Go.ByteArray.toList_eq]; exact hv
                                have HV := Lib.hid (show ne = true by rw [← HNe.out]; simp [hv])
                                clear hv
                                go_wp2_with fail
                                go_meet
                                exact ⟨by rw [HV.out], Hwg⟩
                          case rest =>
                            as_aux_lemma =>
                              obtain ⟨rfl, HE5⟩ := hcut
                              obtain ⟨w45, rfl⟩ : ∃ W : World, W = wc := ⟨_, rfl⟩
                              clear x0 x1 x2 x3 x4 xl
                              clear Hwg HE
                              have Hwg := HE5
                              clear HE5
                              go_upto_if 136 with fail
                              have x0 := Hwg.out.tok.c 0
                              have x1 := Hwg.out.tok.c 1
                              have x2 := Hwg.out.tok.c 2
                              have x3 := Hwg.out.tok.c 3
                              have x4 := Hwg.out.tok.c 4
                              simp only [List.getElem?_toArray, List.getElem?_cons_zero, List.getElem?_cons_succ] at x0 x1 x2 x3 x4
                              have xl := Hwg.out.tok.lt
                              go_cut [7] from 27 to 207 (fun s7 wx => ∃ Ai3 ci3, s7 = .slice Ai3 ids3.length ci3 ∧ ids3.length ≤ ids.length + 1 ∧ D3.length ≤ D2.length + 1 ∧ Hid (QT N N tb #[.int .i64 2, .int .i64 (at0 : Int), .string nm, .string tx, .slice Ax atts.length cx] D3 O A c ids3 Ai3 ci3 w0 wx))
                              case first =>
                                as_aux_lemma =>
                                  cases ne with
                                  | false =>
                                    have hv : vv.data.toList = [] := by simpa using HNe.out
                                    have e1 : D3 = D2 := by rw [← HD3.out, oId, if_neg (fun e => e.1 (by rw [idB, Hvv.out]; exact hv)), List.append_nil]
                                    have e2 : ids3 = ids := by rw [← Hids3.out, nextI, if_neg (fun e => e (by rw [idB, Hvv.out]; exact hv))]
                                    subst e1 e2
                                    clear hv
                                    go_wp2_with fail
                                    go_meet
                                    exact ⟨Ai, ci, rfl, by omega, by omega, Hwg⟩
                                  | true =>
                                    have hv : vv.data.toList ≠ [] := by simpa using HNe.out
                                    have hid : idB (⟨2, at0, nm, tx, atts⟩ : TokR) = vv.data.toList := by rw [idB, Hvv.out]
                                    have e2 : ids3 = ids ++ [vv.data.toList] := by rw [← Hids3.out, nextI, if_pos (by rw [hid]; exact hv), hid]
                                    have e3 : ids3.length = ids.length + 1 := by rw [e2]; simp
                                    obtain ⟨bi, hbi⟩ : ∃ b, ids.contains vv.data.toList = b := ⟨_, rfl⟩
                                    have HBi := Lib.hid hbi
                                    have HE2 := Lib.hid e2; have HE3 := Lib.hid e3
                                    cases bi with
                                    | true =>
                                      have e1 : D3 = D2 ++ [⟨at0, 3⟩] := by rw [← HD3.out, oId, if_pos ⟨by rw [hid]; exact hv, by rw [hid]; simpa using hbi⟩]
                                      clear hbi hv hid e2 e3
                                      go_wp2_with (first
                                        | (go_at_call 69; go_must (refine (contains_q ids _ vv true _ (OnesAt.of_own Hwg.out.q.id) HBi.out).mono ?_); rintro e wq ⟨rfl, hb⟩; have Hwq := Lib.hid (Hwg.out.below hb); clear hb; have v1 := Hwq.out.tok.c 1; simp only [List.getElem?_toArray, List.getElem?_cons_zero, List.getElem?_cons_succ] at v1; have vl := Hwq.out.tok.lt)
                                        | (go_at_call 67; go_must (refine (addR_q N N D2 at0 _ 3 w0 _ Hwq.out.q.rn.js rfl (by omega)).mono ?_); rintro e wh ⟨rfl, hj, hg⟩; have Hwh := Lib.hid (Hwq.out.jp hj hg hne); clear hj hg)
                                        | (at_builtin; go_must (refine wpList_push _ rfl (.tmp 144) (.tmp 146) 23 rfl N 9 _ 1 16 Tryz.underlying23 info_strL rfl (by omega) (.slice Ai ids.length ci) ids.length _ rfl (own_alloc Hwh.out.q.id _) [.string vv] rfl _ rfl (cell_new _ [.string vv] 9 _ rfl) (one_str vv) (by omega) (by unfold maxLen; omega) (by simp; have := Hwh.out.q.rn.js.size; omega) ?_); intro g6 k6 w6 own6 hg6 hgg6 hb6; have Hwi := Lib.hid ((Hwh.out.below ((Below.refl _ _).alloc (Nat.le_refl _) (.cells #[.string vv] 9))).pushI (v := vv.data.toList) hg6 (by rw [strCells_append]; exact own6)); clear own6 hg6 hgg6 hb6))
                                      go_meet
                                      exact ⟨_, _, by rw [HE3.out], by rw [HE3.out]; omega, by rw [e1]; simp, by rw [e1, HE2.out]; exact Hwi⟩
                                    | false =>
                                      have e1 : D3 = D2 := by rw [← HD3.out, oId, if_neg (fun e => by have := e.2; rw [hid] at this; rw [List.contains_eq_mem] at hbi; simp [this] at hbi), List.append_nil]
                                      clear hbi hv hid e2 e3
                                      go_wp2_with (first
                                        | (go_at_call 69; go_must (refine (contains_q ids _ vv false _ (OnesAt.of_own Hwg.out.q.id) HBi.out).mono ?_); rintro e wq ⟨rfl, hb⟩; have Hwq := Lib.hid (Hwg.out.below hb); clear hb; have v1 := Hwq.out.tok.c 1; simp only [List.getElem?_toArray, List.getElem?_cons_zero, List.getElem?_cons_succ] at v1; have vl := Hwq.out.tok.lt)
                                        | (at_builtin; go_must (refine wpList_push _ rfl (.tmp 144) (.tmp 146) 23 rfl N 9 _ 1 16 Tryz.underlying23 info_strL rfl (by omega) (.slice Ai ids.length ci) ids.length _ rfl (own_alloc Hwq.out.q.id _) [.string vv] rfl _ rfl (cell_new _ [.string vv] 9 _ rfl) (one_str vv) (by omega) (by unfold maxLen; omega) (by simp; have := Hwq.out.q.rn.js.size; omega) ?_); intro g6 k6 w6 own6 hg6 hgg6 hb6; have Hwi := Lib.hid ((Hwq.out.below ((Below.refl _ _).alloc (Nat.le_refl _) (.cells #[.string vv] 9))).pushI (v := vv.data.toList) hg6 (by rw [strCells_append]; exact own6)); clear own6 hg6 hgg6 hb6))
                                      go_meet
                                      exact ⟨_, _, by rw [HE3.out], by rw [HE3.out]; omega, by rw [e1]; omega, by rw [e1, HE2.out]; exact Hwi⟩
                              case rest =>
                                as_aux_lemma =>
                                  obtain ⟨Ai3, ci3, rfl, hids3, hD3, HF⟩ := hcut
                                  obtain ⟨w5, rfl⟩ : ∃ W : World, W = wc := ⟨_, rfl⟩
                                  clear x0 x1 x2 x3 x4 xl
                                  clear Hwg
                                  go_upto_region 36 with fail
                                  have x0 := HF.out.tok.c 0
                                  have x1 := HF.out.tok.c 1
                                  have x2 := HF.out.tok.c 2
                                  have x3 := HF.out.tok.c 3
                                  have x4 := HF.out.tok.c 4
                                  simp only [List.getElem?_toArray, List.getElem?_cons_zero, List.getElem?_cons_succ] at x0 x1 x2 x3 x4
                                  have xl := HF.out.tok.lt
                                  obtain ⟨bT, hbT⟩ : ∃ v, (decide (nm = titleN) && !se) = v := ⟨_, rfl⟩
                                  have HbT := Lib.hid hbT; clear hbT
                                  go_cut [154] from 27 to 207 (fun s154 wx => s154 = .bool bT ∧ Hid (QT N N tb #[.int .i64 2, .int .i64 (at0 : Int), .string nm, .string tx, .slice Ax atts.length cx] D3 O A c ids3 Ai3 ci3 w0 wx))
                                  case first =>
                                    as_aux_lemma =>
                                      by_cases hn : nm = titleN
                                      · have z : (nm.toList == [116, 105, 116, 108, 101]) = true := nm_eq' hn
                                        have HV := Lib.hid (show bT = !se by rw [← HbT.out]; simp [hn])
                                        clear hn
                                        cases se with
                                        | false =>
                                          go_wp2_with fail
                                          go_meet
                                          exact ⟨by rw [HV.out]; rfl, HF⟩
                                        | true =>
                                          go_wp2_with fail
                                          go_meet
                                          exact ⟨by rw [HV.out]; rfl, HF⟩
                                      · have z : (nm.toList == [116, 105, 116, 108, 101]) = false := nm_ne' hn
                                        have HV := Lib.hid (show bT = false by rw [← HbT.out]; simp [hn])
                                        clear hn
                                        go_wp2_with fail
                                        go_meet
                                        exact ⟨by rw [HV.out], HF⟩
                                  case rest =>
                                    as_aux_lemma =>
                                      obtain ⟨rfl, HG⟩ := hcut
                                      obtain ⟨w6, rfl⟩ : ∃ W : World, W = wc := ⟨_, rfl⟩
                                      clear x0 x1 x2 x3 x4 xl
                                      clear HF
                                      go_upto_if 154 with fail
                                      have x0 := HG.out.tok.c 0
                                      have x1 := HG.out.tok.c 1
                                      have x2 := HG.out.tok.c 2
                                      have x3 := HG.out.tok.c 3
                                      have x4 := HG.out.tok.c 4
                                      simp only [List.getElem?_toArray, List.getElem?_cons_zero, List.getElem?_cons_succ] at x0 x1 x2 x3 x4
                                      have xl := HG.out.tok.lt
                                      obtain ⟨se2, hse2⟩ : ∃ v, nextT se (⟨2, at0, nm, tx, atts⟩ : TokR) = v := ⟨_, rfl⟩
                                      have Hse2 := Lib.hid hse2; clear hse2
                                      obtain ⟨go2, hgo2⟩ : ∃ v, (if nm = titleN ∧ se = false then goodT (T.map (·.1)) k else go) = v := ⟨_, rfl⟩
                                      have Hgo2 := Lib.hid hgo2; clear hgo2
                                      go_cut [5, 6] from 27 to 207 (fun s5 s6 wx => s5 = .bool go2 ∧ s6 = .bool se2 ∧ Hid (QT N N tb #[.int .i64 2, .int .i64 (at0 : Int), .string nm, .string tx, .slice Ax atts.length cx] D3 O A c ids3 Ai3 ci3 w0 wx))
                                      case first =>
                                        as_aux_lemma =>
                                          cases bT with
                                          | false =>
                                            have h8 := HbT.out
                                            have e1 : go2 = go := by rw [← Hgo2.out, if_neg (fun e => by rw [e.1, e.2] at h8; simp at h8)]
                                            have e2 : se2 = se := by
                                              rw [← Hse2.out, nextT]
                                              cases se with
                                              | true => rfl
                                              | false => simpa using h8
                                            subst e1 e2
                                            clear h8
                                            go_wp2_with fail
                                            go_meet
                                            exact ⟨rfl, rfl, HG⟩
                                          | true =>
                                            have h8 := HbT.out
                                            simp only [Bool.and_eq_true, decide_eq_true_eq, Bool.not_eq_true'] at h8
                                            obtain ⟨hnm, hti⟩ := h8
                                            have e2 : se2 = true := by rw [← Hse2.out, nextT]; simp [hnm]
                                            have e3 : goodT (T.map (·.1)) k = go2 := by rw [← Hgo2.out, if_pos ⟨hnm, hti⟩]
                                            subst e2
                                            clear hnm hti
                                            have hw1 : IntKind.i64.wrap ((k : Int) + 1) = (k : Int) + 1 := wrap_small (by omega) (by omega)
                                            by_cases hend : k + 1 < T.length
                                            · have q1 : (k : Int) + 1 < (T.length : Int) := by omega
                                              have q0 : (0 : Int) ≤ (k : Int) + 1 := by omega
                                              obtain ⟨y, hy⟩ : ∃ y, T[k + 1]? = some y := ⟨_, List.getElem?_eq_getElem (by omega)⟩
                                              have hytx := HX.out y (List.mem_of_getElem? hy)
                                              obtain ⟨_, hyc⟩ := (HT.out w6 HG.out.bel).cells (fun _ => rfl) hy
                                              have hyg : goodT (T.map (·.1)) k = (decide (y.1.kind = 1) && !blankB y.1.text) := by rw [goodT, map_at hy]
                                              clear hy
                                              obtain ⟨⟨ykd, yat, ynm, ytx, yatts⟩, yav⟩ := y
                                              have y0 := hyc 0 _ rfl
                                              have y3 := hyc 3 _ rfl
                                              simp only [Nat.add_zero] at y0
                                              simp only at hytx hyg
                                              clear hyc
                                              by_cases hyk : ykd = 1
                                              · subst hyk
                                                obtain ⟨bl2, hbl2⟩ : ∃ b, blankB ytx = b := ⟨_, rfl⟩
                                                have HBl := Lib.hid hbl2
                                                have HV := Lib.hid (show go2 = !bl2 by rw [← e3, hyg, hbl2]; simp)
                                                clear hyg hbl2 e3
                                                cases bl2 with
                                                | true =>
                                                  go_wp2_with (go_at_call 70; go_must (refine (blankR_q ytx true _ (by omega) HBl.out).mono ?_); rintro e wk ⟨rfl, hb⟩; have Hwk := Lib.hid (HG.out.below hb); clear hb)
                                                  go_meet
                                                  exact ⟨by rw [HV.out]; rfl, rfl, Hwk⟩
                                                | false =>
                                                  go_wp2_with (go_at_call 70; go_must (refine (blankR_q ytx false _ (by omega) HBl.out).mono ?_); rintro e wk ⟨rfl, hb⟩; have Hwk := Lib.hid (HG.out.below hb); clear hb)
                                                  go_meet
                                                  exact ⟨by rw [HV.out]; rfl, rfl, Hwk⟩
                                              · have z1 : (ykd == 1) = false := beq_eq_false_iff_ne.2 hyk
                                                have HV := Lib.hid (show go2 = false by rw [← e3, hyg]; simp [hyk])
                                                clear hyg hyk e3
                                                go_wp2_with fail
                                                go_meet
                                                exact ⟨by rw [HV.out], rfl, HG⟩
                                            · have q1 : ¬ (k : Int) + 1 < (T.length : Int) := by omega
                                              have HV := Lib.hid (show go2 = false by rw [← e3, goodT, List.getElem?_eq_none (by simp; omega)])
                                              clear e3
                                              go_wp2_with fail
                                              go_meet
                                              exact ⟨by rw [HV.out], rfl, HG⟩
                                      case rest =>
                                        as_aux_lemma =>
                                          obtain ⟨rfl, rfl, HH⟩ := hcut
                                          obtain ⟨w7, rfl⟩ : ∃ W : World, W = wc := ⟨_, rfl⟩
                                          clear x0 x1 x2 x3 x4 xl
                                          clear HG
                                          obtain ⟨vh, hvh⟩ : ∃ v, attrS hrefN atts = v := ⟨_, rfl⟩
                                          have Hvh := Lib.hid hvh; clear hvh
                                          obtain ⟨bh, hbh⟩ : ∃ v, (attrV hrefN atts).isSome = v := ⟨_, rfl⟩
                                          have Hbh := Lib.hid hbh; clear hbh
                                          have x0 := HH.out.tok.c 0
                                          have x1 := HH.out.tok.c 1
                                          have x2 := HH.out.tok.c 2
                                          have x3 := HH.out.tok.c 3
                                          have x4 := HH.out.tok.c 4
                                          simp only [List.getElem?_toArray, List.getElem?_cons_zero, List.getElem?_cons_succ] at x0 x1 x2 x3 x4
                                          have xl := HH.out.tok.lt
                                          go_upto_region 40 with (go_at_call 68; go_must (refine (attrOf_q 2 at0 nm tx _ atts hrefN vh bh _ (HXA.out _ HH.out.bel) Hvh.out Hbh.out).mono ?_); rintro e wm ⟨rfl, hb⟩; have Hwm := Lib.hid (HH.out.below hb); clear hb)
                                          clear x0 x1 x2 x3 x4 xl
                                          have x0 := Hwm.out.tok.c 0
                                          have x1 := Hwm.out.tok.c 1
                                          have x2 := Hwm.out.tok.c 2
                                          have x3 := Hwm.out.tok.c 3
                                          have x4 := Hwm.out.tok.c 4
                                          simp only [List.getElem?_toArray, List.getElem?_cons_zero, List.getElem?_cons_succ] at x0 x1 x2 x3 x4
                                          have xl := Hwm.out.tok.lt
                                          obtain ⟨em, hem⟩ : ∃ v, emptyL ((T.map (·.1)).drop (k + 1)) = v := ⟨_, rfl⟩
                                          have Hem := Lib.hid hem; clear hem
                                          obtain ⟨bE, hbE⟩ : ∃ v, (decide (nm = aN) && bh && em) = v := ⟨_, rfl⟩
                                          have HbE := Lib.hid hbE; clear hbE
                                          go_cut [194] from 27 to 207 (fun s194 wx => s194 = .bool bE ∧ Hid (QT N N tb #[.int .i64 2, .int .i64 (at0 : Int), .string nm, .string tx, .slice Ax atts.length cx] D3 O A c ids3 Ai3 ci3 w0 wx))
                                          case first =>
                                            as_aux_lemma =>
                                              by_cases hn : nm = aN
                                              · have z : (nm.toList == [97]) = true := nm_eq' hn
                                                have HV := Lib.hid (show bE = (bh && em) by rw [← HbE.out]; simp [hn])
                                                clear hn
                                                cases bh with
                                                | false =>
                                                  go_wp2_with fail
                                                  go_meet
                                                  exact ⟨by rw [HV.out]; rfl, Hwm⟩
                                                | true =>
                                                  go_wp2_with (go_at_call 71; go_must (refine (emptyLinkR_q T _ ct bt k em _ (HT.out _ Hwm.out.bel) rfl hlt hlc hct HX.out Hem.out).mono ?_); rintro e wn ⟨rfl, hb⟩; have Hwn := Lib.hid (Hwm.out.below hb); clear hb)
                                                  go_meet
                                                  exact ⟨by rw [HV.out]; rfl, Hwn⟩
                                              · have z : (nm.toList == [97]) = false := nm_ne' hn
                                                have HV := Lib.hid (show bE = false by rw [← HbE.out]; simp [hn])
                                                clear hn
                                                go_wp2_with fail
                                                go_meet
                                                exact ⟨by rw [HV.out], Hwm⟩
                                          case rest =>
                                            as_aux_lemma =>
                                              obtain ⟨rfl, HK⟩ := hcut
                                              obtain ⟨w8, rfl⟩ : ∃ W : World, W = wc := ⟨_, rfl⟩
                                              clear x0 x1 x2 x3 x4 xl
                                              clear Hwm
                                              go_upto_if 194 with fail
                                              have x0 := HK.out.tok.c 0
                                              have x1 := HK.out.tok.c 1
                                              have x2 := HK.out.tok.c 2
                                              have x3 := HK.out.tok.c 3
                                              have x4 := HK.out.tok.c 4
                                              simp only [List.getElem?_toArray, List.getElem?_cons_zero, List.getElem?_cons_succ] at x0 x1 x2 x3 x4
                                              have xl := HK.out.tok.lt
                                              obtain ⟨D4, hD4⟩ : ∃ v, D3 ++ oLink (T.map (·.1)) k (⟨2, at0, nm, tx, atts⟩ : TokR) = v := ⟨_, rfl⟩
                                              have HD4 := Lib.hid hD4; clear hD4
                                              have HO4 := Lib.hid (show D4 = D3 ++ bif bE then [⟨at0, 7⟩] else [] by rw [← HD4.out]; exact congrArg (D3 ++ ·) (oLink_b (t := (⟨2, at0, nm, tx, atts⟩ : TokR)) (by have h9 := HbE.out; rw [← Hbh.out, ← Hem.out] at h9; exact h9)))
                                              have hD4 : D4.length ≤ D3.length + 1 := by rw [HO4.out]; cases bE <;> simp
                                              go_cut [] from 27 to 207 (fun wx => Hid (QT N N tb #[.int .i64 2, .int .i64 (at0 : Int), .string nm, .string tx, .slice Ax atts.length cx] D4 O A c ids3 Ai3 ci3 w0 wx))
                                              case first =>
                                                as_aux_lemma =>
                                                  cases bE with
                                                  | true =>
                                                    go_wp2_with (go_at_call 67; go_must (refine (addR_q N N D3 at0 _ 7 w0 _ HK.out.q.rn.js rfl (by omega)).mono ?_); rintro e wp ⟨rfl, hj, hg⟩; have Hwp := Lib.hid (HK.out.jp hj hg hne); clear hj hg)
                                                    go_meet
                                                    rw [HO4.out]; exact Hwp
                                                  | false =>
                                                    go_wp2_with fail
                                                    go_meet
                                                    rw [HO4.out, cond_false, List.append_nil]; exact HK
                                              case rest =>
                                                as_aux_lemma =>
                                                  obtain ⟨w9, rfl⟩ : ∃ W : World, W = wc := ⟨_, rfl⟩
                                                  have HL9 := hcut
                                                  clear hcut HK
                                                  clear x0 x1 x2 x3 x4 xl
                                                  have x0 := HL9.out.tok.c 0
                                                  have x1 := HL9.out.tok.c 1
                                                  have x2 := HL9.out.tok.c 2
                                                  have x3 := HL9.out.tok.c 3
                                                  have x4 := HL9.out.tok.c 4
                                                  simp only [List.getElem?_toArray, List.getElem?_cons_zero, List.getElem?_cons_succ] at x0 x1 x2 x3 x4
                                                  have xl := HL9.out.tok.lt
                                                  obtain ⟨vb, hvb⟩ : ∃ b, voidB nm = b := ⟨_, rfl⟩
                                                  have HVb := Lib.hid hvb
                                                  have HM9 := Lib.hid ((HM.out.keep HL9.out.bel).at_)
                                                  cases vb with
                                                  | true =>
                                                    have HS2 := Lib.hid (ref_open HS.out HMx.out HD1.out HD2.out HD3.out HD4.out Hla2.out Hids3.out Hse2.out Hgo2.out (if_neg (by rw [hvb]; simp)))
                                                    clear hvb
                                                    go_wp2_with (go_at_call 72; go_must (refine (voidR_q nm true _ HM9.out HVb.out).mono ?_); rintro e wz ⟨rfl, hb⟩; have Hwz := Lib.hid (HL9.out.below hb); clear hb)
                                                    go_roundw
                                                    case rel => exact ⟨k + 1, la2, go2, se2, ids3, O, D4, A, Ai3, c, ci3, _, _, rfl, rfl, rfl, rfl, rfl, by go_num, rfl, rfl, by omega, hl0, hl6, by omega, HAtt, HS2, Hwz.out.q⟩
                                                    case measure => simp [intOf]; omega
                                                  | false =>
                                                    have HS2 := Lib.hid (ref_open HS.out HMx.out HD1.out HD2.out HD3.out HD4.out Hla2.out Hids3.out Hse2.out Hgo2.out (if_pos hvb))
                                                    clear hvb
                                                    go_wp2_with (first
                                                      | (go_at_call 72; go_must (refine (voidR_q nm false _ HM9.out HVb.out).mono ?_); rintro e wz ⟨rfl, hb⟩; have Hwz := Lib.hid (HL9.out.below hb); clear hb; have v0 := Hwz.out.tok.c 0; have v1 := Hwz.out.tok.c 1; have v2 := Hwz.out.tok.c 2; have v3 := Hwz.out.tok.c 3; have v4 := Hwz.out.tok.c 4; simp only [List.getElem?_toArray, List.getElem?_cons_zero, List.getElem?_cons_succ] at v0 v1 v2 v3 v4; have vl := Hwz.out.tok.lt)
                                                      | (at_builtin; go_must (refine wpList_push _ rfl (.tmp 203) (.tmp 205) 50 rfl N 56 _ 5 72 Tryz.underlying50 info_tok rfl (by omega) (.slice A O.length c) O.length _ rfl (own_alloc Hwz.out.q.rn.op _) (tokRow (⟨2, at0, nm, tx, atts⟩, .slice Ax atts.length cx)) rfl _ rfl (cell_new _ (tokRow (⟨2, at0, nm, tx, atts⟩, .slice Ax atts.length cx)) 56 _ rfl) (by intro u hu; simp only [tokRow, List.mem_cons, List.not_mem_nil, or_false] at hu; rcases hu with rfl | rfl | rfl | rfl | rfl <;> rfl) (by omega) (by unfold maxLen; omega) (by simp; have := Hwz.out.q.rn.js.size; omega) ?_); intro g6 k6 w6 own6 hg6 hgg6 hb6; have HN6 := Lib.hid ((Hwz.out.q.alloc _).pushO hg6 own6); clear own6 hg6 hgg6 hb6))
                                                    go_roundw
                                                    case rel => exact ⟨k + 1, la2, go2, se2, ids3, O ++ [((⟨2, at0, nm, tx, atts⟩, .slice Ax atts.length cx) : TokR × Value)], D4, _, Ai3, _, ci3, _, _, rfl, rfl, rfl, rfl, rfl, by go_num, rfl, by simp, by omega, hl0, hl6, by omega, Lib.hid (fun z hz => by rcases List.mem_append.1 hz with h | h; exact HAtt.out z h; simp only [List.mem_singleton] at h; subst h; exact ⟨_, _, _, rfl⟩), Lib.hid (by rw [List.map_append]; exact HS2.out), HN6⟩
                                                    case measure => simp [intOf]; omega
      by_cases k3 : kd = 3
      · subst k3
        clear k2
        as_aux_lemma =>
          obtain ⟨tb, htb⟩ : ∃ tb, wo.heap.size = tb := ⟨_, rfl⟩
          go_upto_region 11 with fail
          obtain ⟨wa, hwa⟩ : ∃ W, wo.alloc (.cells #[.int .i64 3, .int .i64 (at0 : Int), .string nm, .string tx, .slice Ax atts.length cx] 56) = W := ⟨_, rfl⟩
          have Hwa := Lib.hid (show QT N N tb #[.int .i64 3, .int .i64 (at0 : Int), .string nm, .string tx, .slice Ax atts.length cx] E O A c ids Ai ci w0 wa by rw [← hwa, ← htb]; exact ⟨HQ.out.alloc _, CB.new _ _ _⟩)
          have hne : tb ≠ N := by rw [← htb]; exact hne0
          rw [hwa]
          try rw [htb]
          clear hwa htb p0 p1 p2 p3 p4 HQ hne0
          have x0 := Hwa.out.tok.c 0
          have x1 := Hwa.out.tok.c 1
          have x2 := Hwa.out.tok.c 2
          have x3 := Hwa.out.tok.c 3
          have x4 := Hwa.out.tok.c 4
          simp only [List.getElem?_toArray, List.getElem?_cons_zero, List.getElem?_cons_succ] at x0 x1 x2 x3 x4
          have xl := Hwa.out.tok.lt
          go_wp2_with fail
          go_loopw [11] (fun t11 wr => ∃ (m : Nat) (kk : Int), t11 = .int .i64 kk ∧ Hid (kk = (m : Int) - 1) ∧ m ≤ O.length ∧ (∃ d : Nat, wr = wa.drewN d) ∧ Hid (findO (O.map (·.1)) nm O.length = findO (O.map (·.1)) nm m)) (fun t11 _ => (intOf t11 + 1).toNat)
          case atStart => exact ⟨O.length, _, rfl, Lib.hid (by first | rfl | omega), Nat.le_refl _, ⟨0, rfl⟩, rfl⟩
          case round =>
            obtain ⟨m, kk, rfl, HKk, hm, ⟨d, rfl⟩, HFd⟩ := hrel
            cases m with
            | zero =>
              obtain rfl : kk = -1 := by have := HKk.out; omega
              have HS2 := Lib.hid (ref_none HS.out HMx.out rfl (by rw [List.length_map, HFd.out]; rfl))
              go_wp2_with fail
              go_quiet (fail)
              obtain ⟨wb, hwb⟩ : ∃ W, (wa.drewN d).drewN nq = W := ⟨_, rfl⟩
              have HNb := Lib.hid (show QT N N tb #[.int .i64 3, .int .i64 (at0 : Int), .string nm, .string tx, .slice Ax atts.length cx] E O A c ids Ai ci w0 wb by rw [← hwb]; exact (Hwa.out.drewN d).drewN nq)
              have y0 := HNb.out.tok.c 0
              have y1 := HNb.out.tok.c 1
              simp only [List.getElem?_toArray, List.getElem?_cons_zero, List.getElem?_cons_succ] at y0 y1
              have yl := HNb.out.tok.lt
              rw [hwb]
              clear hwb x0 x1 x2 x3 x4 xl
              go_wp2_with (go_at_call 67; go_must (refine (addR_q N N E at0 _ 5 w0 _ HNb.out.q.rn.js rfl (by omega)).mono ?_); rintro e w5 ⟨rfl, hj, hg⟩; have Hw5 := Lib.hid (HNb.out.jp hj hg hne); clear hj hg)
              go_roundw
              case rel => exact ⟨k + 1, la, go, se, ids, O, E ++ [(⟨at0, 5⟩ : FaultR)], A, Ai, c, ci, _, _, rfl, rfl, rfl, rfl, rfl, by go_num, rfl, rfl, by omega, hla0, hla6, by omega, HAtt, HS2, Hw5.out.q⟩
              case measure => simp [intOf]; omega
            | succ m =>
              obtain rfl : kk = (m : Int) := by have := HKk.out; omega
              clear HKk
              obtain ⟨b, rfl, hNb, hbl, hOc2⟩ := own_some Hwa.out.q.rn.op (by omega)
              obtain ⟨y, hy⟩ : ∃ y, O[m]? = some y := ⟨_, List.getElem?_eq_getElem (by omega)⟩
              have HMy := Lib.hid (map_at hy)
              have yy2 := own_toks Hwa.out.q.rn.op hy 2 _ rfl
              clear hy
              obtain ⟨⟨yk, ya, yn, yt, yatts⟩, yv⟩ := y
              simp only at yy2 HMy
              have g1 : (m : Int) < (O.length : Int) := by omega
              have g2 : decide ((0 : Int) ≤ (m : Int)) = true := by simp
              by_cases hn : yn = nm
              · have HF2 := Lib.hid (HFd.out.trans (find_hit HMy.out hn))
                have HS2 := Lib.hid (ref_some HS.out HMx.out rfl (by rw [List.length_map]; exact HF2.out))
                have z1 : (yn.toList == nm.toList) = true := by rw [hn]; simp
                have z2 : (yn.toList != nm.toList) = false := by rw [bne, z1]; rfl
                clear hn
                go_wp2_with fail
                go_quiet (fail)
                obtain ⟨wb, hwb⟩ : ∃ W, (wa.drewN d).drewN nq = W := ⟨_, rfl⟩
                have HNb := Lib.hid (show QT N N tb #[.int .i64 3, .int .i64 (at0 : Int), .string nm, .string tx, .slice Ax atts.length cx] E O (some ⟨b, 0, none⟩) c ids Ai ci w0 wb by rw [← hwb]; exact (Hwa.out.drewN d).drewN nq)
                have y0 := HNb.out.tok.c 0
                have y1 := HNb.out.tok.c 1
                simp only [List.getElem?_toArray, List.getElem?_cons_zero, List.getElem?_cons_succ] at y0 y1
                have yl := HNb.out.tok.lt
                rw [hwb]
                clear hwb x0 x1 x2 x3 x4 xl
                go_wp2_with fail
                all_goals
                  obtain ⟨cq, hcq⟩ : ∃ x, x = c := ⟨_, rfl⟩
                  first | subst h | skip
                  rw [← hcq] at HNb
                  have HCq := Lib.hid hcq
                  clear y0 y1 yl hcq
                  go_loopw [62] (fun t62 wy => ∃ i : Nat, t62 = .int .i64 i ∧ i ≤ O.length - (m + 1) ∧ Hid (QT N N tb #[.int .i64 3, .int .i64 (at0 : Int), .string nm, .string tx, .slice Ax atts.length cx] (E ++ unclosed (((O.map (·.1)).drop (m + 1)).take i)) O (some ⟨b, 0, none⟩) cq ids Ai ci w0 wy)) (fun t62 _ => (O.length - (m + 1)) - (intOf t62).toNat)
                  case atStart => exact ⟨0, rfl, Nat.zero_le _, Lib.hid (by rw [List.take_zero]; show QT _ _ _ _ (E ++ []) _ _ _ _ _ _ _ _; rw [List.append_nil]; exact HNb.out)⟩
                  case round =>
                    clear HNb
                    obtain ⟨i, rfl, hi, HNy⟩ := hrel
                    obtain ⟨wy, rfl⟩ : ∃ W : World, W = wr := ⟨_, rfl⟩
                    by_cases hil : i < O.length - (m + 1)
                    · first
                        | (exfalso; omega)
                        | (obtain ⟨z, hz⟩ : ∃ z, O[m + 1 + i]? = some z := ⟨_, List.getElem?_eq_getElem (by omega)⟩
                           have HMz := Lib.hid (map_at hz)
                           have hzc := own_toks HNy.out.q.rn.op hz
                           have hza := HAtt.out z (List.mem_of_getElem? hz)
                           clear hz
                           obtain ⟨⟨zk, za, zn, zt, zatts⟩, zv⟩ := z
                           obtain ⟨Az, nz, cz, hzv⟩ := hza
                           simp only at hzv
                           subst hzv
                           have u0 := hzc 0 _ rfl
                           have u1 := hzc 1 _ rfl
                           have u2 := hzc 2 _ rfl
                           have u3 := hzc 3 _ rfl
                           have u4 := hzc 4 _ rfl
                           simp only [Nat.add_zero] at u0 HMz
                           rw [show (m + 1 + i) * 5 = (m + 1) * 5 + i * 5 by omega] at u0 u1 u2 u3 u4
                           clear hzc
                           have HU := Lib.hid (unclosed_take (l := (O.map (·.1)).drop (m + 1)) (i := i) (by rw [List.getElem?_drop]; exact HMz.out))
                           have hlE : (E ++ unclosed (((O.map (·.1)).drop (m + 1)).take i)).length ≤ 1048576 := by simp only [List.length_append, unclosed_len, List.length_take]; omega
                           have HNz := Lib.hid (HNy.out.below ((Below.refl _ _).alloc (Nat.le_refl _) (.cells #[.int .i64 zk, .int .i64 (za : Int), .string zn, .string zt, .slice Az nz cz] 56)))
                           go_wp2_with (go_at_call 67; go_must (refine (addR_q N N (E ++ unclosed (((O.map (·.1)).drop (m + 1)).take i)) za _ 4 w0 _ HNz.out.q.rn.js rfl hlE).mono ?_); rintro e w5 ⟨rfl, hj, hg⟩; have Hw5 := Lib.hid (HNz.out.jp hj hg hne); clear hj hg)
                           go_roundw
                           case rel => exact ⟨i + 1, by go_num, by omega, Lib.hid (by rw [HU.out, ← List.append_assoc]; exact Hw5.out)⟩
                           case measure => simp [intOf]; omega)
                    · have HT9 := Lib.hid (show ((O.map (·.1)).drop (m + 1)).take i = (O.map (·.1)).drop (m + 1) by rw [List.take_of_length_le]; simp; omega)
                      rw [HT9.out] at HNy
                      have HNc := Lib.hid (HNy.out.q.cut (j := m) (by omega))
                      have y0 := HNy.out.tok.c 0
                      simp only [List.getElem?_toArray, List.getElem?_cons_zero] at y0
                      have yl := HNy.out.tok.lt
                      try (have q1 : (m : Int) ≤ (c : Int) := by omega)
                      rw [HCq.out] at HNc
                      have q2 : (0 : Int) ≤ (m : Int) := by omega
                      go_wp2_with fail
                      go_roundw
                      case rel => exact ⟨k + 1, la, go, se, ids, O.take m, E ++ unclosed ((O.map (·.1)).drop (m + 1)), some ⟨b, 0, none⟩, Ai, _, ci, m, _, rfl, rfl, rfl, rfl, rfl, by go_num, rfl, by rw [List.length_take]; omega, by omega, hla0, hla6, by omega, Lib.hid (fun z hz => HAtt.out z (List.mem_of_mem_take hz)), Lib.hid (by rw [List.map_take]; exact HS2.out), HNc⟩
                      case measure => simp [intOf]; omega
              · have HF2 := Lib.hid (HFd.out.trans (find_miss HMy.out hn))
                have z1 : (yn.toList == nm.toList) = false := nm_ne hn
                have z2 : (yn.toList != nm.toList) = true := by rw [bne, z1]; rfl
                clear hn
                go_wp2_with fail
                go_quiet (fail)
                go_wp2_with fail
                go_roundw
                case rel => exact ⟨m, (m : Int) - 1, rfl, rfl, by omega, ⟨d + nq, rfl⟩, HF2⟩
                case measure => (simp [intOf]; try omega)
      have HS2 := Lib.hid (ref_next HS.out HMx.out k2 k3)
      have z2 : (kd == 2) = false := beq_eq_false_iff_ne.2 k2
      have z2' : (kd != 2) = true := by rw [bne, z2]; rfl
      have z3 : (kd == 3) = false := beq_eq_false_iff_ne.2 k3
      clear k2 k3
      go_wp2_with fail
      go_roundw
      case rel => exact ⟨k + 1, la, go, se, ids, O, E, A, Ai, c, ci, _, _, rfl, rfl, rfl, rfl, rfl, by go_num, rfl, rfl, by omega, hla0, hla6, by omega, HAtt, HS2, HQ.out.alloc _⟩
      case measure => simp [intOf]; omega
    · have hkl : k = T.length := by omega
      have HF := Lib.hid (show refTo (T.map (·.1)) T.length = ⟨la, go, se, ids, O.map (·.1), E⟩ by rw [← hkl]; exact HS.out)
      clear hkl
      as_aux_lemma =>
        go_wp2_with fail
        go_loopw [210] (fun t210 wy => ∃ i : Nat, t210 = .int .i64 i ∧ i ≤ O.length ∧ Hid (QS N N (E ++ unclosed ((O.map (·.1)).take i)) O A c ids Ai ci w0 wy)) (fun t210 _ => O.length - (intOf t210).toNat)
        case atStart => exact ⟨0, rfl, Nat.zero_le _, Lib.hid (by rw [List.take_zero]; show QS _ _ (E ++ []) _ _ _ _ _ _ _ _; rw [List.append_nil]; exact HQ.out)⟩
        case round =>
          clear HQ
          obtain ⟨i, rfl, hi, HNy⟩ := hrel
          obtain ⟨wy, rfl⟩ : ∃ W : World, W = wr := ⟨_, rfl⟩
          by_cases hil : i < O.length
          · obtain ⟨b, rfl, hNb, hbl, hOc2⟩ := own_some HNy.out.rn.op (by omega)
            obtain ⟨z, hz⟩ : ∃ z, O[i]? = some z := ⟨_, List.getElem?_eq_getElem (by omega)⟩
            have HMz := Lib.hid (map_at hz)
            have hzc := own_toks HNy.out.rn.op hz
            have hza := HAtt.out z (List.mem_of_getElem? hz)
            clear hz
            obtain ⟨⟨zk, za, zn, zt, zatts⟩, zv⟩ := z
            obtain ⟨Az, nz, cz, hzv⟩ := hza
            simp only at hzv
            subst hzv
            have u0 := hzc 0 _ rfl
            have u1 := hzc 1 _ rfl
            have u2 := hzc 2 _ rfl
            have u3 := hzc 3 _ rfl
            have u4 := hzc 4 _ rfl
            simp only [Nat.add_zero] at u0 HMz
            clear hzc
            have HU := Lib.hid (unclosed_take (l := O.map (·.1)) (i := i) HMz.out)
            have hlE : (E ++ unclosed ((O.map (·.1)).take i)).length ≤ 1048576 := by simp only [List.length_append, unclosed_len, List.length_take]; omega
            have HNz := Lib.hid (HNy.out.alloc (.cells #[.int .i64 zk, .int .i64 (za : Int), .string zn, .string zt, .slice Az nz cz] 56))
            go_wp2_with (go_at_call 67; go_must (refine (addR_q N N (E ++ unclosed ((O.map (·.1)).take i)) za _ 4 w0 _ HNz.out.rn.js rfl hlE).mono ?_); rintro e w5 ⟨rfl, hj, hg⟩; have Hw5 := Lib.hid (HNz.out.jp hj hg); clear hj hg)
            go_roundw
            case rel => exact ⟨i + 1, by go_num, by omega, Lib.hid (by rw [HU.out, ← List.append_assoc]; exact Hw5.out)⟩
            case measure => simp [intOf]; omega
          · have HT9 := Lib.hid (show (O.map (·.1)).take i = O.map (·.1) by rw [List.take_of_length_le]; simp; omega)
            rw [HT9.out] at HNy
            have hlE : (E ++ unclosed (O.map (·.1))).length ≤ 1048576 := by simp only [List.length_append, unclosed_len, List.length_map]; omega
            cases go with
            | true =>
              have HV := Lib.hid (show refEnd (refTo (T.map (·.1)) T.length) = E ++ unclosed (O.map (·.1)) by rw [HF.out, refEnd]; simp)
              obtain ⟨D9, hD9⟩ : ∃ D9, E ++ unclosed (O.map (·.1)) = D9 := ⟨_, rfl⟩
              rw [hD9] at HV HNy
              clear hD9 hlE
              obtain ⟨A7, c7, hb7, ho7⟩ := HNy.out.rn.js.ex
              have l0 : wy.cell? ⟨N, 0, none⟩ = some (.slice A7 D9.length c7) := hb7.c 0
              have ll := hb7.lt
              have HO7 := Lib.hid ho7
              clear hb7 ho7
              go_wp2_with fail
              go_ret
              rw [HV.out]
              exact ⟨A7, c7, rfl, by rw [HN.out]; exact HO7.out, by rw [HN.out]; exact HNy.out.rn.js.bel⟩
            | false =>
              have HV := Lib.hid (show refEnd (refTo (T.map (·.1)) T.length) = E ++ unclosed (O.map (·.1)) ++ [⟨0, 6⟩] by rw [HF.out, refEnd]; simp)
              obtain ⟨D9, hD9⟩ : ∃ D9, E ++ unclosed (O.map (·.1)) ++ [(⟨0, 6⟩ : FaultR)] = D9 := ⟨_, rfl⟩
              rw [hD9] at HV
              have HD9 := Lib.hid hD9
              clear hD9
              go_wp2_with (go_at_call 67; go_must (refine (addR_q N N (E ++ unclosed (O.map (·.1))) 0 _ 6 w0 _ HNy.out.rn.js rfl hlE).mono ?_); rintro e w9 ⟨rfl, hj, hg⟩; rw [HD9.out] at hj; obtain ⟨A7, c7, hb7, ho7⟩ := hj.ex; have l0 : w9.cell? ⟨N, 0, none⟩ = some (.slice A7 D9.length c7) := hb7.c 0; have ll := hb7.lt; have HO7 := Lib.hid ho7; have HJ9 := Lib.hid hj; clear hb7 ho7 hj hg)
              go_ret
              rw [HV.out]
              exact ⟨A7, c7, rfl, by rw [HN.out]; exact HO7.out, by rw [HN.out]; exact HJ9.out.bel⟩

end Go.Proofs.YtbhildmalcfhiaaGreatDoor
