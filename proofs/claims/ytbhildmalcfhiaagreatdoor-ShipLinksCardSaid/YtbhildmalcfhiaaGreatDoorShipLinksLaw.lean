/-
  ShipLinks is proved: for all outputs and strings Ids and Links return what the reference returns, or have its error. No condition.
-/
import Derived.Test.YtbhildmalcfhiaaGreatDoorLkTop
import Derived.Test.YtbhildmalcfhiaaGreatDoorBase
import Derived.JoinedCond
import Derived.HandedShaped
import Derived.Test.YtbhildmalcfhiaaGreatDoorCards
import Derived.Test.YtbhildmalcfhiaaGreatDoorTie
import Derived.OpenShut
import Derived.Deep.DeepHandedRow
import Derived.Lib.LaidTab
import Derived.Lay
namespace Go.Proofs.YtbhildmalcfhiaaGreatDoor
open Go.RowKit Go.Deep

theorem ToksIn.cells {w : World} {At : Option Addr} {ct b k : Nat} {L : List (TokR × Value)} {x : TokR × Value} (h : ToksIn w (.slice At L.length ct) L) (hA : L ≠ [] → At = some ⟨b, 0, none⟩) (hx : L[k]? = some x) :
    AttsAt w x.2 x.1.atts ∧ ∀ j u, (tokRow x)[j]? = some u → w.cell? ⟨b, k * 5 + j, none⟩ = some u := by
  obtain ⟨A', c', b', he, _, _, hA', hc⟩ := h
  have hne : L ≠ [] := by intro e; rw [e] at hx; simp at hx
  have h1 := hA hne
  have h2 := hA' hne
  cases he
  rw [h1] at h2
  cases h2
  exact hc k x hx
theorem AttsAt.cells {w : World} {Ax : Option Addr} {cx b k : Nat} {l : List AttrR} {x : AttrR} (h : AttsAt w (.slice Ax l.length cx) l) (hA : l ≠ [] → Ax = some ⟨b, 0, none⟩) (hx : l[k]? = some x) :
    w.cell? ⟨b, k * 2, none⟩ = some (.string x.name) ∧ w.cell? ⟨b, k * 2 + 1, none⟩ = some (.string x.value) := by
  obtain ⟨A', c', b', he, _, _, hA', hc⟩ := h
  have hne : l ≠ [] := by intro e; rw [e] at hx; simp at hx
  have h1 := hA hne
  have h2 := hA' hne
  cases he
  rw [h1] at h2
  cases h2
  exact hc k x hx
theorem ToksIn.shape {w : World} {v : Value} {L : List (TokR × Value)} (h : ToksIn w v L) : ∃ (At : Option Addr) (ct b : Nat), v = .slice At L.length ct ∧ L.length ≤ ct ∧ ct ≤ 9223372036854775807 ∧ (L ≠ [] → At = some ⟨b, 0, none⟩) := by
  obtain ⟨A, c, b, h1, h2, h3, h4, _⟩ := h
  exact ⟨A, c, b, h1, h2, by unfold maxLen at h3; omega, h4⟩
theorem AttsAt.shape {w : World} {v : Value} {l : List AttrR} (h : AttsAt w v l) : ∃ (At : Option Addr) (ct b : Nat), v = .slice At l.length ct ∧ l.length ≤ ct ∧ ct ≤ 9223372036854775807 ∧ (l ≠ [] → At = some ⟨b, 0, none⟩) := by
  obtain ⟨A, c, b, h1, h2, h3, h4, _⟩ := h
  exact ⟨A, c, b, h1, h2, by unfold maxLen at h3; omega, h4⟩

set_option maxRecDepth 100000 in
set_option maxHeartbeats 4000000 in
theorem idsIn_q (s : ByteArray) (w : World) (hm : MaxT w.heap.size w) :
    Calls Tryz.prog 7 #[.string s] w (StrsE (idsV (tokR s)) (tokE s) w) := by
  have HM := Lib.hid hm; clear hm
  rcases tokE_two s with hE | hE
  · have HE := Lib.hid hE; clear hE
    obtain ⟨K, hK⟩ : ∃ K, w.heap.size = K := ⟨_, rfl⟩
    have HK := Lib.hid hK
    clear hK
    go_enter Tryz.func7, Tryz.ntmps7
    go_upto_region 4 with (go_at_call 22; go_must (refine (tokensOf_q s w HM.out).mono ?_); rintro e w1 ⟨ov1, L, rfl, hl1, hO1, hb1⟩; rw [HE.out]; rw [HK.out] at hO1 hb1; have HL1 := Lib.hid hl1; have HO1 := Lib.hid hO1; have HB1 := Lib.hid hb1; have hn1 : L.length ≤ 20000 := toks_len hl1; clear hl1 hO1 hb1)
    obtain ⟨At, ct, bt, hov, hlc, hct, hAt⟩ := HO1.out.rows.shape
    subst hov
    have HAt := Lib.hid hAt; clear hAt
    go_wp2_with fail
    go_loopw [6, 20] (fun t6 t20 wr => ∃ (k : Nat) (D : List (List UInt8)) (A : Option Addr) (c q : Nat), t6 = .slice A q c ∧ t20 = .int .i64 k ∧ D.length = q ∧ k ≤ L.length ∧ q ≤ k ∧ Hid (idsV ((L.take k).map (·.1)) = D) ∧ Hid (wr.ownsRow K 9 1 (.slice A q c) q (strCells D)) ∧ Hid (ToksOwn wr K (.slice At L.length ct) L) ∧ Hid (Below K w wr)) (fun _ t20 _ => L.length - (intOf t20).toNat)
    case atStart => exact ⟨0, [], none, 0, 0, rfl, rfl, rfl, Nat.zero_le _, Nat.zero_le _, rfl, World.ownsRow_nil _ _ _ _, HO1, HB1⟩
    case round =>
      clear HO1 HB1
      obtain ⟨k, D, A, c, q, rfl, rfl, hq, hk, hqk, HR, HO, HT, HB⟩ := hrel
      have hKr : K ≤ wr.heap.size := by have h1 := HB.out.size; have h2 := HK.out; omega
      by_cases hlt : k < L.length
      · obtain rfl := HAt.out (by intro h; rw [h] at hlt; simp at hlt)
        obtain ⟨x, hx⟩ : ∃ x, L[k]? = some x := ⟨_, List.getElem?_eq_getElem hlt⟩
        have HR2 := Lib.hid (ids_step HR.out hx)
        obtain ⟨hxa, hxc⟩ := HT.out.rows.cells HAt.out hx
        clear hx
        obtain ⟨⟨kd, at0, nm, tx, atts⟩, av⟩ := x
        have HXA := Lib.hid hxa
        obtain ⟨Ax, cx, bx, hxv, _⟩ := hxa
        simp only at hxv HXA HR2
        subst hxv
        have p0 := hxc 0 _ rfl
        have p1 := hxc 1 _ rfl
        have p2 := hxc 2 _ rfl
        have p3 := hxc 3 _ rfl
        have p4 := hxc 4 _ rfl
        simp only [Nat.add_zero] at p0
        clear hxc
        obtain ⟨vv, hvv⟩ : ∃ v, attrS idN atts = v := ⟨_, rfl⟩
        have HVV := Lib.hid hvv
        clear hvv
        obtain ⟨k2, hk2⟩ : ∃ b, (kd == 2) = b := ⟨_, rfl⟩
        have HK2 := Lib.hid hk2
        obtain ⟨ne, hne⟩ : ∃ b, (vv.toList == []) = b := ⟨_, rfl⟩
        have HNe := Lib.hid hne
        have hne2 : vv.toList.isEmpty = ne := by rw [← hne]; cases vv.toList <;> rfl
        cases k2 with
        | false =>
          have HR3 := Lib.hid (HR2.out.trans (by rw [idT_no (by simpa using HK2.out), List.append_nil]))
          go_wp2_with (go_at_call 23; go_must (refine (idOf_q kd at0 nm tx _ atts vv _ (HXA.out.keep (Keeps.alloc _ _)) HVV.out).mono ?_); rintro e w2 ⟨rfl, hb2⟩; have HB2 := Lib.hid ((HB.out.alloc hKr _).trans (hb2.mono (by simp; omega))); have HO2 := Lib.hid (own_stay (own_alloc HO.out _) hb2); have HT2 := Lib.hid ((HT.out.alloc _).below hb2); have HX2 := Lib.hid ((CB.new wr #[.int .i64 kd, .int .i64 (at0 : Int), .string nm, .string tx, .slice Ax atts.length cx] 56).below hb2); have x0 : w2.cell? ⟨wr.heap.size, 0, none⟩ = some (.int .i64 kd) := HX2.out.c 0; have xl := HX2.out.lt; clear hb2)
          go_roundw
          case rel => exact ⟨k + 1, D, A, c, q, rfl, by go_num, hq, by omega, by omega, HR3, HO2, HT2, HB2⟩
          case measure => simp [intOf]; omega
        | true =>
          have hkd : kd = 2 := by simpa using HK2.out
          cases ne with
          | true =>
            have he : vv = ⟨#[]⟩ := ba_empty (by have := HNe.out; rw [Go.ByteArray.toList_eq] at this; simpa using this)
            have HR3 := Lib.hid (HR2.out.trans (by rw [idT_empty (by rw [HVV.out, he]), List.append_nil]))
            clear he hkd
            go_wp2_with (go_at_call 23; go_must (refine (idOf_q kd at0 nm tx _ atts vv _ (HXA.out.keep (Keeps.alloc _ _)) HVV.out).mono ?_); rintro e w2 ⟨rfl, hb2⟩; have HB2 := Lib.hid ((HB.out.alloc hKr _).trans (hb2.mono (by simp; omega))); have HO2 := Lib.hid (own_stay (own_alloc HO.out _) hb2); have HT2 := Lib.hid ((HT.out.alloc _).below hb2); have HX2 := Lib.hid ((CB.new wr #[.int .i64 kd, .int .i64 (at0 : Int), .string nm, .string tx, .slice Ax atts.length cx] 56).below hb2); have x0 : w2.cell? ⟨wr.heap.size, 0, none⟩ = some (.int .i64 kd) := HX2.out.c 0; have xl := HX2.out.lt; clear hb2)
            go_roundw
            case rel => exact ⟨k + 1, D, A, c, q, rfl, by go_num, hq, by omega, by omega, HR3, HO2, HT2, HB2⟩
            case measure => simp [intOf]; omega
          | false =>
            have HR3 := Lib.hid (HR2.out.trans (by rw [idT_one hkd HVV.out (by have := HNe.out; rw [Go.ByteArray.toList_eq] at this; simpa using this)]))
            have hne3 : ¬ vv.toList = [] := by simpa using HNe.out
            clear hkd
            go_wp2_with (first
              | (go_at_call 23; go_must (refine (idOf_q kd at0 nm tx _ atts vv _ (HXA.out.keep (Keeps.alloc _ _)) HVV.out).mono ?_); rintro e w2 ⟨rfl, hb2⟩; have HB2 := Lib.hid ((HB.out.alloc hKr _).trans (hb2.mono (by simp; omega))); have HO2 := Lib.hid (own_stay (own_alloc HO.out _) hb2); have HT2 := Lib.hid ((HT.out.alloc _).below hb2); have HX2 := Lib.hid ((CB.new wr #[.int .i64 kd, .int .i64 (at0 : Int), .string nm, .string tx, .slice Ax atts.length cx] 56).below hb2); have x0 : w2.cell? ⟨wr.heap.size, 0, none⟩ = some (.int .i64 kd) := HX2.out.c 0; have xl := HX2.out.lt; have hK2 : K ≤ w2.heap.size := (by omega); clear hb2)
              | (at_builtin; go_must (refine wpList_push _ rfl (.tmp 33) (.tmp 35) 23 rfl K 9 _ 1 16 Tryz.underlying23 info_strL rfl (by omega) (.slice A q c) q _ rfl (own_alloc HO2.out _) [.string vv] rfl _ rfl (cell_new _ [.string vv] 9 _ rfl) (one_str vv) (by omega) (by unfold maxLen; omega) (by simp; omega) ?_); intro g6 k6 w6 own6 hg6 hgg6 hb6; have HO6 := Lib.hid own6; have HT6 := Lib.hid ((HT2.out.alloc _).grown (own_alloc HO2.out _) hg6 (by decide) (by decide)); have HB6 := Lib.hid ((HB2.out.alloc hK2 _).trans hb6); clear own6 hg6 hgg6 hb6))
            go_roundw
            case rel => exact ⟨k + 1, D ++ [vv.data.toList], _, _, q + 1, rfl, by go_num, by simp [hq], by omega, by omega, HR3, Lib.hid (by rw [strCells_append]; exact HO6.out), HT6, HB6⟩
            case measure => simp [intOf]; omega
      · have hkl : k = L.length := by omega
        have HF := Lib.hid (show idsV (tokR s) = D by rw [← HL1.out, ← HR.out, hkl, List.take_length])
        clear hkl
        go_wp2_with fail
        go_ret2
        exact StrsE.mk HK.out.symm HF.out HE.out hq HO.out HB.out
  · have HE := Lib.hid hE; clear hE
    have HN := Lib.hid (show tokR s = [] by rw [tokR, if_neg (by rw [HE.out]; decide)])
    go_enter Tryz.func7, Tryz.ntmps7
    go_wp2_with (go_at_call 22; go_must (refine (tokensOf_q s w HM.out).mono ?_); rintro e w1 ⟨ov1, L1, rfl, hl1, hO1, hb1⟩; rw [HE.out]; have HB1 := Lib.hid hb1; clear hl1 hO1 hb1)
    go_ret2
    exact StrsE.mk (D := []) rfl (by rw [HN.out]; rfl) HE.out rfl (World.ownsRow_nil _ _ _ _) HB1.out

end Go.Proofs.YtbhildmalcfhiaaGreatDoor

namespace Go.Proofs.YtbhildmalcfhiaaGreatDoor
open Go.RowKit Go.Deep

theorem all_skip {l : List OutV} {k : Nat} {x : OutV} {D : List LinkR} (h : allLinks (l.take k) = D) (hx : l[k]? = some x) (hp : pageB x.path = false) : allLinks (l.take (k + 1)) = D := by
  rw [all_step h hx, outLinks, if_neg (by rw [hp]; simp), List.append_nil]
theorem out_links {x : OutV} {L : List TokR} (hp : pageB x.path = true) (h : L = tokR x.body) : outLinks x = linksV x.path L := by rw [outLinks, if_pos hp, h]
/-- the boxes of the output and of the token beside the row of links -/
structure LState (K ob : Nat) (pa bo : ByteArray) (tv : Value) (L : List (TokR × Value)) (w0 w : World) : Prop where
  out : CB w ob 62 #[.string pa, .string bo]
  tok : ToksOwn w K tv L
  bel : Below K w0 w
section
variable {K ob : Nat} {pa bo : ByteArray} {tv : Value} {L : List (TokR × Value)} {w0 w w' : World}
theorem LState.below (h : LState K ob pa bo tv L w0 w) (hb : Below w.heap.size w w') (hK : K ≤ w.heap.size) : LState K ob pa bo tv L w0 w' := ⟨h.out.below hb, h.tok.below hb, h.bel.trans (hb.mono hK)⟩
theorem LState.alloc (h : LState K ob pa bo tv L w0 w) (hK : K ≤ w.heap.size) (o : Obj) : LState K ob pa bo tv L w0 (w.alloc o) := h.below ((Below.refl _ _).alloc (Nat.le_refl _) o) hK
theorem LState.grown {v : Value} {q : Nat} {xs : List Value} (h : LState K ob pa bo tv L w0 w) (hr : w.ownsRow K 34 3 v q xs) (hg : w.grownBy w' v.ownBlock) (hb : Below K w w') : LState K ob pa bo tv L w0 w' :=
  ⟨h.out.grown hr hg (by decide), h.tok.grown hr hg (by decide) (by decide), h.bel.trans hb⟩
end
def refLinks (l : List OutV) : List LinkR := if pagesE l = 0 then allLinks l else []
theorem linksN_ok {l : List OutV} (h : outsE l = 0) (h2 : pagesE l = 0) : linksN l = 0 := by rw [linksN, if_pos h, h2]

set_option maxRecDepth 100000 in
set_option maxHeartbeats 8000000 in
theorem linksOfR_q (l : List OutV) (v : Value) (w : World) (h : OutsAt w v l) (hm : MaxT w.heap.size w) (hz : ∀ x ∈ l, x.path.size ≤ 1048576) (hl : l.length ≤ 480) :
    Calls Tryz.prog 11 #[v] w (LinksE (refLinks l) (pagesE l) w) := by
  obtain ⟨A, c, b, o, rfl, hlc, hc, hA, hcell⟩ := h
  have HC := Lib.hid hcell; clear hcell
  have HA := Lib.hid hA; clear hA
  have HZ := Lib.hid hz; clear hz
  unfold maxLen at hc
  obtain ⟨K, hK⟩ : ∃ K, w.heap.size = K := ⟨_, rfl⟩
  have HM := Lib.hid (show MaxT K w from hK ▸ hm); clear hm
  have HK := Lib.hid hK
  have HB0 := Lib.hid (Below.refl K w)
  clear hK
  go_enter Tryz.func11, Tryz.ntmps11
  go_wp2_with fail
  go_loopw [4, 15] (fun t4 t15 wr => ∃ (k : Nat) (D : List LinkR) (A' : Option Addr) (c' q : Nat), t4 = .slice A' q c' ∧ t15 = .int .i64 k ∧ D.length = q ∧ k ≤ l.length ∧ q ≤ k * 4000000000 ∧ Hid (allLinks (l.take k) = D) ∧ Hid (∀ i x, i < k → l[i]? = some x → pageB x.path = true → tokE x.body = 0) ∧ Hid (wr.ownsRow K 34 3 (.slice A' q c') q (linkCells D)) ∧ Hid (Below K w wr)) (fun _ t15 _ => l.length - (intOf t15).toNat)
  case atStart => exact ⟨0, [], none, 0, 0, rfl, rfl, rfl, Nat.zero_le _, Nat.zero_le _, rfl, fun i x hi => absurd hi (by omega), World.ownsRow_nil _ _ _ _, HB0⟩
  case round =>
    clear HB0
    obtain ⟨k, D, A', c', q, rfl, rfl, hq, hk, hqk, HR, HE, HO, HB⟩ := hrel
    obtain ⟨wo, rfl⟩ : ∃ wo : World, wo = wr := ⟨_, rfl⟩
    have hKr : K ≤ wo.heap.size := by have h1 := HB.out.size; have h2 := HK.out; omega
    by_cases hlt : k < l.length
    · obtain ⟨x, hx⟩ : ∃ x, l[k]? = some x := ⟨_, List.getElem?_eq_getElem hlt⟩
      obtain rfl : A = some ⟨b, o, none⟩ := HA.out (by intro h0; rw [h0] at hlt; simp at hlt)
      have kc := (HC.out k x hx).keep (Keeps.of_below (by have := HB.out; rw [← HK.out] at this; exact this))
      have k0 := kc.c0
      have k1 := kc.c1
      have HX := Lib.hid hx
      have hzx := HZ.out x (List.mem_of_getElem? hx)
      clear hx kc
      obtain ⟨path, body⟩ := x
      simp only at k0 k1 hzx HX
      obtain ⟨pb, hpb⟩ : ∃ v, pageB path = v := ⟨_, rfl⟩
      have HPb := Lib.hid hpb; clear hpb
      cases pb with
      | false =>
        have HE2 := Lib.hid (ok_next HE.out HX.out (fun e => by rw [HPb.out] at e; cases e))
        have HR2 := Lib.hid (all_skip HR.out HX.out HPb.out)
        go_wp2_with (go_at_call 29; go_must (refine (isPageR_q path body false _ (by omega) HPb.out).mono ?_); rintro e w5 ⟨rfl, hb5⟩; have HB5 := Lib.hid ((HB.out.alloc hKr _).trans (hb5.mono (by simp; omega))); have HO5 := Lib.hid (own_stay (own_alloc HO.out _) hb5); clear hb5)
        go_roundw
        case rel => exact ⟨k + 1, D, A', c', q, rfl, by go_num, hq, by omega, Nat.le_trans hqk (Nat.mul_le_mul_right _ (Nat.le_succ k)), HR2, HE2, HO5, HB5⟩
        case measure => simp [intOf]; omega
      | true =>
        rcases tokE_two body with hte | hte
        · have HTe := Lib.hid hte
          have HE2 := Lib.hid (ok_next HE.out HX.out (fun _ => hte))
          clear hte
          go_upto_region 9 with (first
            | (go_at_call 29; go_must (refine (isPageR_q path body true _ (by omega) HPb.out).mono ?_); rintro e w5 ⟨rfl, hb5⟩; have HB5 := Lib.hid ((HB.out.alloc hKr _).trans (hb5.mono (by simp; omega))); have HO5 := Lib.hid (own_stay (own_alloc HO.out _) hb5); have HX5 := Lib.hid ((CB.new wo #[.string path, .string body] 62).below hb5); have x0 : w5.cell? ⟨wo.heap.size, 0, none⟩ = some (.string path) := HX5.out.c 0; have x1 : w5.cell? ⟨wo.heap.size, 1, none⟩ = some (.string body) := HX5.out.c 1; have xl := HX5.out.lt; have hK5 : K ≤ w5.heap.size := (by omega); clear hb5)
            | (go_at_call 22; go_must (refine (tokensOf_q body w5 ((HM.out.keep HB5.out).up hK5)).mono ?_); rintro e w6 ⟨ov6, L, rfl, hl6, hO6, hb6⟩; rw [HTe.out]; have HL6 := Lib.hid hl6; have HS6 := Lib.hid (⟨HX5.out.below hb6, hO6.low hK5, HB5.out.trans (hb6.mono hK5)⟩ : LState K wo.heap.size path body ov6 L w w6); have HO6 := Lib.hid (own_stay HO5.out hb6); have hK6 : K ≤ w6.heap.size := (by have := hb6.size; omega); have hn6 : L.length ≤ 20000 := toks_len hl6; have HA6 := Lib.hid (fun y (hy : y ∈ L) => (by have : y.1 ∈ tokR body := (by rw [← hl6]; exact List.mem_map.2 ⟨y, hy, rfl⟩); exact tokR_atts this : y.1.atts.length ≤ 200000)); clear hl6 hO6 hb6))
          clear x0 x1 xl HB5 HO5 HX5
          obtain ⟨At, ct, bt, hov, hlct, hct, hAt⟩ := HS6.out.tok.rows.shape
          subst hov
          have HAt := Lib.hid hAt; clear hAt
          go_wp2_with fail
          go_loopw [4, 33] (fun t4 t33 wy => ∃ (m : Nat) (E : List LinkR) (A2 : Option Addr) (c2 r : Nat), t4 = .slice A2 r c2 ∧ t33 = .int .i64 m ∧ E.length = r ∧ m ≤ L.length ∧ r ≤ q + m * 200000 ∧ Hid (E = D ++ linksV path ((L.take m).map (·.1))) ∧ Hid (wy.ownsRow K 34 3 (.slice A2 r c2) r (linkCells E)) ∧ Hid (LState K wo.heap.size path body (.slice At L.length ct) L w wy)) (fun _ t33 _ => L.length - (intOf t33).toNat)
          case atStart => exact ⟨0, D, A', c', q, rfl, rfl, hq, Nat.zero_le _, by omega, by simp [Hid, linksV], HO6, HS6⟩
          case round =>
            clear HO6 HS6 HO
            obtain ⟨m, E, A2, c2, r, rfl, rfl, hr, hm2, hrm, HE3, HO2, HS2⟩ := hrel
            obtain ⟨wy, rfl⟩ : ∃ wy : World, wy = wr := ⟨_, rfl⟩
            have hKy : K ≤ wy.heap.size := by have h1 := HS2.out.bel.size; have h2 := HK.out; omega
            by_cases hmt : m < L.length
            · obtain rfl := HAt.out (by intro h; rw [h] at hmt; simp at hmt)
              obtain ⟨x, hx⟩ : ∃ x, L[m]? = some x := ⟨_, List.getElem?_eq_getElem hmt⟩
              have HR2 := Lib.hid (links_step (p := path) rfl hx)
              have hal := HA6.out x (List.mem_of_getElem? hx)
              obtain ⟨hxa, hxc⟩ := HS2.out.tok.rows.cells HAt.out hx
              have HXA := Lib.hid (fun (wz : World) (hz : LState K wo.heap.size path body (.slice (some ⟨bt, 0, none⟩) L.length ct) L w wz) => (hz.tok.rows.cells HAt.out hx).1)
              clear hx
              obtain ⟨⟨kd, at0, nm, tx, atts⟩, av⟩ := x
              simp only at HXA HR2 hal hxa
              obtain ⟨Ax, cx, bx, hxv, hcx, hcm, hAx⟩ := hxa.shape
              subst hxv
              have HAx := Lib.hid hAx
              clear hAx hxa
              have p0 := hxc 0 _ rfl
              have p1 := hxc 1 _ rfl
              have p2 := hxc 2 _ rfl
              have p3 := hxc 3 _ rfl
              have p4 := hxc 4 _ rfl
              simp only [Nat.add_zero] at p0
              clear hxc
              go_wp2_with fail
              have HT0 := Lib.hid (CB.new wy #[.int .i64 kd, .int .i64 (at0 : Int), .string nm, .string tx, .slice Ax atts.length cx] 56)
              have HO0 := Lib.hid (own_alloc HO2.out (.cells #[.int .i64 kd, .int .i64 (at0 : Int), .string nm, .string tx, .slice Ax atts.length cx] 56))
              have HS0 := Lib.hid (HS2.out.alloc hKy (.cells #[.int .i64 kd, .int .i64 (at0 : Int), .string nm, .string tx, .slice Ax atts.length cx] 56))
              clear p0 p1 p2 p3 p4 HO2 HS2
              go_loopw [4, 40] (fun t4 t40 wz => ∃ (j : Nat) (G : List LinkR) (A3 : Option Addr) (c3 u : Nat), t4 = .slice A3 u c3 ∧ t40 = .int .i64 j ∧ G.length = u ∧ j ≤ atts.length ∧ u ≤ r + j ∧ Hid (G = E ++ (atts.take j).flatMap (linkA path at0)) ∧ Hid (wz.ownsRow K 34 3 (.slice A3 u c3) u (linkCells G)) ∧ Hid (CB wz wy.heap.size 56 #[.int .i64 kd, .int .i64 (at0 : Int), .string nm, .string tx, .slice Ax atts.length cx]) ∧ Hid (LState K wo.heap.size path body (.slice (some ⟨bt, 0, none⟩) L.length ct) L w wz)) (fun _ t40 _ => atts.length - (intOf t40).toNat)
              case atStart => exact ⟨0, E, A2, c2, r, rfl, rfl, hr, Nat.zero_le _, Nat.le_refl _, by simp [Hid], HO0, HT0, HS0⟩
              case round =>
                clear HO0 HT0 HS0
                obtain ⟨j, G, A3, c3, u, rfl, rfl, hu, hj, huj, HG, HO3, HT3, HS3⟩ := hrel
                obtain ⟨wz, rfl⟩ : ∃ wz : World, wz = wr := ⟨_, rfl⟩
                have hKz : K ≤ wz.heap.size := by have h1 := HS3.out.bel.size; have h2 := HK.out; omega
                by_cases hjl : j < atts.length
                · obtain ⟨a, ha⟩ : ∃ x, atts[j]? = some x := ⟨_, List.getElem?_eq_getElem hjl⟩
                  obtain ⟨n0, n1⟩ := (HXA.out wz HS3.out).cells HAx.out ha
                  obtain rfl := HAx.out (by intro h; rw [h] at hjl; simp at hjl)
                  have HG2 := Lib.hid (link_step HG.out ha)
                  clear ha
                  have t1 : wz.cell? ⟨wy.heap.size, 1, none⟩ = some (.int .i64 (at0 : Int)) := HT3.out.c 1
                  have tl : wy.heap.size < wz.heap.size := HT3.out.lt
                  have o0 : wz.cell? ⟨wo.heap.size, 0, none⟩ = some (.string path) := HS3.out.out.c 0
                  have ol : wo.heap.size < wz.heap.size := HS3.out.out.lt
                  by_cases hlk : a.name = hrefN ∨ a.name = srcN
                  · have HG3 := Lib.hid (HG2.out.symm.trans (by rw [linkA_yes hlk]))
                    have HPush := Lib.hid (fun (W : World) (hW : Below wz.heap.size wz W) (hWo : W.ownsRow K 34 3 (.slice A3 u c3) u (linkCells G)) (w6 : World) (hg : W.grownBy w6 (Value.slice A3 u c3).ownBlock) (hb : Below K W w6) => (⟨CB.grown (HT3.out.below hW) hWo hg (by decide), (HS3.out.below hW hKz).grown hWo hg hb⟩ : CB w6 wy.heap.size 56 #[.int .i64 kd, .int .i64 (at0 : Int), .string nm, .string tx, .slice (some ⟨bx, 0, none⟩) atts.length cx] ∧ LState K wo.heap.size path body (.slice (some ⟨bt, 0, none⟩) L.length ct) L w w6))
                    by_cases h1 : a.name = hrefN
                    · have hs1 : (a.name.toList == [104, 114, 101, 102]) = true := nm_eq' h1
                      clear h1 hlk
                      go_wp2_with (at_builtin; go_must (refine wpList_push _ rfl (.tmp 52) (.tmp 60) 28 rfl K 34 _ 3 40 Tryz.underlying28 info_link rfl (by omega) (.slice A3 u c3) u _ rfl (own_alloc (own_alloc HO3.out _) _) (linkRow ⟨path, at0, a.value⟩) rfl _ rfl (cell_new _ (linkRow ⟨path, at0, a.value⟩) 34 _ (by rw [World.size_alloc])) (by intro u hu; simp [linkRow] at hu; rcases hu with rfl | rfl | rfl <;> rfl) (by omega) (by unfold maxLen; omega) (by simp; omega) ?_); intro g6 k6 w8 own6 hg6 hgg6 hb6; have HO6 := Lib.hid own6; have HP6 := Lib.hid (HPush.out _ (((Below.refl _ _).alloc (Nat.le_refl _) _).alloc (by simp) _) (own_alloc (own_alloc HO3.out _) _) _ hg6 hb6); clear own6 hg6 hgg6 hb6)
                      go_roundw
                      case rel => exact ⟨j + 1, G ++ [(⟨path, at0, a.value⟩ : LinkR)], _, _, u + 1, rfl, by go_num, by simp [hu], by omega, by omega, Lib.hid HG3.out.symm, Lib.hid (by rw [linkCells_snoc]; exact HO6.out), HP6.out.1, HP6.out.2⟩
                      case measure => simp [intOf]; omega
                    · have hs1 : (a.name.toList == [104, 114, 101, 102]) = false := nm_ne' h1
                      have hs2 : (a.name.toList == [115, 114, 99]) = true := nm_eq' (hlk.resolve_left h1)
                      clear h1 hlk
                      go_wp2_with (at_builtin; go_must (refine wpList_push _ rfl (.tmp 52) (.tmp 60) 28 rfl K 34 _ 3 40 Tryz.underlying28 info_link rfl (by omega) (.slice A3 u c3) u _ rfl (own_alloc (own_alloc HO3.out _) _) (linkRow ⟨path, at0, a.value⟩) rfl _ rfl (cell_new _ (linkRow ⟨path, at0, a.value⟩) 34 _ (by rw [World.size_alloc])) (by intro u hu; simp [linkRow] at hu; rcases hu with rfl | rfl | rfl <;> rfl) (by omega) (by unfold maxLen; omega) (by simp; omega) ?_); intro g6 k6 w8 own6 hg6 hgg6 hb6; have HO6 := Lib.hid own6; have HP6 := Lib.hid (HPush.out _ (((Below.refl _ _).alloc (Nat.le_refl _) _).alloc (by simp) _) (own_alloc (own_alloc HO3.out _) _) _ hg6 hb6); clear own6 hg6 hgg6 hb6)
                      go_roundw
                      case rel => exact ⟨j + 1, G ++ [(⟨path, at0, a.value⟩ : LinkR)], _, _, u + 1, rfl, by go_num, by simp [hu], by omega, by omega, Lib.hid HG3.out.symm, Lib.hid (by rw [linkCells_snoc]; exact HO6.out), HP6.out.1, HP6.out.2⟩
                      case measure => simp [intOf]; omega
                  · have h1 : a.name ≠ hrefN := fun e => hlk (Or.inl e)
                    have h2 : a.name ≠ srcN := fun e => hlk (Or.inr e)
                    have HG3 := Lib.hid (HG2.out.symm.trans (by rw [linkA_no h1 h2, List.append_nil]))
                    have hs1 : (a.name.toList == [104, 114, 101, 102]) = false := nm_ne' h1
                    have hs2 : (a.name.toList == [115, 114, 99]) = false := nm_ne' h2
                    clear h1 h2 hlk
                    go_wp2_with fail
                    go_roundw
                    case rel => exact ⟨j + 1, G, A3, c3, u, rfl, by go_num, hu, by omega, by omega, Lib.hid HG3.out.symm, own_alloc HO3.out _, HT3.out.alloc _, HS3.out.alloc hKz _⟩
                    case measure => simp [intOf]; omega
                · have HE4 := Lib.hid (show G = D ++ linksV path ((L.take (m + 1)).map (·.1)) by rw [HR2.out, HG.out, List.take_of_length_le (by omega), HE3.out, List.append_assoc]; rfl)
                  go_wp2_with fail
                  go_roundw
                  case rel => exact ⟨m + 1, G, A3, c3, u, rfl, by go_num, hu, by omega, by omega, HE4, HO3, HS3⟩
                  case measure => simp [intOf]; omega
            · have hml : m = L.length := by omega
              have HF := Lib.hid (show allLinks (l.take (k + 1)) = E by rw [all_step HR.out HX.out, HE3.out, hml, List.take_length, out_links HPb.out HL6.out.symm.symm])
              clear hml
              go_wp2_with fail
              go_roundw
              case rel => exact ⟨k + 1, E, A2, c2, r, rfl, by go_num, hr, by omega, by omega, HF, HE2, HO2, HS2.out.bel⟩
              case measure => simp [intOf]; omega
        · have HTe := Lib.hid hte
          have HF := Lib.hid (pagesE_yes HX.out HPb.out (show tokE body ≠ 0 by rw [hte]; decide))
          clear hte
          go_wp2_with (first
            | (go_at_call 29; go_must (refine (isPageR_q path body true _ (by omega) HPb.out).mono ?_); rintro e w5 ⟨rfl, hb5⟩; have HB5 := Lib.hid ((HB.out.alloc hKr _).trans (hb5.mono (by simp; omega))); have HX5 := Lib.hid ((CB.new wo #[.string path, .string body] 62).below hb5); have x0 : w5.cell? ⟨wo.heap.size, 0, none⟩ = some (.string path) := HX5.out.c 0; have x1 : w5.cell? ⟨wo.heap.size, 1, none⟩ = some (.string body) := HX5.out.c 1; have xl := HX5.out.lt; have hK5 : K ≤ w5.heap.size := (by omega); clear hb5)
            | (go_at_call 22; go_must (refine (tokensOf_q body w5 ((HM.out.keep HB5.out).up hK5)).mono ?_); rintro e w6 ⟨ov6, L, rfl, hl6, hO6, hb6⟩; rw [HTe.out]; have HB6 := Lib.hid (HB5.out.trans (hb6.mono hK5)); clear hl6 hO6 hb6))
          go_ret2
          exact LinksE.mk (D := []) HK.out.symm (by rw [refLinks, HF.out]; rfl) HF.out rfl (World.ownsRow_nil _ _ _ _) HB6.out
    · have hkl : k = l.length := by omega
      have HF := Lib.hid (pagesE_no (l := l) (by rw [← hkl]; exact HE.out))
      have HF2 := Lib.hid (show refLinks l = D by rw [refLinks, if_pos HF.out, ← HR.out, hkl, List.take_length])
      clear hkl
      go_wp2_with fail
      go_ret2
      exact LinksE.mk HK.out.symm HF2.out HF.out hq HO.out HB.out

end Go.Proofs.YtbhildmalcfhiaaGreatDoor

namespace Go.Proofs.YtbhildmalcfhiaaGreatDoor
open Go.RowKit Go.Deep

def LinksIn (w : World) (v : Value) (D : List LinkR) : Prop := ∃ (A : Option Addr) (c b : Nat), v = .slice A D.length c ∧ D.length ≤ c ∧ c ≤ maxLen ∧ (D ≠ [] → A = some ⟨b, 0, none⟩) ∧ ∀ i a, D[i]? = some a → w.cell? ⟨b, i * 3, none⟩ = some (.string a.path) ∧ w.cell? ⟨b, i * 3 + 1, none⟩ = some (.int .i64 (a.at_ : Int)) ∧ w.cell? ⟨b, i * 3 + 2, none⟩ = some (.string a.target)
theorem LinksIn.of_own {w : World} {B : Nat} {v : Value} {D : List LinkR} (h : w.ownsRow B 34 3 v D.length (linkCells D)) : LinksIn w v D := by
  obtain ⟨A, c, b, h1, h2, h3, h4, h5⟩ := own_rd h
  refine ⟨A, c, b, h1, h2, h3, fun hne => (h4 (by cases D; exact absurd rfl hne; simp)).1, fun i a ha => ?_⟩
  have k := flatN 3 linkRow (fun _ => rfl) D i a ha
  exact ⟨h5 _ _ (k 0 (by omega)), h5 _ _ (k 1 (by omega)), h5 _ _ (k 2 (by omega))⟩

set_option maxRecDepth 100000 in
set_option maxHeartbeats 2000000 in
theorem equalLinks_same (l : List LinkR) (v1 v2 : Value) (w : World) (h1 : LinksIn w v1 l) (h2 : LinksIn w v2 l) :
    Calls Tryz.prog 12 #[v1, v2] w fun e w' => e = .returned (.bool true) ∧ Below w.heap.size w w' := by
  obtain ⟨A1, c1, b1, rfl, hl1, hc1, hA1, hcell1⟩ := h1
  obtain ⟨A2, c2, b2, rfl, hl2, hc2, hA2, hcell2⟩ := h2
  have HC1 := Lib.hid hcell1; have HC2 := Lib.hid hcell2
  have HA1 := Lib.hid hA1; have HA2 := Lib.hid hA2
  clear hcell1 hcell2 hA1 hA2
  unfold maxLen at hc1
  go_enter Tryz.func12, Tryz.ntmps12
  go_wp2_with fail
  go_loopw [13] (fun i wr => ∃ k q : Nat, k ≤ l.length ∧ i = .int .i64 k ∧ wr = w.drewN q) (fun i _ => l.length - (intOf i).toNat)
  case atStart => exact ⟨0, 0, Nat.zero_le _, rfl, rfl⟩
  case round =>
    obtain ⟨k, q, hk, rfl, rfl⟩ := hrel
    by_cases hlt : k < l.length
    · have hne : l ≠ [] := by intro h; rw [h] at hlt; simp at hlt
      obtain rfl := HA1.out hne
      obtain rfl := HA2.out hne
      obtain ⟨x, hx⟩ : ∃ x, l[k]? = some x := ⟨_, List.getElem?_eq_getElem hlt⟩
      obtain ⟨p0, p1, p2⟩ := HC1.out k x hx
      obtain ⟨q0, q1, q2⟩ := HC2.out k x hx
      clear hx
      go_wp2_with fail
      go_quiet (fail)
      go_wp2_with fail
      go_roundw
      case rel => exact ⟨k + 1, q + nq, by omega, by go_num, rfl⟩
      case measure => simp [intOf]; omega
    · go_wp2_with fail
      go_ret
      exact ⟨rfl, Below.drewN' (Below.refl _ _) _⟩

theorem strsOnes {w : World} {B n : Nat} {v : Value} {L : List (List UInt8)} (h : w.ownsRow B 9 1 v n (strCells L)) : OnesAt w v (strCells L) := OnesAt.of_own h
theorem MaxT.on {w w' : World} (h : MaxT w.heap.size w) (hb : Below w.heap.size w w') : MaxT w'.heap.size w' := (h.keep hb).up hb.size

set_option maxRecDepth 100000 in
set_option maxHeartbeats 4000000 in
theorem shipLinks_walk (l : List OutV) (v : Value) (s : ByteArray) (w : World) (h : OutsAt w v l) (hm : MaxT w.heap.size w) :
    Calls Tryz.prog 3 #[v, .string s] w fun e w' => e = .returned (.bool true) ∧ Below w.heap.size w w' := by
  have HM := Lib.hid hm; clear hm
  have HL := Lib.hid h; clear h
  obtain ⟨E, hE⟩ : ∃ E, tokE s = E := ⟨_, rfl⟩
  have HE := Lib.hid hE; clear hE
  have e1 : (E == E) = true := by simp
  have e2 : (E != E) = false := by simp
  obtain ⟨I, hI⟩ : ∃ I, idsV (tokR s) = I := ⟨_, rfl⟩
  have HI := Lib.hid hI; clear hI
  have e3 : (I == I) = true := by simp
  obtain ⟨F, hF⟩ : ∃ F, linksN l = F := ⟨_, rfl⟩
  obtain ⟨G, hG⟩ : ∃ G, linksL l = G := ⟨_, rfl⟩
  obtain ⟨O, hO⟩ : ∃ O, outsE l = O := ⟨_, rfl⟩
  have HF := Lib.hid hF; have HG := Lib.hid hG; have HOe := Lib.hid hO
  have e4 : (F == F) = true := by simp
  have e5 : (F != F) = false := by simp
  by_cases h0 : O = 0
  · subst h0
    have HP := Lib.hid (show pagesE l = F by rw [← hF, linksN, if_pos hO])
    have HR := Lib.hid (show refLinks l = G by rw [← hG, linksL, refLinks, linksN, if_pos hO])
    have hlen := outsE_len hO
    have HZ := Lib.hid (fun (x : OutV) (hx : x ∈ l) => (by have := path_size (outs_paths hO x hx); omega : x.path.size ≤ 1048576))
    clear hF hG hO
    go_enter Tryz.func3, Tryz.ntmps3
    go_wp2_with (first
      | (go_at_call 6; go_must (refine (shipIds_q s w HM.out).mono ?_); rintro e w1 ⟨A1, c1, rfl, hO1, hb1⟩; rw [HE.out]; rw [HI.out] at hO1 ⊢; have HO1 := Lib.hid hO1; have HB1 := Lib.hid hb1; clear hO1 hb1)
      | (go_at_call 7; go_must (refine (idsIn_q s w1 (HM.out.on HB1.out)).mono ?_); rintro e w2 ⟨A2, c2, rfl, hO2, hb2⟩; rw [HE.out]; rw [HI.out] at hO2 ⊢; have HO2 := Lib.hid (own_stay HO1.out hb2); have HQ2 := Lib.hid hO2; have HB2 := Lib.hid (HB1.out.trans (hb2.mono HB1.out.size)); clear hO2 hb2)
      | (go_at_call 8; go_must (refine (equalStrs_any I I _ _ w2 (strsOnes HO2.out) (strsOnes HQ2.out)).mono ?_); rw [e3]; rintro e w3 ⟨rfl, hb3⟩; have HB3 := Lib.hid (HB2.out.trans (hb3.mono HB2.out.size)); clear hb3)
      | (go_at_call 9; go_must (refine (shipLinks_q l v w3 (HL.out.keep (Keeps.of_below HB3.out)) (HM.out.on HB3.out)).mono ?_); rintro e w4 ⟨A4, c4, rfl, hO4, hb4⟩; rw [HF.out]; rw [HG.out] at hO4 ⊢; have HO4 := Lib.hid hO4; have HB4 := Lib.hid (HB3.out.trans (hb4.mono HB3.out.size)); clear hO4 hb4)
      | (go_at_call 10; go_must (refine (outsError_q l v 0 w4 (HL.out.keep (Keeps.of_below HB4.out)) (HM.out.on HB4.out).at_ HOe.out).mono ?_); rintro e w5 ⟨rfl, hb5⟩; have HO5 := Lib.hid (own_stay HO4.out hb5); have HB5 := Lib.hid (HB4.out.trans (hb5.mono HB4.out.size)); clear hb5)
      | (go_at_call 11; go_must (refine (linksOfR_q l v w5 (HL.out.keep (Keeps.of_below HB5.out)) (HM.out.on HB5.out) HZ.out hlen).mono ?_); rintro e w6 ⟨A6, c6, rfl, hO6, hb6⟩; rw [HP.out]; rw [HR.out] at hO6 ⊢; have HI5 := Lib.hid (LinksIn.of_own (own_stay HO5.out hb6)); have HI6 := Lib.hid (LinksIn.of_own hO6); have HB6 := Lib.hid (HB5.out.trans (hb6.mono HB5.out.size)); clear hO6 hb6)
      | (go_at_call 12; go_must (refine (equalLinks_same G _ _ w6 HI5.out HI6.out).mono ?_); rintro e w7 ⟨rfl, hb7⟩; have HB7 := Lib.hid (HB6.out.trans (hb7.mono HB6.out.size)); clear hb7))
    go_ret
    exact ⟨rfl, HB7.out⟩
  · have hFO : F = O := by rw [← hF, linksN, if_neg (by rw [hO]; exact h0), hO]
    subst hFO
    have hGn : G = [] := by rw [← hG, linksL, if_neg (by rw [hF]; exact h0)]
    subst hGn
    have z1 : (F == 0) = false := beq_eq_false_iff_ne.2 h0
    clear hF hG hO h0
    go_enter Tryz.func3, Tryz.ntmps3
    go_wp2_with (first
      | (go_at_call 6; go_must (refine (shipIds_q s w HM.out).mono ?_); rintro e w1 ⟨A1, c1, rfl, hO1, hb1⟩; rw [HE.out]; rw [HI.out] at hO1 ⊢; have HO1 := Lib.hid hO1; have HB1 := Lib.hid hb1; clear hO1 hb1)
      | (go_at_call 7; go_must (refine (idsIn_q s w1 (HM.out.on HB1.out)).mono ?_); rintro e w2 ⟨A2, c2, rfl, hO2, hb2⟩; rw [HE.out]; rw [HI.out] at hO2 ⊢; have HO2 := Lib.hid (own_stay HO1.out hb2); have HQ2 := Lib.hid hO2; have HB2 := Lib.hid (HB1.out.trans (hb2.mono HB1.out.size)); clear hO2 hb2)
      | (go_at_call 8; go_must (refine (equalStrs_any I I _ _ w2 (strsOnes HO2.out) (strsOnes HQ2.out)).mono ?_); rw [e3]; rintro e w3 ⟨rfl, hb3⟩; have HB3 := Lib.hid (HB2.out.trans (hb3.mono HB2.out.size)); clear hb3)
      | (go_at_call 9; go_must (refine (shipLinks_q l v w3 (HL.out.keep (Keeps.of_below HB3.out)) (HM.out.on HB3.out)).mono ?_); rintro e w4 ⟨A4, c4, rfl, hO4, hb4⟩; rw [HF.out]; rw [HG.out] at hO4 ⊢; have HO4 := Lib.hid hO4; have HB4 := Lib.hid (HB3.out.trans (hb4.mono HB3.out.size)); clear hO4 hb4)
      | (go_at_call 10; go_must (refine (outsError_q l v F w4 (HL.out.keep (Keeps.of_below HB4.out)) (HM.out.on HB4.out).at_ HOe.out).mono ?_); rintro e w5 ⟨rfl, hb5⟩; have HO5 := Lib.hid (own_stay HO4.out hb5); have HB5 := Lib.hid (HB4.out.trans (hb5.mono HB4.out.size)); clear hb5)
      | (go_at_call 12; go_must (refine (equalLinks_same [] _ _ w5 (LinksIn.of_own HO5.out) (LinksIn.of_own (World.ownsRow_nil _ 0 _ 3))).mono ?_); rintro e w7 ⟨rfl, hb7⟩; have HB7 := Lib.hid (HB5.out.trans (hb7.mono HB5.out.size)); clear hb7))
    go_ret
    exact ⟨rfl, HB7.out⟩

end Go.Proofs.YtbhildmalcfhiaaGreatDoor

namespace Go.Proofs.YtbhildmalcfhiaaGreatDoor
open Go.RowKit Go.ChangeShapes Go.WideShapes Go.ChangeAt Go.Deep

theorem own : ownKnob Tryz.prog.godebug = none := by kernel_rfl
theorem laidOut : laidOutB Tryz.prog = true := by kernel_rfl

section
variable {H : Type} {enc : TypeId × Value → H}

theorem trodAll_stays {W W' : World} {sp : Nat → Bool} (hb : Below W.heap.size W W') : ∀ {ts : List TypeId} {vs : List Value} {ds : List (DataW H)} {ps : List MemPlace},
    (∀ t, t ∈ ts → Tryz.prog.readableRec t = true ∧ t < Tryz.prog.types.size) → DataW.TrodAll enc Tryz.prog W 0 (fun _ => true) true ts vs ds ps →
    (∀ x ∈ ps, x.block < W.heap.size) → (∀ x ∈ ps, sp x.block = true) → DataW.TrodAll enc Tryz.prog W' 0 sp true ts vs ds ps
  | [], [], [], ps, _, h, _, _ => h
  | [], _ :: _, _, _, _, h, _, _ => by simp [DataW.TrodAll] at h
  | [], [], _ :: _, _, _, h, _, _ => by simp [DataW.TrodAll] at h
  | _ :: _, [], _, _, _, h, _, _ => by simp [DataW.TrodAll] at h
  | _ :: _, _ :: _, [], _, _, h, _, _ => by simp [DataW.TrodAll] at h
  | t :: ts, v :: vs, d :: ds, ps, ht, h, hlt, hsp => by
    obtain ⟨p, q, h1, h2, rfl⟩ := h
    refine ⟨p, q, ?_, ?_, rfl⟩
    · exact WideElems.Trod_stays laidOut (ht t (by simp)).1 (ht t (by simp)).2 h1 (fun x hx => hb.same (hlt x (by simp [hx]))) (fun x hx => hsp x (by simp [hx]))
    · exact trodAll_stays hb (fun t' h' => ht t' (by simp [h'])) h2 (fun x hx => hlt x (by simp [hx])) (fun x hx => hsp x (by simp [hx]))

theorem law_post {f : Func} {s : ChangeSpec} {W W' : World} {args : Array Value} {ds gs : List (DataW H)} {before : List MemPlace} {tb : TypeId}
    (hvars : s.vars = []) (hfn : s.fn H (ds ++ gs) = { results := [.lit (.bool true)], args := ds }) (hrt : f.resultTypes = #[tb]) (htb : Tryz.prog.underlying tb = some .bool)
    (hts : ∀ t, t ∈ f.params.toList → Tryz.prog.readableRec t = true ∧ t < Tryz.prog.types.size)
    (hW : DataW.Whole enc Tryz.prog f.params.toList s.vars false W args.toList ds gs before) (hb : Below W.heap.size W W') :
    s.post enc Tryz.prog f false true false false W args (.bool true) W' := by
  have hlt : ∀ p ∈ before, p.block < W.heap.size := fun p hp => hW.lt p hp
  have hold : ∀ p ∈ before, (fun b => decide (b < W.heap.size)) p.block = true := fun p hp => by simpa using hlt p hp
  have hW' := hW
  obtain ⟨p, q, hA, hV, rfl, hz, _⟩ := hW
  rw [hvars] at hV
  obtain ⟨rfl, rfl⟩ := trodVars_none hV
  simp only [List.append_nil] at *
  refine ⟨ds, [], p, [], p, [], by simpa using hW', ?_, ?_, ?_, World.keptBut_mono (fun x hx => ⟨hx, ?_⟩) (hb.frame (· ∈ p)), fun h => by cases h⟩
  · rw [List.append_nil, hfn, hrt]
    exact trodAll_mk1 (shut_bool htb true)
  · rw [List.append_nil, hfn]
    exact trodAll_stays hb hts hA hlt hold
  · rw [hvars, List.append_nil, hfn]
    exact rfl
  · exact Or.inr (Or.inl hx)

end

end Go.Proofs.YtbhildmalcfhiaaGreatDoor

namespace Go.Proofs.YtbhildmalcfhiaaGreatDoor
open Go.RowKit Go.ChangeShapes Go.WideShapes Go.ChangeAt Go.Deep

theorem maxLen_at {W : World} (h : W.ShapedOpen Tryz.prog) : ∃ m, W.cell? ⟨2, 0, none⟩ = some (.int .i64 m) := (Tryz.laysM143).s1_3 W h
theorem max_of {W : World} (h : ∃ m, W.cell? ⟨2, 0, none⟩ = some (.int .i64 m)) : MaxT W.heap.size W := by
  obtain ⟨m, hm⟩ := h
  exact ⟨World.block_lt_of_cell? _ _ hm, m, hm⟩
set_option maxRecDepth 100000 in
theorem shipLinks_calls (H : Type) (enc : TypeId × Value → H) (W : World) (base : Nat) (args : Array Value) (ds gs : List (DataW H)) (before : List MemPlace)
    (hval : ∀ (j : Nat) t v, Tryz.f3.params[j]? = some t → args[j]? = some v → Value.okWide Tryz.prog W .any base t v)
    (hW : DataW.Whole enc Tryz.prog Tryz.f3.params.toList Rows.shipLinksSpec.vars false W args.toList ds gs before) (hsh : W.ShapedOpen Tryz.checked.prog) :
    Calls Tryz.prog 3 args W fun e W' => ∃ v, e = .returned v ∧ Rows.shipLinksSpec.post enc Tryz.prog Tryz.f3 false true false false W args v W' := by
  have hW' := hW
  obtain ⟨p, q, hA0, hV, rfl, hfz, hnd⟩ := hW
  have hA : DataW.TrodAll enc Tryz.prog W 0 (fun _ => true) true Tryz.f3.params.toList args.toList ds p := hA0
  rw [Tryz.params3] at hA hval
  obtain ⟨v0, v1, d0, d1, p0, p1, rfl, rfl, rfl, h0, h1⟩ := trodAll_two hA
  obtain ⟨rfl, rfl⟩ := trodVars_none hV
  obtain ⟨fu0, g0⟩ := h0
  obtain ⟨u0, l0, e0, n0⟩ := open_outs _ _ _ g0
  obtain ⟨a0, len0, cap0, rfl⟩ := okWide_slice Tryz.underlying22 (hval 0 22 v0 rfl rfl)
  simp only [Value.cells, List.cons.injEq, and_true] at e0
  subst e0
  obtain ⟨s1, rfl, hd1, _, hs1⟩ := Go.ChangeMaps.open_string Tryz.underlying9 (hval 1 9 v1 rfl rfl) h1
  refine (shipLinks_walk l0 _ s1 W n0 (max_of (maxLen_at hsh))).mono fun e W' ⟨he, hb⟩ => ?_
  subst he
  refine ⟨_, rfl, law_post rfl rfl (tb := 4) (by kernel_rfl) Tryz.underlying4 ?_ hW' hb⟩
  rw [Tryz.params3]
  intro t ht
  simp only [List.mem_cons, List.not_mem_nil, or_false] at ht
  rcases ht with rfl | rfl
  · exact ⟨by kernel_rfl, of_decide_eq_true (by kernel_rfl)⟩
  · exact ⟨by kernel_rfl, of_decide_eq_true (by kernel_rfl)⟩

set_option maxRecDepth 100000 in
theorem shipLinks_met (os : Os) : laidMet Tryz.prog Rows.shipLinksRow.laid ((World.laidAll Tryz.prog os Rows.shipLinksRow.laid).forCall (fun _ _ => 0) ⟨#[], #[.slice none 0 0, .string ⟨#[]⟩], []⟩).memory :=
  laidMet_laidAll _ (by kernel_rfl) (by kernel_rfl)

theorem shipLinks_reads (os : Os) {H : Type} (enc : TypeId × Value → H) : ∃ places, DataW.whole enc Tryz.prog ((World.laidAll Tryz.prog os Rows.shipLinksRow.laid).forCall (fun _ _ => 0) ⟨#[], #[.slice none 0 0, .string ⟨#[]⟩], []⟩).memory Tryz.f3.params.toList Rows.shipLinksSpec.vars false (#[(.slice none 0 0 : Value), (.string ⟨#[]⟩ : Value)] : Array Value).toList 8 = some ([.nil, .lit (.string [])], [], places) :=
  ⟨[], by kernel_rfl⟩

set_option maxRecDepth 100000 in
theorem shipLinks_lifted (os : Os) (started : os.Started) (H : Type) (enc : TypeId × Value → H) (F : Stop.Interp) :
    ReturnsInHanded {} Tryz.checked os 3 .any ((OpenSpec.ofChange Rows.shipLinksSpec).preRow enc Tryz.prog Tryz.f3 Rows.shipLinksRow.domain false Rows.shipLinksRow.laid) (((OpenSpec.ofChange Rows.shipLinksSpec).at F).post enc Tryz.prog Tryz.f3 false true false false) := by
  obtain ⟨places, hx⟩ := shipLinks_reads os enc
  refine returnsInHanded_of_row (C := Tryz.checked) (s := (OpenSpec.ofChange Rows.shipLinksSpec)) own started (by kernel_rfl) Tryz.func3
    (witness_row_at (enc := enc) (C := Tryz.checked) false (World.laidAll Tryz.prog os Rows.shipLinksRow.laid) #[.slice none 0 0, .string ⟨#[]⟩] (World.laidAll_os _ _ _) (by kernel_rfl) (by kernel_rfl) (by kernel_rfl)
      (OpenSpec.preRow_of_cond 8 hx (by kernel_rfl) (fun k hk => by cases hk) (by kernel_rfl) (shipLinks_met os))) ?_
  intro W base args ds gs before hval hW _ hk _ hL hsh _
  exact shipLinks_calls H enc W base args ds gs before hval hW hsh

theorem shipLinks_said : Rows.ShipLinksSaid :=
  OpenClaim.holds_of_cond 3 Tryz.f3 rfl rfl rfl rfl rfl rfl rfl ⟨rfl, rfl, rfl, rfl, rfl⟩ rfl rfl rfl rfl rfl (by kernel_rfl) Tryz.func3 (by kernel_rfl)
    (of_decide_eq_true (by kernel_rfl)) (by unfold Func.isWrapper; first | (rw [if_pos (by decide +kernel)]; kernel_rfl) | (rw [if_neg (by decide +kernel)]; exact ⟨rfl, rfl⟩))
    (fun os started H enc _ F => by rw [OpenClaim.pre_eq_preRow]; exact shipLinks_lifted os started H enc F)

theorem shipLinks_plain (f : FuncId) (fn : Func) (hf : Tryz.pinned.checked.prog.funcNamed "masthead/mastlaw1.ShipLinks" = some f) (hfn : Tryz.pinned.checked.prog.funcs[f]? = some fn) :
    true = Tryz.pinned.checked.prog.looks [] ∧ ∀ (j : Nat) t, fn.params[j]? = some t → Tryz.pinned.checked.prog.wantsStandIn t = false := by
  obtain rfl : f = 3 := Option.some.inj ((show Tryz.prog.funcNamed "masthead/mastlaw1.ShipLinks" = some 3 by kernel_rfl).symm.trans hf) |>.symm
  obtain rfl : fn = Tryz.f3 := (Option.some.inj (Tryz.func3.symm.trans hfn)).symm
  refine ⟨by kernel_rfl, fun j t ht => ?_⟩
  rw [Tryz.params3] at ht
  have h2 := Array.mem_of_getElem? ht
  simp at h2
  rcases h2 with rfl | rfl
  · exact (show Tryz.prog.wantsStandIn 22 = false by kernel_rfl)
  · exact (show Tryz.prog.wantsStandIn 9 = false by kernel_rfl)

theorem shipLinks_card : Rows.ShipLinksCardSaid :=
  Claim7.holds_tied_plain_at .later [] _ _ _ _ shipLinks_said (fun _ h => by cases h) (by kernel_rfl) (fun _ h => by cases h) shipLinks_row_tie rfl ⟨rfl, rfl⟩ (by kernel_rfl) rfl shipLinks_plain (by kernel_rfl)

end Go.Proofs.YtbhildmalcfhiaaGreatDoor
