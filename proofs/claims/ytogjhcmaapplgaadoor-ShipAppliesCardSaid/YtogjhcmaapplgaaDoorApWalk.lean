/-
  ship.Apply.
-/
import Derived.Test.YtogjhcmaapplgaaDoorApSort
namespace Go.Proofs.YtogjhcmaapplgaaDoor
open Go.RowKit Go.Deep

def ApPost (N : Nat) (l F : List OutV) (rm : Bool) (w : World) (e : Ending) (w' : World) : Prop :=
  ∃ v, e = .returned (.tuple #[v, .int .i64 (apE l F rm)]) ∧ w'.ownsRow N 30 2 v (apV l F rm).length (outsC (apV l F rm)) ∧ Below N w w'
theorem ApPost.err {N : Nat} {l F : List OutV} {rm : Bool} {w w' : World} {v : Int} (h : apE l F rm = v) (hv : ¬ v = 0) (hb : Below N w w') : ApPost N l F rm w (.returned (.tuple #[.slice none 0 0, .int .i64 v])) w' := by
  have e0 : apV l F rm = [] := by rw [apV, if_neg (by rw [h]; exact hv)]
  exact ⟨_, by rw [h], by rw [e0]; exact World.ownsRow_nil _ _ _ _, hb⟩
theorem ApPost.ok {N : Nat} {l F : List OutV} {rm : Bool} {w w' : World} {v : Value} {n : Nat} (h : apE l F rm = 0) (hn : n = (apR l F rm).length) (ho : w'.ownsRow N 30 2 v n (outsC (apR l F rm))) (hb : Below N w w') : ApPost N l F rm w (.returned (.tuple #[v, .int .i64 0])) w' := by
  have e0 : apV l F rm = apR l F rm := by rw [apV, if_pos h]
  exact ⟨_, by rw [h], by rw [e0, ← hn]; exact ho, hb⟩

def SortNPost (N n : Nat) (v : Value) (L : List OutV) (w : World) (e : Ending) (w' : World) : Prop :=
  e = .returned (.tuple #[]) ∧ ∃ L' : List OutV, L'.Perm L ∧ L'.Pairwise (fun x y => ¬ pathL y < pathL x) ∧ L'.length = n ∧ w'.ownsRow N 30 2 v n (outsC L') ∧ w.grownBy w' v.ownBlock
theorem sortSlice_n (N Bs n : Nat) (v : Value) (L : List OutV) (w : World) (hn : L.length = n) (h : w.ownsRow N 30 2 v n (outsC L)) (hl : n ≤ 1048576) (hB : w.cell? ⟨Bs, 0, none⟩ = some v) (hne : v.ownBlock ≠ some Bs) :
    Calls Tryd.prog 9 #[.iface 22 v, .func (.func 10) #[] #[.pointer (some ⟨Bs, 0, none⟩)]] w (SortNPost N n v L w) := by
  subst hn
  exact (sortSlice_q N Bs v L w h hl hB hne).mono fun e w' ⟨h1, L', h2, h3, h4, h5⟩ => ⟨h1, L', h2, h3, h2.length_eq, h4, h5⟩
theorem outs_own_n {w : World} {B n : Nat} {v : Value} {L : List OutV} (hn : L.length = n) (h : w.ownsRow B 30 2 v n (outsC L)) : OutsAt w v L := by
  subst hn
  exact outs_own h
theorem two_str (x y : ByteArray) : ∀ u ∈ [Value.string x, Value.string y], u.oneCell' = true := by
  intro u hu
  simp only [List.mem_cons, List.not_mem_nil, or_false] at hu
  rcases hu with rfl | rfl <;> rfl
/-- what is stored or deleted, of the first j -/
def stepF (l F : List OutV) (rm : Bool) (j : Nat) : List UInt8 → Option (List UInt8) := if rm then delAll (bodyP l) (F.take j) else putAll (bodyP l) (F.take j)
theorem perm_members {L M : List OutV} (h1 : Parted L) (h2 : Parted M) (h : ∀ x, x ∈ L ↔ x ∈ M) : L.Perm M :=
  (List.perm_ext_iff_of_nodup (h1.imp (fun {a b} hab e => hab (by rw [e]))) (h2.imp (fun {a b} hab e => hab (by rw [e])))).2 h
theorem part_ne {F : List OutV} (h : Parted F) {i j : Nat} {x y : OutV} (hi : F[i]? = some x) (hj : F[j]? = some y) (hij : i < j) : pathL x ≠ pathL y := by
  obtain ⟨h1, rfl⟩ := List.getElem?_eq_some_iff.1 hi
  obtain ⟨h2, rfl⟩ := List.getElem?_eq_some_iff.1 hj
  exact List.pairwise_iff_getElem.1 h i j h1 h2 hij
/-- the map still holds what it held at a path that is to come -/
theorem del_at {l F : List OutV} (h : Parted F) {j : Nat} {x : OutV} (hx : F[j]? = some x) : delAll (bodyP l) (F.take j) x.path.data.toList = bodyP l x.path.data.toList := by
  rw [delAll_eq, if_neg]
  intro he
  obtain ⟨y, hy, hy2⟩ := List.any_eq_true.1 he
  obtain ⟨i, hi⟩ := List.mem_iff_getElem?.1 hy
  rw [List.getElem?_take] at hi
  split at hi
  · rename_i hij
    exact part_ne h hi hx hij (eq_of_beq hy2)
  · cases hi
theorem mapF_fun {l : List OutV} (h : Parted l) : mapF l = bodyP l := funext (mapF_eq h)
theorem apE_l {l F : List OutV} {rm : Bool} {v : Int} (h : outsE l = v) (hv : ¬ v = 0) : apE l F rm = v := by rw [apE, if_pos (by rw [h]; exact hv), h]
theorem apE_F {l F : List OutV} {rm : Bool} {v : Int} (h : outsE l = 0) (h2 : outsE F = v) (hv : ¬ v = 0) : apE l F rm = v := by rw [apE, if_neg (by rw [h]; simp), if_pos (by rw [h2]; exact hv), h2]
theorem apE_form {l F : List OutV} (h : outsE l = 0) (h2 : outsE F = 0) (hf : formB F = true) : apE l F true = 1 := by rw [apE, if_neg (by rw [h]; simp), if_neg (by rw [h2]; simp), if_pos ⟨rfl, hf⟩]
theorem apE_none {l F : List OutV} (h : outsE l = 0) (h2 : outsE F = 0) (hf : formB F = false) (hn : noneB l F = true) : apE l F true = 7 := by rw [apE, if_neg (by rw [h]; simp), if_neg (by rw [h2]; simp), if_neg (by rw [hf]; simp), if_pos ⟨rfl, hn⟩]
theorem apE_del {l F : List OutV} (h : outsE l = 0) (h2 : outsE F = 0) (hf : formB F = false) (hn : noneB l F = false) : apE l F true = outsE (apR l F true) := by rw [apE, if_neg (by rw [h]; simp), if_neg (by rw [h2]; simp), if_neg (by rw [hf]; simp), if_neg (by rw [hn]; simp)]
theorem apE_put {l F : List OutV} (h : outsE l = 0) (h2 : outsE F = 0) : apE l F false = outsE (apR l F false) := by rw [apE, if_neg (by rw [h]; simp), if_neg (by rw [h2]; simp), if_neg (by simp), if_neg (by simp)]
theorem formB_of {F : List OutV} {j : Nat} {x : OutV} (hx : F[j]? = some x) (hb : ¬ x.body.toList = []) : formB F = true := by
  rw [Go.ByteArray.toList_eq] at hb
  exact List.any_eq_true.2 ⟨x, List.mem_of_getElem? hx, by simpa using hb⟩
theorem formB_no {F : List OutV} (h : ∀ (i : Nat) (x : OutV), F[i]? = some x → x.body.toList = []) : formB F = false := by
  rw [formB, List.any_eq_false]
  intro x hx
  obtain ⟨i, hi⟩ := List.mem_iff_getElem?.1 hx
  have := h i x hi
  rw [Go.ByteArray.toList_eq] at this
  simp [this]
theorem noneB_of {l F : List OutV} {j : Nat} {x : OutV} (hx : F[j]? = some x) (hb : bodyP l x.path.data.toList = none) : noneB l F = true := by
  refine List.any_eq_true.2 ⟨x, List.mem_of_getElem? hx, ?_⟩
  rw [outAt_body] at hb
  cases h : outAtN l (pathL x) with
  | none => rfl
  | some i =>
    rw [show outAtN l x.path.data.toList = some i from h] at hb
    rw [outAtN, List.findIdx?_eq_some_iff_getElem] at h
    obtain ⟨h1, _⟩ := h
    simp only [List.getElem?_eq_getElem h1] at hb
    cases hb
theorem noneB_no {l F : List OutV} (h : ∀ (i : Nat) (x : OutV), F[i]? = some x → bodyP l x.path.data.toList ≠ none) : noneB l F = false := by
  rw [noneB, List.any_eq_false]
  intro x hx hn
  obtain ⟨i, hi⟩ := List.mem_iff_getElem?.1 hx
  refine h i x hi ?_
  rw [outAt_body]
  rw [Option.isNone_iff_eq_none] at hn
  rw [show outAtN l x.path.data.toList = none from hn]

set_option maxRecDepth 100000 in
set_option maxHeartbeats 8000000 in
theorem apply_q (l F : List OutV) (vl vF : Value) (rm : Bool) (w : World) (hl : OutsAt w vl l) (hF : OutsAt w vF F) (hm : MaxAt w) : Calls Tryd.prog 4 #[vl, .agg #[.bool rm, vF]] w (ApPost w.heap.size l F rm w) := by
  have HL := Lib.hid hl
  have HF := Lib.hid hF
  have HMx := Lib.hid hm; clear hm
  obtain ⟨e1, he1⟩ : ∃ e, outsE l = e := ⟨_, rfl⟩
  obtain ⟨e2, he2⟩ : ∃ e, outsE F = e := ⟨_, rfl⟩
  have HE1 := Lib.hid he1
  have HE2 := Lib.hid he2
  obtain ⟨N, hN⟩ : ∃ N, w.heap.size = N := ⟨_, rfl⟩
  have HN := Lib.hid hN
  rw [hN]
  obtain ⟨A1, c1, b1, o1, rfl, hlc1, hc1, hA1, hcell1⟩ := hl
  obtain ⟨A2, c2, b2, o2, rfl, hlc2, hc2, hA2, hcell2⟩ := hF
  have HC2 := Lib.hid hcell2
  have HA2 := Lib.hid hA2
  have HX0 := Lib.hid (CB.new w #[.bool rm, .slice A2 F.length c2] 24)
  have HB0 := Lib.hid (show Below N w (w.alloc (.cells #[.bool rm, .slice A2 F.length c2] 24)) from (Below.refl _ _).alloc (by omega) _)
  unfold maxLen at hc1 hc2
  by_cases h1 : e1 = 0
  case neg =>
    have HEv := Lib.hid (apE_l (F := F) (rm := rm) he1 h1)
    have h1b : (e1 != 0) = true := by simpa using h1
    have h1c : (e1 == 0) = false := by simpa using h1
    clear he1 he2 hN hcell1 hcell2 hA1 hA2
    go_enter Tryd.func4, Tryd.ntmps4
    go_wp2_with fail
    refine (checkOuts_q l _ e1 _ (HL.out.keep (Keeps.alloc _ _)) (HMx.out.keep (Keeps.alloc _ _)) HE1.out).mono ?_
    rintro e w1 ⟨rfl, hb1⟩
    have B1 := Lib.hid (HB0.out.trans (hb1.mono (by have := HN.out; simp; omega))); clear hb1
    go_wp2_with fail
    go_ret2
    exact ApPost.err HEv.out h1 B1.out
  subst h1
  by_cases h2 : e2 = 0
  case neg =>
    have HEv := Lib.hid (apE_F (rm := rm) he1 he2 h2)
    have h2b : (e2 != 0) = true := by simpa using h2
    have h2c : (e2 == 0) = false := by simpa using h2
    clear he1 he2 hN hcell1 hcell2 hA1 hA2
    go_enter Tryd.func4, Tryd.ntmps4
    go_wp2_with fail
    refine (checkOuts_q l _ 0 _ (HL.out.keep (Keeps.alloc _ _)) (HMx.out.keep (Keeps.alloc _ _)) HE1.out).mono ?_
    rintro e w1 ⟨rfl, hb1⟩
    have X1 := Lib.hid (HX0.out.below hb1)
    have bx0 := X1.out.c 0
    have bx1 := X1.out.c 1
    have B1 := Lib.hid (HB0.out.trans (hb1.mono (by have := HN.out; simp; omega))); clear hb1
    go_wp2_with fail
    refine (checkOuts_q F _ e2 _ (HF.out.keep (Keeps.of_below (by rw [HN.out]; exact B1.out))) (HMx.out.keep (Keeps.of_below (by rw [HN.out]; exact B1.out))) HE2.out).mono ?_
    rintro e w2 ⟨rfl, hb2⟩
    have B2 := Lib.hid (B1.out.trans (hb2.mono (by have := B1.out.size; have := HN.out; omega))); clear hb2
    go_wp2_with fail
    go_ret2
    exact ApPost.err HEv.out h2 B2.out
  subst h2
  have hla := outsE_len he1
  have hlb := outsE_len he2
  have HPl := Lib.hid (parted_of he1)
  have HPF := Lib.hid (parted_of he2)
  have HZl := Lib.hid (show ∀ x ∈ l, x.path.size ≤ 1048576 ∧ x.body.size ≤ 1048576 from fun x hx => ⟨path_le (outs_paths he1 x hx), by have := outs_body he1 x hx; omega⟩)
  have HZF := Lib.hid (show ∀ x ∈ F, x.path.size ≤ 1048576 ∧ x.body.size ≤ 1048576 from fun x hx => ⟨path_le (outs_paths he2 x hx), by have := outs_body he2 x hx; omega⟩)
  clear he1 he2 hcell1 hcell2 hA1 hA2 hN
  cases rm
  case false =>
    go_enter Tryd.func4, Tryd.ntmps4
    go_wp2_with fail
    refine (checkOuts_q l _ 0 _ (HL.out.keep (Keeps.alloc _ _)) (HMx.out.keep (Keeps.alloc _ _)) HE1.out).mono ?_
    rintro e w1 ⟨rfl, hb1⟩
    have X1 := Lib.hid (HX0.out.below hb1)
    have bx0 := X1.out.c 0
    have bx1 := X1.out.c 1
    have B1 := Lib.hid (HB0.out.trans (hb1.mono (by have := HN.out; simp; omega))); clear hb1
    go_wp2_with fail
    refine (checkOuts_q F _ 0 _ (HF.out.keep (Keeps.of_below (by rw [HN.out]; exact B1.out))) (HMx.out.keep (Keeps.of_below (by rw [HN.out]; exact B1.out))) HE2.out).mono ?_
    rintro e w2 ⟨rfl, hb2⟩
    have X2 := Lib.hid (X1.out.below hb2)
    have B2 := Lib.hid (B1.out.trans (hb2.mono (by have := B1.out.size; have := HN.out; omega))); clear hb2 bx0 bx1 X1
    go_wp2_with fail
    refine (bodies_q l _ _ (HL.out.keep (Keeps.of_below (by rw [HN.out]; exact B2.out))) HZl.out).mono ?_
    rintro e w3 ⟨bm, rfl, hm3, hg3, hb3⟩
    have X3 := Lib.hid (X2.out.below hb3)
    have bx0 := X3.out.c 0
    have bx1 := X3.out.c 1
    have G3 := Lib.hid (show N < bm by have := X2.out.lt; have := HN.out; omega)
    have B3 := Lib.hid (B2.out.trans (hb3.mono (by have := B2.out.size; have := HN.out; omega)))
    have M3 := Lib.hid (show SMap Tryd.prog 9 9 w3 bm l.length (bodyP l) by rw [← mapF_fun HPl.out]; exact hm3)
    clear hb3 hg3 hm3 X2
    go_wp2_with fail
    go_loopw [48] (fun t48 wr => ∃ j : Nat, j ≤ F.length ∧ t48 = .int .i64 j ∧ Hid (SMap Tryd.prog 9 9 wr bm (l.length + j) (putAll (bodyP l) (F.take j))) ∧ Hid (CB wr w.heap.size 24 #[.bool false, .slice A2 F.length c2]) ∧ Hid (Below N w wr) ) (fun t _ => F.length - (intOf t).toNat)
    case atStart => exact ⟨0, Nat.zero_le _, rfl, M3, X3, B3⟩
    case round =>
      clear bx0 bx1 M3 X3
      obtain ⟨j, hj, rfl, HM, HX, HB⟩ := hrel
      have bx0 := HX.out.c 0
      have bx1 := HX.out.c 1
      have hNl := HX.out.lt
      have hNw : N ≤ wr.heap.size := by have := HB.out.size; have := HN.out; omega
      by_cases hlt : j < F.length
      · obtain ⟨x, hx⟩ : ∃ x, F[j]? = some x := ⟨_, List.getElem?_eq_getElem hlt⟩
        obtain rfl : A2 = some ⟨b2, o2, none⟩ := HA2.out (by intro h0; rw [h0] at hlt; simp at hlt)
        have kc := (HC2.out j x hx).keep (Keeps.of_below (by rw [HN.out]; exact HB.out))
        have k0 := kc.c0
        have k1 := kc.c1
        have HXx := Lib.hid hx
        have HZ1 := Lib.hid (HZF.out x (List.mem_of_getElem? hx))
        have HS := Lib.hid (putAll_take (f := bodyP l) hx)
        clear hx kc
        go_wp2_with (at_mapUpdate; go_must (refine wpList_storeR rfl _ _ _ 33 rfl Tryd.underlying9 Tryd.underlying33 (HM.out.alloc _) (by unfold maxLen; omega) rfl x.path (by have := HZ1.out; unfold maxLen; omega) _ x.body.data.toList rfl rfl (plainElem_string Tryd.underlying9 (by have := HZ1.out; unfold maxLen; omega)) ?_); intro w4 hm4 ht4; have HM4 := Lib.hid hm4; have HT4 := Lib.hid ht4; clear hm4 ht4)
        go_roundw
        case rel =>
          refine ⟨j + 1, by omega, by go_num, by rw [HS.out]; exact HM4.out, ?_, ?_⟩
          · exact (HX.out.alloc _).other HT4.out.grown (by have := G3.out; have := HN.out; intro e9; have := Option.some.inj e9; omega)
          · exact (HB.out.alloc hNw _).trans (turned_below HT4.out (by have := G3.out; omega) (by rw [World.size_alloc]; omega))
        case measure => simp [intOf]; omega
      · obtain rfl : j = F.length := by omega
        have HEr := Lib.hid (apE_put HE1.out HE2.out)
        have HMem := Lib.hid (fun x => put_members HPl.out HPF.out x)
        obtain ⟨g, hg⟩ : ∃ g, putAll (bodyP l) F = g := ⟨_, rfl⟩
        rw [List.take_length, hg] at HM
        rw [hg] at HMem
        have HPm := Lib.hid (apM_parted (rm := false) HPl.out HPF.out)
        obtain ⟨M, hM⟩ : ∃ M, l.length + F.length = M := ⟨_, rfl⟩
        rw [hM] at HM
        have hM9 : M ≤ 960 := by omega
        clear hg hM bx0 bx1 HX
        have HUq := Lib.hid (fun (U : List OutV) (hp : U.Perm (apM l F false)) hs => apR_unique (rm := false) HPl.out HPF.out hp hs)
        have HMr := Lib.hid (HMx.out.keep (Keeps.of_below (by rw [HN.out]; exact HB.out)))
        obtain ⟨rr, hrr⟩ : ∃ r, apR l F false = r := ⟨_, rfl⟩
        obtain ⟨mm, hmm⟩ : ∃ m, apM l F false = m := ⟨_, rfl⟩
        rw [hrr] at HUq HEr
        rw [hmm] at HUq HMem HPm
        have HRr := Lib.hid hrr
        clear hrr hmm
        obtain ⟨wz, rfl⟩ : ∃ z, z = wr := ⟨_, rfl⟩
        obtain ⟨K, hK⟩ : ∃ K, wz.heap.size = K := ⟨_, rfl⟩
        have HK := Lib.hid hK
        have hbmK : bm < wz.heap.size := HM.out.lt
        have HX15 := Lib.hid (CB.new wz #[.slice none 0 0] 22)
        have HBa := Lib.hid (show Below N w (wz.alloc (.cells #[.slice none 0 0] 22)) from HB.out.alloc (by omega) _)
        have HMa := Lib.hid (show SMap Tryd.prog 9 9 (wz.alloc (.cells #[.slice none 0 0] 22)) bm M g from HM.out.alloc _)
        clear hK HM
        go_wp2_with (at_range; go_must (refine wpList_rangeS rfl _ 33 rfl Tryd.underlying9 Tryd.underlying33 rfl HMa.out ?_); intro w5 cnt0 hrg0 hcnt hg0 hs0)
        rw [World.size_alloc] at hrg0 hs0
        have HRg0 := Lib.hid hrg0
        have HX5 := Lib.hid (HX15.out.other hg0 (by simp))
        have HB5 := Lib.hid (HBa.out.grown hg0 (by rw [World.size_alloc]; omega) (fun j hj => by cases hj))
        have HS5 := Lib.hid (show wz.heap.size + 2 ≤ w5.heap.size by omega)
        clear hrg0 hg0 hs0 HX15 HBa HMa
        try rw [World.size_alloc]
        go_frame
        go_loopw [16] (fun _ wv => ∃ (L : List OutV) (left : List UInt8 → Bool) (cnt n c : Nat) (A : Option Addr), n + cnt ≤ 960 ∧ Hid (L.length = n) ∧ Hid (RngS Tryd.prog 9 9 wv bm (wz.heap.size + 1) M g left cnt) ∧ Hid (Coll g left L) ∧ Hid (wv.ownsRow (wz.heap.size + 2) 30 2 (.slice A n c) n (outsC L)) ∧ Hid (CB wv wz.heap.size 22 #[.slice A n c]) ∧ Hid (Below N w wv) ∧ Hid (wz.heap.size + 2 ≤ wv.heap.size)) (fun _ wv => wv.rangeLeft bm (wz.heap.size + 1))
        case atStart => exact ⟨[], _, cnt0, 0, 0, none, by omega, rfl, HRg0, Coll.start g, World.ownsRow_nil _ _ _ _, HX5, HB5, HS5⟩
        case round =>
          clear HRg0 HX5 HB5 HS5 hcnt
          obtain ⟨L, left, cnt, n, c, A, hnc, HLn, HRg, HCo, HOw, HCb, HBw, HSz⟩ := hrel
          have HOge := Lib.hid (own_block_ge HOw.out)
          go_wp2_with (at_next; go_must (refine wpList_nextS rfl _ rfl Tryd.underlying9 Tryd.underlying9 (wz.heap.size + 1) cnt left rfl HRg.out ?_ ?_))
          · intro hc0 hl0
            have bs0 := HCb.out.c 0
            have HLp := Lib.hid (perm_members HCo.out.one HPm.out (fun x => (HCo.out.done hl0 x).trans (HMem.out x)))
            have hne : (Value.slice A n c).ownBlock ≠ some wz.heap.size := fun e9 => by have := HOge.out _ e9; omega
            have HNe := Lib.hid hne
            have hsz := HSz.out
            obtain ⟨e3, he3⟩ : ∃ e, outsE rr = e := ⟨_, rfl⟩
            have HE3 := Lib.hid he3
            clear hl0 hc0 he3 hne
            go_wp2_with fail
            refine (sortSlice_n (wz.heap.size + 2) wz.heap.size n (.slice A n c) L _ HLn.out HOw.out (by omega) (HCb.out.c 0) HNe.out).mono ?_
            rintro e w6 ⟨rfl, L', hp6, hs6, hn6, own6, hg6⟩
            obtain rfl : L' = rr := HUq.out L' (hp6.trans HLp.out) hs6
            have HO6 := Lib.hid own6
            have HN6 := Lib.hid hn6
            have HB6 := Lib.hid (HBw.out.grown hg6 (by omega) (fun j hj => by have := HOge.out j hj; omega))
            have X6 := Lib.hid (HCb.out.other hg6 (fun e9 => HNe.out e9.symm))
            have bs6 := X6.out.c 0
            have HOo := Lib.hid (outs_own_n hn6 own6)
            clear own6 hn6 hg6 hs6 hp6
            have HMx6 := Lib.hid (HMx.out.keep (Keeps.of_below (by rw [HN.out]; exact HB6.out)))
            by_cases h3 : e3 = 0
            · subst h3
              go_wp2_with fail
              refine (checkOuts_q L' _ 0 _ HOo.out HMx6.out HE3.out).mono ?_
              rintro e w7 ⟨rfl, hb7⟩
              have bs7 := (X6.out.below hb7).c 0
              have HO7 := Lib.hid (own_keepB2 HO6.out hb7)
              have HB7 := Lib.hid (HB6.out.trans (hb7.mono (by have := HB6.out.size; have := HN.out; omega)))
              clear hb7
              go_wp2_with fail
              go_ret2
              exact ApPost.ok (v := .slice A n c) (n := n) (HEr.out.trans HE3.out) (HN6.out.symm.trans (by rw [HRr.out])) (by rw [HRr.out]; exact own_baseE HO7.out (by omega)) HB7.out
            · have HEv := Lib.hid (HEr.out.trans HE3.out)
              have h3b : (e3 != 0) = true := by simpa using h3
              have h3c : (e3 == 0) = false := by simpa using h3
              go_wp2_with fail
              refine (checkOuts_q L' _ e3 _ HOo.out HMx6.out HE3.out).mono ?_
              rintro e w7 ⟨rfl, hb7⟩
              have HB7 := Lib.hid (HB6.out.trans (hb7.mono (by have := HB6.out.size; have := HN.out; omega)))
              clear hb7
              go_wp2_with fail
              go_ret2
              exact ApPost.err HEv.out h3 HB7.out
          · intro x cb w6 cnt1 hx hlx hf hrg hlt hgr hs6 hen
            have HRg1 := Lib.hid hrg
            have HLt := Lib.hid hlt
            have hc9 : n + 1 + cnt1 ≤ 960 := by omega
            have HOw1 := Lib.hid (HOw.out.kept hgr (Or.inr (fun e9 => by have := HOge.out _ e9; omega)))
            have HCb1 := Lib.hid (HCb.out.other hgr (fun e9 => by have := Option.some.inj e9; omega))
            have bs1 := HCb1.out.c 0
            have HB1 := Lib.hid (HBw.out.grown hgr (by have := HSz.out; omega) (fun j hj => by have := Option.some.inj hj; omega))
            have HCo1 := Lib.hid (HCo.out.step hlx hf)
            have HSz1 := Lib.hid (show wz.heap.size + 2 ≤ w6.heap.size by have := HSz.out; omega)
            have hsz1 := HSz1.out
            clear hrg hlx hf hlt hgr hs6 hx HOw HCb HBw HCo
            go_wp2_with (at_builtin; go_loud (go_must (refine wpList_push _ rfl (.tmp 80) (.tmp 84) 22 rfl (wz.heap.size + 2) 30 _ 2 32 Tryd.underlying22 info_out rfl (by omega) (.slice A n c) n _ rfl (own_alloc HOw1.out _) [.string x, .string cb] rfl _ rfl (cell_new _ [.string x, .string cb] 30 _ rfl) (two_str x cb) (by omega) (by unfold maxLen; omega) (by simp; omega) ?_); intro g7 c7 w7 own7 hg7 hgg7 hb7; have HO7 := Lib.hid own7; have HG7 := Lib.hid hg7; have HRg7 := Lib.hid (((HRg1.out.alloc (.cells #[.string x, .string cb] 30)).kept hg7 (row_ne_low HOw1.out (by omega)) (row_ne_low HOw1.out (by omega)))); have HX7 := Lib.hid ((HCb1.out.alloc (.cells #[.string x, .string cb] 30)).other hg7 (row_ne_low HOw1.out (by omega))); have HB7 := Lib.hid ((HB1.out.alloc (by omega) (.cells #[.string x, .string cb] 30)).trans (hb7.mono (by omega))); have HSz7 := Lib.hid (show wz.heap.size + 2 ≤ w7.heap.size by have h9 := hb7.size; rw [World.size_alloc] at h9; omega); have bs7 := HX7.out.c 0; have bf7 := HX7.out.f 0; have sh7 := HX7.out.sh; clear own7 hg7 hgg7 hb7))
            go_roundw
            case rel =>
              have hg9 := (own_block_ge HO7.out) g7 rfl
              refine ⟨L ++ [⟨x, cb⟩], _, cnt1, n + 1, c7, some ⟨g7, 0, none⟩, hc9, by rw [List.length_append, HLn.out]; rfl, HRg7.out.kept (grown_setB _ _ _ _) (by intro e9; have := Option.some.inj e9; omega) (by intro e9; have := Option.some.inj e9; omega), HCo1, ?_, ?_, ?_, ?_⟩
              · rw [outsC_snoc]
                exact HO7.out.kept (grown_setB _ _ _ _) (Or.inr (fun e9 => by have e8 : g7 = wz.heap.size := Option.some.inj e9; omega))
              · exact HX7.out.put 0 _
              · exact HB7.out.setCell (by have := HN.out; omega) _
              · exact Nat.le_trans HSz7.out (grown_setB _ _ _ _).size
            case measure => rw [(HRg7.out.kept (grown_setB _ _ _ _) (by intro e9; have := Option.some.inj e9; omega) (by intro e9; have := Option.some.inj e9; omega)).left_eq, HRg.out.left_eq]; exact HLt.out
  case true =>
    go_enter Tryd.func4, Tryd.ntmps4
    go_wp2_with fail
    refine (checkOuts_q l _ 0 _ (HL.out.keep (Keeps.alloc _ _)) (HMx.out.keep (Keeps.alloc _ _)) HE1.out).mono ?_
    rintro e w1 ⟨rfl, hb1⟩
    have X1 := Lib.hid (HX0.out.below hb1)
    have bx0 := X1.out.c 0
    have bx1 := X1.out.c 1
    have B1 := Lib.hid (HB0.out.trans (hb1.mono (by have := HN.out; simp; omega))); clear hb1
    go_wp2_with fail
    refine (checkOuts_q F _ 0 _ (HF.out.keep (Keeps.of_below (by rw [HN.out]; exact B1.out))) (HMx.out.keep (Keeps.of_below (by rw [HN.out]; exact B1.out))) HE2.out).mono ?_
    rintro e w2 ⟨rfl, hb2⟩
    have X2 := Lib.hid (X1.out.below hb2)
    have B2 := Lib.hid (B1.out.trans (hb2.mono (by have := B1.out.size; have := HN.out; omega))); clear hb2 bx0 bx1 X1
    go_wp2_with fail
    refine (bodies_q l _ _ (HL.out.keep (Keeps.of_below (by rw [HN.out]; exact B2.out))) HZl.out).mono ?_
    rintro e w3 ⟨bm, rfl, hm3, hg3, hb3⟩
    have X3 := Lib.hid (X2.out.below hb3)
    have bx0 := X3.out.c 0
    have bx1 := X3.out.c 1
    have G3 := Lib.hid (show N < bm by have := X2.out.lt; have := HN.out; omega)
    have B3 := Lib.hid (B2.out.trans (hb3.mono (by have := B2.out.size; have := HN.out; omega)))
    have M3 := Lib.hid (show SMap Tryd.prog 9 9 w3 bm l.length (bodyP l) by rw [← mapF_fun HPl.out]; exact hm3)
    clear hb3 hg3 hm3 X2
    go_wp2_with fail
    go_loopw [37] (fun t37 wr => ∃ j : Nat, j ≤ F.length ∧ t37 = .int .i64 j ∧ Hid (∀ (i : Nat) (x : OutV), i < j → F[i]? = some x → x.body.toList = []) ∧ Hid (SMap Tryd.prog 9 9 wr bm l.length (bodyP l)) ∧ Hid (CB wr w.heap.size 24 #[.bool true, .slice A2 F.length c2]) ∧ Hid (Below N w wr)) (fun t _ => F.length - (intOf t).toNat)
    case atStart => exact ⟨0, Nat.zero_le _, rfl, fun i x hi => absurd hi (by omega), M3, X3, B3⟩
    case round =>
      clear bx0 bx1 M3 X3
      obtain ⟨j, hj, rfl, HFm, HM, HX, HB⟩ := hrel
      by_cases hlt : j < F.length
      · obtain ⟨x, hx⟩ : ∃ x, F[j]? = some x := ⟨_, List.getElem?_eq_getElem hlt⟩
        obtain rfl : A2 = some ⟨b2, o2, none⟩ := HA2.out (by intro h0; rw [h0] at hlt; simp at hlt)
        have kc := (HC2.out j x hx).keep (Keeps.of_below (by rw [HN.out]; exact HB.out))
        have k0 := kc.c0
        have k1 := kc.c1
        have HXx := Lib.hid hx
        have hNw : N ≤ wr.heap.size := by have := HB.out.size; have := HN.out; omega
        clear hx kc
        by_cases hbd : x.body.toList = []
        · have HBd := Lib.hid hbd
          have hbd2 : (x.body.toList == []) = true := by simpa using hbd
          have hbd3 : (x.body.toList != []) = false := by simpa using hbd
          go_wp2_with fail
          go_roundw
          case rel => exact ⟨j + 1, by omega, by go_num, fun i y hi hy => by
            rcases Nat.lt_or_ge i j with h9 | h9
            · exact HFm.out i y h9 hy
            · obtain rfl : i = j := by omega
              rw [HXx.out] at hy
              cases hy
              exact HBd.out, HM.out.alloc _, HX.out.alloc _, HB.out.alloc hNw _⟩
          case measure => simp [intOf]; omega
        · have HEv := Lib.hid (apE_form HE1.out HE2.out (formB_of HXx.out hbd))
          have hbd2 : (x.body.toList == []) = false := by simpa using hbd
          have hbd3 : (x.body.toList != []) = true := by simpa using hbd
          go_wp2_with fail
          go_ret2
          exact ApPost.err HEv.out (by decide) (HB.out.alloc hNw _)
      · obtain rfl : j = F.length := by omega
        have HFo := Lib.hid (formB_no (fun i x hx => HFm.out i x (List.getElem?_eq_some_iff.1 hx).1 hx))
        have bx0 := HX.out.c 0
        have bx1 := HX.out.c 1
        clear HFm
        go_wp2_with fail
        go_loopw [48] (fun t48 wr => ∃ j : Nat, j ≤ F.length ∧ t48 = .int .i64 j ∧ Hid (SMap Tryd.prog 9 9 wr bm l.length (delAll (bodyP l) (F.take j))) ∧ Hid (CB wr w.heap.size 24 #[.bool true, .slice A2 F.length c2]) ∧ Hid (Below N w wr) ∧ Hid (∀ (i : Nat) (x : OutV), i < j → F[i]? = some x → bodyP l x.path.data.toList ≠ none)) (fun t _ => F.length - (intOf t).toNat)
        case atStart => exact ⟨0, Nat.zero_le _, rfl, HM, HX, HB, fun i x hi => absurd hi (by omega)⟩
        case round =>
          clear bx0 bx1 HM HX
          obtain ⟨j, hj, rfl, HM, HX, HB, HNn⟩ := hrel
          have bx0 := HX.out.c 0
          have bx1 := HX.out.c 1
          have hNl := HX.out.lt
          have hNw : N ≤ wr.heap.size := by have := HB.out.size; have := HN.out; omega
          by_cases hlt : j < F.length
          · obtain ⟨x, hx⟩ : ∃ x, F[j]? = some x := ⟨_, List.getElem?_eq_getElem hlt⟩
            obtain rfl : A2 = some ⟨b2, o2, none⟩ := HA2.out (by intro h0; rw [h0] at hlt; simp at hlt)
            have kc := (HC2.out j x hx).keep (Keeps.of_below (by rw [HN.out]; exact HB.out))
            have k0 := kc.c0
            have k1 := kc.c1
            have HXx := Lib.hid hx
            have HZ1 := Lib.hid (HZF.out x (List.mem_of_getElem? hx))
            have HS := Lib.hid (delAll_take (f := bodyP l) hx)
            have HD := Lib.hid (del_at (l := l) HPF.out hx)
            have hx1m : x.path.size ≤ maxLen := by have := HZ1.out; unfold maxLen; omega
            clear hx kc
            cases hf : bodyP l x.path.data.toList with
            | none =>
              have HRun := Lib.hid (smap_none (HM.out.alloc (.cells #[.string x.path, .string x.body] 30)) Tryd.underlying9 Tryd.underlying9 Tryd.underlying33 hx1m (zero_str _) (HD.out.trans hf))
              have HEv := Lib.hid (apE_none HE1.out HE2.out HFo.out (noneB_of HXx.out hf))
              clear hf
              go_wp2_with (at_lookup; refine wpList_lookR rfl _ _ 33 true rfl x.path _ rfl rfl HRun.out ?_)
              go_ret2
              exact ApPost.err HEv.out (by decide) (HB.out.alloc hNw _)
            | some y =>
              have HRun := Lib.hid (smap_some (HM.out.alloc (.cells #[.string x.path, .string x.body] 30)) Tryd.underlying9 Tryd.underlying9 Tryd.underlying33 hx1m (zero_str _) (HD.out.trans hf))
              have HNo := Lib.hid (show bodyP l x.path.data.toList ≠ none by rw [hf]; simp)
              clear hf
              go_wp2_with (first | (at_lookup; refine wpList_lookR rfl _ _ 33 true rfl x.path _ rfl rfl HRun.out ?_) | (at_delete; go_must (refine wpList_dropR rfl _ _ 33 rfl Tryd.underlying9 Tryd.underlying33 (HM.out.alloc _) rfl x.path hx1m rfl ?_); intro w4 hm4 ht4; have HM4 := Lib.hid hm4; have HT4 := Lib.hid ht4; clear hm4 ht4))
              go_roundw
              case rel =>
                refine ⟨j + 1, by omega, by go_num, by rw [HS.out]; exact HM4.out, ?_, ?_, fun i y hi hy => ?_⟩
                · exact (HX.out.alloc _).other HT4.out.grown (by have := G3.out; have := HN.out; intro e9; have := Option.some.inj e9; omega)
                · exact (HB.out.alloc hNw _).trans (turned_below HT4.out (by have := G3.out; omega) (by rw [World.size_alloc]; omega))
                · rcases Nat.lt_or_ge i j with h9 | h9
                  · exact HNn.out i y h9 hy
                  · obtain rfl : i = j := by omega
                    rw [HXx.out] at hy
                    cases hy
                    exact HNo.out
              case measure => simp [intOf]; omega
          · obtain rfl : j = F.length := by omega
            have HNo := Lib.hid (noneB_no (fun i x hx => HNn.out i x (List.getElem?_eq_some_iff.1 hx).1 hx))
            have HEr := Lib.hid (apE_del HE1.out HE2.out HFo.out HNo.out)
            have HMem := Lib.hid (fun x => del_members (F := F) HPl.out x)
            clear HNn
            obtain ⟨g, hg⟩ : ∃ g, delAll (bodyP l) F = g := ⟨_, rfl⟩
            rw [List.take_length, hg] at HM
            rw [hg] at HMem
            have HPm := Lib.hid (apM_parted (rm := true) HPl.out HPF.out)
            obtain ⟨M, hM⟩ : ∃ M, l.length = M := ⟨_, rfl⟩
            rw [hM] at HM
            have hM9 : M ≤ 960 := by omega
            clear hg hM bx0 bx1 HX
            have HUq := Lib.hid (fun (U : List OutV) (hp : U.Perm (apM l F true)) hs => apR_unique (rm := true) HPl.out HPF.out hp hs)
            have HMr := Lib.hid (HMx.out.keep (Keeps.of_below (by rw [HN.out]; exact HB.out)))
            obtain ⟨rr, hrr⟩ : ∃ r, apR l F true = r := ⟨_, rfl⟩
            obtain ⟨mm, hmm⟩ : ∃ m, apM l F true = m := ⟨_, rfl⟩
            rw [hrr] at HUq HEr
            rw [hmm] at HUq HMem HPm
            have HRr := Lib.hid hrr
            clear hrr hmm
            obtain ⟨wz, rfl⟩ : ∃ z, z = wr := ⟨_, rfl⟩
            obtain ⟨K, hK⟩ : ∃ K, wz.heap.size = K := ⟨_, rfl⟩
            have HK := Lib.hid hK
            have hbmK : bm < wz.heap.size := HM.out.lt
            have HX15 := Lib.hid (CB.new wz #[.slice none 0 0] 22)
            have HBa := Lib.hid (show Below N w (wz.alloc (.cells #[.slice none 0 0] 22)) from HB.out.alloc (by omega) _)
            have HMa := Lib.hid (show SMap Tryd.prog 9 9 (wz.alloc (.cells #[.slice none 0 0] 22)) bm M g from HM.out.alloc _)
            clear hK HM
            go_wp2_with (at_range; go_must (refine wpList_rangeS rfl _ 33 rfl Tryd.underlying9 Tryd.underlying33 rfl HMa.out ?_); intro w5 cnt0 hrg0 hcnt hg0 hs0)
            rw [World.size_alloc] at hrg0 hs0
            have HRg0 := Lib.hid hrg0
            have HX5 := Lib.hid (HX15.out.other hg0 (by simp))
            have HB5 := Lib.hid (HBa.out.grown hg0 (by rw [World.size_alloc]; omega) (fun j hj => by cases hj))
            have HS5 := Lib.hid (show wz.heap.size + 2 ≤ w5.heap.size by omega)
            clear hrg0 hg0 hs0 HX15 HBa HMa
            try rw [World.size_alloc]
            go_frame
            go_loopw [16] (fun _ wv => ∃ (L : List OutV) (left : List UInt8 → Bool) (cnt n c : Nat) (A : Option Addr), n + cnt ≤ 960 ∧ Hid (L.length = n) ∧ Hid (RngS Tryd.prog 9 9 wv bm (wz.heap.size + 1) M g left cnt) ∧ Hid (Coll g left L) ∧ Hid (wv.ownsRow (wz.heap.size + 2) 30 2 (.slice A n c) n (outsC L)) ∧ Hid (CB wv wz.heap.size 22 #[.slice A n c]) ∧ Hid (Below N w wv) ∧ Hid (wz.heap.size + 2 ≤ wv.heap.size)) (fun _ wv => wv.rangeLeft bm (wz.heap.size + 1))
            case atStart => exact ⟨[], _, cnt0, 0, 0, none, by omega, rfl, HRg0, Coll.start g, World.ownsRow_nil _ _ _ _, HX5, HB5, HS5⟩
            case round =>
              clear HRg0 HX5 HB5 HS5 hcnt
              obtain ⟨L, left, cnt, n, c, A, hnc, HLn, HRg, HCo, HOw, HCb, HBw, HSz⟩ := hrel
              have HOge := Lib.hid (own_block_ge HOw.out)
              go_wp2_with (at_next; go_must (refine wpList_nextS rfl _ rfl Tryd.underlying9 Tryd.underlying9 (wz.heap.size + 1) cnt left rfl HRg.out ?_ ?_))
              · intro hc0 hl0
                have bs0 := HCb.out.c 0
                have HLp := Lib.hid (perm_members HCo.out.one HPm.out (fun x => (HCo.out.done hl0 x).trans (HMem.out x)))
                have hne : (Value.slice A n c).ownBlock ≠ some wz.heap.size := fun e9 => by have := HOge.out _ e9; omega
                have HNe := Lib.hid hne
                have hsz := HSz.out
                obtain ⟨e3, he3⟩ : ∃ e, outsE rr = e := ⟨_, rfl⟩
                have HE3 := Lib.hid he3
                clear hl0 hc0 he3 hne
                go_wp2_with fail
                refine (sortSlice_n (wz.heap.size + 2) wz.heap.size n (.slice A n c) L _ HLn.out HOw.out (by omega) (HCb.out.c 0) HNe.out).mono ?_
                rintro e w6 ⟨rfl, L', hp6, hs6, hn6, own6, hg6⟩
                obtain rfl : L' = rr := HUq.out L' (hp6.trans HLp.out) hs6
                have HO6 := Lib.hid own6
                have HN6 := Lib.hid hn6
                have HB6 := Lib.hid (HBw.out.grown hg6 (by omega) (fun j hj => by have := HOge.out j hj; omega))
                have X6 := Lib.hid (HCb.out.other hg6 (fun e9 => HNe.out e9.symm))
                have bs6 := X6.out.c 0
                have HOo := Lib.hid (outs_own_n hn6 own6)
                clear own6 hn6 hg6 hs6 hp6
                have HMx6 := Lib.hid (HMx.out.keep (Keeps.of_below (by rw [HN.out]; exact HB6.out)))
                by_cases h3 : e3 = 0
                · subst h3
                  go_wp2_with fail
                  refine (checkOuts_q L' _ 0 _ HOo.out HMx6.out HE3.out).mono ?_
                  rintro e w7 ⟨rfl, hb7⟩
                  have bs7 := (X6.out.below hb7).c 0
                  have HO7 := Lib.hid (own_keepB2 HO6.out hb7)
                  have HB7 := Lib.hid (HB6.out.trans (hb7.mono (by have := HB6.out.size; have := HN.out; omega)))
                  clear hb7
                  go_wp2_with fail
                  go_ret2
                  exact ApPost.ok (v := .slice A n c) (n := n) (HEr.out.trans HE3.out) (HN6.out.symm.trans (by rw [HRr.out])) (by rw [HRr.out]; exact own_baseE HO7.out (by omega)) HB7.out
                · have HEv := Lib.hid (HEr.out.trans HE3.out)
                  have h3b : (e3 != 0) = true := by simpa using h3
                  have h3c : (e3 == 0) = false := by simpa using h3
                  go_wp2_with fail
                  refine (checkOuts_q L' _ e3 _ HOo.out HMx6.out HE3.out).mono ?_
                  rintro e w7 ⟨rfl, hb7⟩
                  have HB7 := Lib.hid (HB6.out.trans (hb7.mono (by have := HB6.out.size; have := HN.out; omega)))
                  clear hb7
                  go_wp2_with fail
                  go_ret2
                  exact ApPost.err HEv.out h3 HB7.out
              · intro x cb w6 cnt1 hx hlx hf hrg hlt hgr hs6 hen
                have HRg1 := Lib.hid hrg
                have HLt := Lib.hid hlt
                have hc9 : n + 1 + cnt1 ≤ 960 := by omega
                have HOw1 := Lib.hid (HOw.out.kept hgr (Or.inr (fun e9 => by have := HOge.out _ e9; omega)))
                have HCb1 := Lib.hid (HCb.out.other hgr (fun e9 => by have := Option.some.inj e9; omega))
                have bs1 := HCb1.out.c 0
                have HB1 := Lib.hid (HBw.out.grown hgr (by have := HSz.out; omega) (fun j hj => by have := Option.some.inj hj; omega))
                have HCo1 := Lib.hid (HCo.out.step hlx hf)
                have HSz1 := Lib.hid (show wz.heap.size + 2 ≤ w6.heap.size by have := HSz.out; omega)
                have hsz1 := HSz1.out
                clear hrg hlx hf hlt hgr hs6 hx HOw HCb HBw HCo
                go_wp2_with (at_builtin; go_loud (go_must (refine wpList_push _ rfl (.tmp 80) (.tmp 84) 22 rfl (wz.heap.size + 2) 30 _ 2 32 Tryd.underlying22 info_out rfl (by omega) (.slice A n c) n _ rfl (own_alloc HOw1.out _) [.string x, .string cb] rfl _ rfl (cell_new _ [.string x, .string cb] 30 _ rfl) (two_str x cb) (by omega) (by unfold maxLen; omega) (by simp; omega) ?_); intro g7 c7 w7 own7 hg7 hgg7 hb7; have HO7 := Lib.hid own7; have HG7 := Lib.hid hg7; have HRg7 := Lib.hid (((HRg1.out.alloc (.cells #[.string x, .string cb] 30)).kept hg7 (row_ne_low HOw1.out (by omega)) (row_ne_low HOw1.out (by omega)))); have HX7 := Lib.hid ((HCb1.out.alloc (.cells #[.string x, .string cb] 30)).other hg7 (row_ne_low HOw1.out (by omega))); have HB7 := Lib.hid ((HB1.out.alloc (by omega) (.cells #[.string x, .string cb] 30)).trans (hb7.mono (by omega))); have HSz7 := Lib.hid (show wz.heap.size + 2 ≤ w7.heap.size by have h9 := hb7.size; rw [World.size_alloc] at h9; omega); have bs7 := HX7.out.c 0; have bf7 := HX7.out.f 0; have sh7 := HX7.out.sh; clear own7 hg7 hgg7 hb7))
                go_roundw
                case rel =>
                  have hg9 := (own_block_ge HO7.out) g7 rfl
                  refine ⟨L ++ [⟨x, cb⟩], _, cnt1, n + 1, c7, some ⟨g7, 0, none⟩, hc9, by rw [List.length_append, HLn.out]; rfl, HRg7.out.kept (grown_setB _ _ _ _) (by intro e9; have := Option.some.inj e9; omega) (by intro e9; have := Option.some.inj e9; omega), HCo1, ?_, ?_, ?_, ?_⟩
                  · rw [outsC_snoc]
                    exact HO7.out.kept (grown_setB _ _ _ _) (Or.inr (fun e9 => by have e8 : g7 = wz.heap.size := Option.some.inj e9; omega))
                  · exact HX7.out.put 0 _
                  · exact HB7.out.setCell (by have := HN.out; omega) _
                  · exact Nat.le_trans HSz7.out (grown_setB _ _ _ _).size
                case measure => rw [(HRg7.out.kept (grown_setB _ _ _ _) (by intro e9; have := Option.some.inj e9; omega) (by intro e9; have := Option.some.inj e9; omega)).left_eq, HRg.out.left_eq]; exact HLt.out

end Go.Proofs.YtogjhcmaapplgaaDoor
