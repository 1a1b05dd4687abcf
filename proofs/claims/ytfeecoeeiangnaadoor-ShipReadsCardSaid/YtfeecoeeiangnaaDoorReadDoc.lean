/-
  ship.readDoc: what is behind doc.
-/
import Derived.Test.YtfeecoeeiangnaaDoorReadOwn
import Derived.Test.YtfeecoeeiangnaaDoorRowOps
namespace Go.Proofs.YtfeecoeeiangnaaDoor
open Go.RowKit Go.Deep

theorem info_doc : (Tryd.prog.info? 58).map (fun i => (i.zero, i.size, i.bytes)) = some (some (.agg #[.string ⟨#[]⟩, .string ⟨#[]⟩, .string ⟨#[]⟩]), 3, 48) := by kernel_rfl
theorem info_term : (Tryd.prog.info? 61).map (fun i => (i.zero, i.size, i.bytes)) = some (some (.agg #[.string ⟨#[]⟩, .slice none 0 0, .slice none 0 0]), 3, 64) := by kernel_rfl
theorem info_intR : (Tryd.prog.info? 3).map (fun i => (i.zero, i.size, i.bytes)) = some (some (.int .i64 0), 1, 8) := by kernel_rfl

/-- in a region that draws its order: append of one element to a slice of the call's own -/
theorem step_pushR {P : Program} {ops : Array Oper} {o : Oper} {a : Act} {W : World} {K : Act → World → Prop} {Q : Exit → Act → World → Prop} {E : Prop} (hgd : o.guard = none) (s x : Operand) (t : TypeId)
    (ho : o.op = .call { callee := .builtin .append, args := #[s, x], argTypes := #[t, t] })
    (B : Nat) (e : TypeId) (z : Value) (k bytes : Nat) (ht : P.underlying t = some (.slice e)) (hi : (P.info? e).map (fun i => (i.zero, i.size, i.bytes)) = some (some z, k, bytes)) (hzs : z.cells.size = k) (hk : 0 < k)
    (v : Value) (n : Nat) (xs : List Value) (hs : a.eval s = v) (hown : W.ownsRow B e k v n xs)
    (news : List Value) (hl : news.length = k) (sz : Nat) (hx : a.eval x = .slice (some ⟨sz, 0, none⟩) 1 1) (hnew : ∀ (j : Nat) (u : Value), news[j]? = some u → W.cell? ⟨sz, j, none⟩ = some u) (h1 : ∀ u ∈ news, u.oneCell' = true)
    (hn : (n + 1) * bytes ≤ 140737488355328) (hn' : n + 1 ≤ maxLen) (hB : B ≤ W.heap.size)
    (hK : ∀ g cap w', w'.ownsRow B e k (.slice (some ⟨g, 0, none⟩) (n + 1) cap) (n + 1) (xs ++ news) → W.grownBy w' v.ownBlock → (v.ownBlock = some g ∨ W.heap.size ≤ g) → Below B W w' → K (a.put o.dst (.slice (some ⟨g, 0, none⟩) (n + 1) cap)) w') :
    if Region.wanted o (yielded ops a.tmps) = true then Oper.wp P o a W K Q else E := by
  have hw : Region.wanted o (yielded ops a.tmps) = true := by simp [Region.wanted, hgd]
  rw [if_pos hw]
  obtain ⟨i, hi1, hi2, hi3, hi4⟩ := info_parts hi
  obtain ⟨v', w', hr, h2, hg, _, h5⟩ := run_append_own_at (P := P) W B t o.type e i z k bytes ht hi1 hi2 hi3 hi4 hzs hk v n xs hown ⟨sz, 0, none⟩ 1 1 news (by omega) (fun j u hj => by
    have hadd : (⟨sz, 0, none⟩ : Addr).add j = ⟨sz, j, none⟩ := by unfold Addr.add; split <;> simp_all
    rw [hadd]
    exact hnew j u hj) h1 hn' hn hB
  unfold Oper.wp execOp
  simp only [ho, resolve, invoke, builtin, Sem.run_bind, Sem.run_pure, Result.andThen_ok, List.map_toArray, List.map_cons, List.map_nil, hs, hx, hr]
  have hb : Below B W w' := below_of_grown hg hB (own_block_ge hown)
  obtain ⟨A, c, rfl, _, _, hA⟩ := own_form h2
  obtain ⟨g, rfl, _, _⟩ := hA (by omega)
  refine hK g c w' h2 hg ?_ hb
  simp only [Value.ownBlock] at h5
  rcases h5 with h5 | h5
  · left; exact h5.symm
  · right; simp at h5; omega


theorem isE_true {s : ByteArray} (h : s.data.toList = []) : s.toList.isEmpty = true := by rw [Go.ByteArray.toList_eq, h]; rfl
theorem isE_false {s : ByteArray} (h : s.data.toList ≠ []) : s.toList.isEmpty = false := by
  rw [Go.ByteArray.toList_eq]
  cases hl : s.data.toList with
  | nil => exact absurd hl h
  | cons _ _ => rfl
theorem size_of_ne {s : ByteArray} (h : s.data.toList ≠ []) : 1 ≤ s.size := by
  rw [← size_toList]
  cases hl : s.data.toList with
  | nil => exact absurd hl h
  | cons _ _ => simp
theorem isNE {l : List UInt8} (h : l ≠ []) : l.isEmpty = false := by cases l with | nil => exact absurd rfl h | cons _ _ => rfl
theorem drop1 (s : ByteArray) : (s.extract 1 s.size).data.toList = s.data.toList.tail := by rw [ext_drop, List.drop_one]

set_option maxRecDepth 100000 in
set_option maxHeartbeats 2000000 in
theorem readDoc_no (B bx : Nat) (s : St) (dv sv tv : Value) (L : List (TermR × Value × Value)) (l : ByteArray) (w : World) (hbx : CB w bx 26 #[dv, sv, tv]) (ho : IdxOwn w B dv sv tv s L) (hl : l.size ≤ 1048576) (hok : (s.T.isEmpty && docOk l.data.toList) = false) :
    Calls Tryd.prog 19 #[.pointer (some ⟨bx, 0, none⟩), .string l] w fun e w' => e = .returned (.bool false) ∧ Below w.heap.size w w' := by
  obtain ⟨a, ha⟩ : ∃ a : ByteArray, a.data.toList = bef 32 l.data.toList := ⟨⟨(bef 32 l.data.toList).toArray⟩, rfl⟩
  obtain ⟨r, hr⟩ : ∃ a : ByteArray, a.data.toList = aft 32 l.data.toList := ⟨⟨(aft 32 l.data.toList).toArray⟩, rfl⟩
  have H32 := Lib.hid (show (((32 : UInt8).toNat : Nat) : Int) = 32 from rfl)
  have HA := Lib.hid ha
  have HR := Lib.hid hr
  have HO := Lib.hid hok; clear hok
  by_cases h1 : a.data.toList = []
  · have e1 := isE_true h1
    clear h1 ha hr
    go_enter Tryd.func19, Tryd.ntmps19
    go_wp2_with (go_at_call 44; (with_reducible refine (cutAt_q l a r 32 _ _ H32.out HA.out HR.out hl).mono ?_); rintro e w1 ⟨rfl, hb⟩; have HB1 := Lib.hid hb; clear hb)
    go_ret
    exact ⟨rfl, HB1.out⟩
  have e1 := isE_false h1
  by_cases h2 : r.data.toList = []
  · have e2 := isE_true h2
    clear h1 h2 ha hr
    go_enter Tryd.func19, Tryd.ntmps19
    go_wp2_with (go_at_call 44; (with_reducible refine (cutAt_q l a r 32 _ _ H32.out HA.out HR.out hl).mono ?_); rintro e w1 ⟨rfl, hb⟩; have HB1 := Lib.hid hb; clear hb)
    go_ret
    exact ⟨rfl, HB1.out⟩
  have e2 := isE_false h2
  have hrz := size_of_ne h2
  obtain ⟨r1, hr1⟩ : ∃ r1, r.extract 1 r.size = r1 := ⟨_, rfl⟩
  have hd1 : r1.data.toList = docR1 l.data.toList := by rw [← hr1, drop1, hr]; rfl
  have hrl : r.size ≤ l.size := by
    have h3 := bef_len 32 l.data.toList
    rw [← hr, size_toList, size_toList] at h3
    omega
  have hr1l : r1.size ≤ 1048576 := by rw [← hr1, ByteArray.size_extract]; omega
  obtain ⟨m, hm⟩ : ∃ a : ByteArray, a.data.toList = bef 32 r1.data.toList := ⟨⟨(bef 32 r1.data.toList).toArray⟩, rfl⟩
  obtain ⟨t, ht⟩ : ∃ a : ByteArray, a.data.toList = aft 32 r1.data.toList := ⟨⟨(aft 32 r1.data.toList).toArray⟩, rfl⟩
  have HM := Lib.hid hm
  have HT := Lib.hid ht
  have hml : m.size ≤ 1048576 := by
    have h3 := bef_len 32 r1.data.toList
    rw [← hm, size_toList, size_toList] at h3
    omega
  have hrz1 : (1 : Int) ≤ (r.size : Int) := by omega
  obtain ⟨vn, hvn⟩ : ∃ v : Int, ((numV m.data.toList : Nat) : Int) = v := ⟨_, rfl⟩
  have HVn := Lib.hid hvn; clear hvn
  have hH2 := Lib.hid h2
  cases hnb : numB m.data.toList
  · have HNb := Lib.hid hnb; clear hnb h1 h2 ha hr hd1 hm ht
    go_enter Tryd.func19, Tryd.ntmps19
    go_wp2_with (first | (go_at_call 44; (with_reducible refine (cutAt_q l a r 32 _ _ H32.out HA.out HR.out hl).mono ?_); rintro e w1 ⟨rfl, hb⟩; have HB1 := Lib.hid hb; clear hb) | (go_at_call 44; (with_reducible refine (cutAt_q r1 m t 32 _ _ H32.out HM.out HT.out hr1l).mono ?_); rintro e w2 ⟨rfl, hb⟩; have HB2 := Lib.hid (HB1.out.trans (hb.mono HB1.out.size)); clear hb) | (go_at_call 45; have hsm := small_q m w2 hml; rw [HVn.out, HNb.out] at hsm; go_must (refine hsm.mono ?_); clear hsm; rintro e w3 ⟨rfl, rfl⟩))
    go_ret
    exact ⟨rfl, HB2.out⟩
  by_cases h4 : t.data.toList = []
  · have e4 := isE_true h4
    have HNb := Lib.hid hnb; clear hnb h1 h2 h4 ha hr hd1 hm ht
    go_enter Tryd.func19, Tryd.ntmps19
    go_wp2_with (first | (go_at_call 44; (with_reducible refine (cutAt_q l a r 32 _ _ H32.out HA.out HR.out hl).mono ?_); rintro e w1 ⟨rfl, hb⟩; have HB1 := Lib.hid hb; clear hb) | (go_at_call 44; (with_reducible refine (cutAt_q r1 m t 32 _ _ H32.out HM.out HT.out hr1l).mono ?_); rintro e w2 ⟨rfl, hb⟩; have HB2 := Lib.hid (HB1.out.trans (hb.mono HB1.out.size)); clear hb) | (go_at_call 45; have hsm := small_q m w2 hml; rw [HVn.out, HNb.out] at hsm; go_must (refine hsm.mono ?_); clear hsm; rintro e w3 ⟨rfl, rfl⟩))
    go_ret
    exact ⟨rfl, HB2.out⟩
  have e4 := isE_false h4
  have hTne : s.T ≠ [] := by
    intro hT
    have h5 := HO.out
    rw [hT] at h5
    have h6 : docOk l.data.toList = true := by
      simp only [docOk, docA, docM]
      rw [← hd1, ← ha, ← hr, ← ht, ← hm, hnb, isNE h1, isNE h2, isNE h4]
      rfl
    rw [h6] at h5
    cases h5
  have hTl : 0 < L.length := by
    have h5 := congrArg List.length ho.oL
    rw [List.length_map] at h5
    rw [h5]
    cases hT : s.T with
    | nil => exact absurd hT hTne
    | cons _ _ => simp
  obtain ⟨A3, c3, rfl, _, _, _⟩ := own_form ho.ot
  have HX := Lib.hid hbx; clear hbx
  have HNb := Lib.hid hnb; clear hnb h1 h2 h4 ha hr hd1 hm ht hTne ho
  go_enter Tryd.func19, Tryd.ntmps19
  go_wp2_with (first | (go_at_call 44; (with_reducible refine (cutAt_q l a r 32 _ _ H32.out HA.out HR.out hl).mono ?_); rintro e w1 ⟨rfl, hb⟩; have HB1 := Lib.hid hb; clear hb) | (go_at_call 44; (with_reducible refine (cutAt_q r1 m t 32 _ _ H32.out HM.out HT.out hr1l).mono ?_); rintro e w2 ⟨rfl, hb⟩; have HB2 := Lib.hid (HB1.out.trans (hb.mono HB1.out.size)); clear hb) | (go_at_call 45; have hsm := small_q m w2 hml; rw [HVn.out, HNb.out] at hsm; go_must (refine hsm.mono ?_); clear hsm; rintro e w3 ⟨rfl, rfl⟩; have z2 := ((HX.out.below HB2.out).c 2).trans rfl))
  go_ret
  exact ⟨rfl, HB2.out⟩

def DocDone (B bx : Nat) (s : St) (d : DocR) (n : Int) (w w' : World) : Prop := ∃ dv sv tv : Value, CB w' bx 26 #[dv, sv, tv] ∧ IdxOwn w' B dv sv tv ⟨s.D ++ [d], s.S ++ [n], s.T⟩ [] ∧ Below B w w'

set_option maxRecDepth 100000 in
set_option maxHeartbeats 4000000 in
theorem readDoc_yes (B bx : Nat) (s : St) (dv sv tv : Value) (l : ByteArray) (w : World) (hB : B ≤ bx) (hbx : CB w bx 26 #[dv, sv, tv]) (ho : IdxOwn w B dv sv tv s []) (hl : l.size ≤ 1048576) (hn : s.D.length ≤ 1048576 ∧ s.S.length ≤ 1048576) (hok : docOk l.data.toList = true) :
    Calls Tryd.prog 19 #[.pointer (some ⟨bx, 0, none⟩), .string l] w fun e w' => e = .returned (.bool true) ∧ DocDone B bx s (docD l.data.toList) ((numV (docM l.data.toList) : Nat) : Int) w w' := by
  have hok2 := hok
  simp only [docOk, Bool.and_eq_true, Bool.not_eq_true', List.isEmpty_eq_false_iff] at hok2
  obtain ⟨⟨⟨g1, g2⟩, g4⟩, gnb⟩ := hok2
  obtain ⟨a, ha⟩ : ∃ a : ByteArray, a.data.toList = bef 32 l.data.toList := ⟨⟨(bef 32 l.data.toList).toArray⟩, rfl⟩
  obtain ⟨r, hr⟩ : ∃ a : ByteArray, a.data.toList = aft 32 l.data.toList := ⟨⟨(aft 32 l.data.toList).toArray⟩, rfl⟩
  have H32 := Lib.hid (show (((32 : UInt8).toNat : Nat) : Int) = 32 from rfl)
  have HA := Lib.hid ha
  have HR := Lib.hid hr
  have h1 : a.data.toList ≠ [] := by rw [ha]; exact g1
  have h2 : r.data.toList ≠ [] := by rw [hr]; exact g2
  have e1 := isE_false h1
  have e2 := isE_false h2
  have hrz := size_of_ne h2
  obtain ⟨r1, hr1⟩ : ∃ r1, r.extract 1 r.size = r1 := ⟨_, rfl⟩
  have hd1 : r1.data.toList = docR1 l.data.toList := by rw [← hr1, drop1, hr]; rfl
  have hrl : r.size ≤ l.size := by
    have h3 := bef_len 32 l.data.toList
    rw [← hr, size_toList, size_toList] at h3
    omega
  have hr1l : r1.size ≤ 1048576 := by rw [← hr1, ByteArray.size_extract]; omega
  obtain ⟨m, hm⟩ : ∃ a : ByteArray, a.data.toList = bef 32 r1.data.toList := ⟨⟨(bef 32 r1.data.toList).toArray⟩, rfl⟩
  obtain ⟨t, ht⟩ : ∃ a : ByteArray, a.data.toList = aft 32 r1.data.toList := ⟨⟨(aft 32 r1.data.toList).toArray⟩, rfl⟩
  have HM := Lib.hid hm
  have HT := Lib.hid ht
  have hml : m.size ≤ 1048576 := by
    have h3 := bef_len 32 r1.data.toList
    rw [← hm, size_toList, size_toList] at h3
    omega
  have hrz1 : (1 : Int) ≤ (r.size : Int) := by omega
  have h4 : t.data.toList ≠ [] := by rw [ht, hd1]; exact g4
  have e4 := isE_false h4
  have htz := size_of_ne h4
  have htz1 : (1 : Int) ≤ (t.size : Int) := by omega
  have hnb : numB m.data.toList = true := by rw [hm, hd1]; exact gnb
  obtain ⟨t1, ht1⟩ : ∃ t1, t.extract 1 t.size = t1 := ⟨_, rfl⟩
  have HD := Lib.hid (show docD l.data.toList = ⟨a, t1, ⟨#[]⟩⟩ by
    have q1 : bs (docA l.data.toList) = a := bytes_eq (by rw [bs_list, ha]; rfl)
    have q2 : bs (docZ l.data.toList) = t1 := bytes_eq (by rw [bs_list, ← ht1, drop1, ht, hd1]; rfl)
    rw [docD, q1, q2])
  obtain ⟨vn, hvn⟩ : ∃ v : Int, ((numV m.data.toList : Nat) : Int) = v := ⟨_, rfl⟩
  have HVn := Lib.hid hvn
  have HV2 := Lib.hid (show ((numV (docM l.data.toList) : Nat) : Int) = vn by rw [← hvn, hm, hd1]; rfl)
  have HI64 := Lib.hid (show I64 vn by rw [← hvn]; exact num_i64 _)
  have HNb := Lib.hid hnb; clear hnb hvn h1 h2 h4 ha hr hd1 hm ht g1 g2 g4 gnb hok
  obtain ⟨A1, c1, rfl, _, _, _⟩ := own_form ho.od
  obtain ⟨A2, c2, rfl, _, _, _⟩ := own_form ho.os
  obtain ⟨A3, c3, rfl, _, _, _⟩ := own_form ho.ot
  have HX := Lib.hid hbx; clear hbx
  have HOw := Lib.hid ho; clear ho
  have hBw : B ≤ w.heap.size := by have := HX.out.lt; omega
  go_enter Tryd.func19, Tryd.ntmps19
  go_wp2_with (first | (go_at_call 44; (with_reducible refine (cutAt_q l a r 32 _ _ H32.out HA.out HR.out hl).mono ?_); rintro e w1 ⟨rfl, hb⟩; have HB1 := Lib.hid hb; clear hb) | (go_at_call 44; (with_reducible refine (cutAt_q r1 m t 32 _ _ H32.out HM.out HT.out hr1l).mono ?_); rintro e w2 ⟨rfl, hb⟩; have HB2 := Lib.hid (HB1.out.trans (hb.mono HB1.out.size)); clear hb) | (go_at_call 45; have hsm := small_q m w2 hml; rw [HVn.out, HNb.out] at hsm; go_must (refine hsm.mono ?_); clear hsm; rintro e w3 ⟨rfl, rfl⟩; have z2 := ((HX.out.below HB2.out).c 2).trans rfl))
  have HX2 := Lib.hid (HX.out.below HB2.out)
  have HOw2 := Lib.hid (HOw.out.below HB2.out)
  have z0 : w2.cell? ⟨bx, 0, none⟩ = some (.slice A1 s.D.length c1) := HX2.out.c 0
  have z0f := HX2.out.f 0
  have hlt2 : bx < w2.heap.size := HX2.out.lt
  have hB2 : B ≤ w2.heap.size := by omega
  go_region_law (refine step_pushR rfl (.tmp 51) (.tmp 56) 22 rfl B 58 _ 3 48 Tryd.underlying22 info_doc rfl (by omega) (.slice A1 s.D.length c1) s.D.length _ (by simp [Act.eval]) (own_alloc (own_drew HOw2.out.od) _) [.string a, .string t1, .string ⟨#[]⟩] rfl _ (by simp [Act.eval]) (cell_new _ [.string a, .string t1, .string ⟨#[]⟩] 58 _ rfl) (by intro u hu; simp at hu; rcases hu with rfl | rfl | rfl <;> rfl) (by omega) (by unfold maxLen; omega) (by simp; omega) ?_
                 intro g5 c5 w5 own5 hg5 hgg5 hb5
                 have HX5 := Lib.hid (((HX2.out.drew).alloc (.cells #[.string a, .string t1, .string ⟨#[]⟩] 58)).push (own_alloc (own_drew HOw2.out.od) _) (by decide) hg5)
                 have u0 : w5.cell? ⟨bx, 0, none⟩ = some (.slice A1 s.D.length c1) := HX5.out.c 0
                 have u0f := HX5.out.f 0
                 have u0s := HX5.out.sh)
  all_goals
    clear z0 z0f
    have HOw5 := Lib.hid (IdxOwn.pushD ((HOw2.out.alloc (.cells #[.string a, .string t1, .string ⟨#[]⟩] 58)).drew) ⟨a, t1, ⟨#[]⟩⟩ hg5 own5)
    have HB5 := Lib.hid ((((HB2.out.mono hBw).alloc hB2 (.cells #[.string a, .string t1, .string ⟨#[]⟩] 58)).drew).trans hb5)
    clear own5 hg5 hgg5 hb5
    obtain ⟨w6, hw6⟩ : ∃ w6, w5.setCell ⟨bx, 0, none⟩ (.slice (some ⟨g5, 0, none⟩) (s.D.length + 1) c5) = w6 := ⟨_, rfl⟩
    rw [hw6]
    have HX6 := Lib.hid (show CB w6 bx 26 #[.slice (some ⟨g5, 0, none⟩) (s.D.length + 1) c5, .slice A2 s.S.length c2, .slice A3 ([] : List (TermR × Value × Value)).length c3] by rw [← hw6]; exact HX5.out.put 0 _)
    have HOw6 := Lib.hid (show IdxOwn w6 B (.slice (some ⟨g5, 0, none⟩) (s.D.length + 1) c5) (.slice A2 s.S.length c2) (.slice A3 ([] : List (TermR × Value × Value)).length c3) ⟨s.D ++ [⟨a, t1, ⟨#[]⟩⟩], s.S, s.T⟩ [] by rw [← hw6]; exact HOw5.out.box HX5.out (by decide) (by decide) (by decide) _)
    have HB6 := Lib.hid (show Below B w w6 by rw [← hw6]; exact HB5.out.setCell hB _)
    clear hw6 HX5 HOw5 HB5 u0 u0f u0s
    have z1 : w6.cell? ⟨bx, 1, none⟩ = some (.slice A2 s.S.length c2) := HX6.out.c 1
    have z1f := HX6.out.f 1
    have hlt6 : bx < w6.heap.size := HX6.out.lt
    have hB6 : B ≤ w6.heap.size := by omega
    go_wp2_with (at_builtin; go_must (refine wpList_push _ rfl (.tmp 64) (.tmp 66) 23 rfl B 3 _ 1 8 Tryd.underlying23 info_intR rfl (by omega) (.slice A2 s.S.length c2) s.S.length _ rfl (own_alloc HOw6.out.os _) [.int .i64 vn] rfl _ rfl (cell_new _ [.int .i64 vn] 3 _ rfl) (one_int _ _) (by omega) (by unfold maxLen; omega) (by simp; omega) ?_); intro g7 c7 w7 own7 hg7 hgg7 hb7; have HX7 := Lib.hid ((HX6.out.alloc (.cells #[.int .i64 vn] 3)).push (own_alloc HOw6.out.os _) (by decide) hg7); have v1 : w7.cell? ⟨bx, 1, none⟩ = some (.slice A2 s.S.length c2) := HX7.out.c 1; have v1f := HX7.out.f 1; have v1s := HX7.out.sh)
    have HOw7 := Lib.hid (IdxOwn.pushS (HOw6.out.alloc (.cells #[.int .i64 vn] 3)) vn HI64.out hg7 own7)
    have HB7 := Lib.hid ((HB6.out.alloc hB6 (.cells #[.int .i64 vn] 3)).trans hb7)
    clear own7 hg7 hgg7 hb7
    go_ret
    refine ⟨rfl, ?_⟩
    rw [HD.out, HV2.out]
    exact ⟨_, _, _, HX7.out.put 1 _, HOw7.out.box HX7.out (by decide) (by decide) (by decide) _, HB7.out.setCell hB _⟩

end Go.Proofs.YtfeecoeeiangnaaDoor
