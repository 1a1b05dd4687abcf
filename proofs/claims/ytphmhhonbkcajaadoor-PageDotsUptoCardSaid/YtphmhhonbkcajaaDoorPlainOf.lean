/-
  mastref1.PlainOf: the same plain text, where only the kinds that use Kids have some.
-/
import Derived.Test.YtphmhhonbkcajaaDoorPlain
namespace Go.Proofs.YtphmhhonbkcajaaDoor
open Go.RowKit Go.Deep

/-- only kinds that use Kids have some -/
def Kidless : List Node → Prop
  | [] => True
  | .mk k _ _ _ _ ks :: r => (usesK k = false → ks = []) ∧ Kidless ks ∧ Kidless r

theorem Kidless.at_ : ∀ {l : List Node} (_ : Kidless l) {k : Nat} {n : Node}, l[k]? = some n → (usesK n.kind = false → n.kids = []) ∧ Kidless n.kids
  | .mk _ _ _ _ _ _ :: _, h, 0, n, hn => by
    simp only [Kidless] at h
    simp only [List.getElem?_cons_zero, Option.some.injEq] at hn
    subst hn
    exact ⟨h.1, h.2.1⟩
  | .mk _ _ _ _ _ _ :: r, h, k + 1, n, hn => by
    simp only [Kidless] at h
    exact h.2.2.at_ (by simpa using hn)

theorem nodesErr_kidless : ∀ (N : Nat) (l : List Node) (p : Int), SizeOf.sizeOf l ≤ N → nodesErr l p = 0 → Kidless l
  | 0, l, p, hN, h => by cases l <;> simp at hN
  | N + 1, [], p, _, _ => by simp only [Kidless]
  | N + 1, .mk k lv t d ti ks :: r, p, hN, h => by
    rw [nodesErr_cons] at h
    by_cases h1 : nodeErr (.mk k lv t d ti ks) p = 0
    · rw [if_pos h1] at h
      by_cases h2 : nodesErr ks k = 0
      · rw [if_pos (show nodesErr (Node.mk k lv t d ti ks).kids (Node.mk k lv t d ti ks).kind = 0 from h2)] at h
        simp only [List.cons.sizeOf_spec, Node.mk.sizeOf_spec] at hN
        simp only [Kidless]
        refine ⟨fun hk => ?_, nodesErr_kidless N ks k (by omega) h2, nodesErr_kidless N r p (by omega) h⟩
        unfold nodeErr at h1
        by_cases a1 : permittedB (Node.mk k lv t d ti ks).kind p = false
        · rw [if_pos a1] at h1; omega
        · rw [if_neg a1] at h1
          by_cases a2 : levelBad (Node.mk k lv t d ti ks) = true
          · rw [if_pos a2] at h1; omega
          · rw [if_neg a2] at h1
            by_cases a3 : unusedB (Node.mk k lv t d ti ks) = true
            · rw [if_pos a3] at h1; omega
            · simp only [unusedB, Bool.or_eq_true, not_or, Bool.and_eq_true, Bool.not_eq_true', decide_eq_true_eq] at a3
              have a4 := a3.2
              simp only [Node.kind, Node.kids] at a4
              exact List.eq_nil_of_length_eq_zero (by
                rcases Nat.eq_zero_or_pos ks.length with z | z
                · exact z
                · exact absurd ⟨hk, z⟩ a4)
      · rw [if_neg (show ¬ nodesErr (Node.mk k lv t d ti ks).kids (Node.mk k lv t d ti ks).kind = 0 from h2)] at h
        exact absurd h h2
    · rw [if_neg h1] at h
      exact absurd h h1

theorem docErr_kidless {l : List Node} (h : docErr l = 0) : Kidless l := by
  unfold docErr at h
  by_cases h1 : 4000 < total l
  · rw [if_pos h1] at h; omega
  · rw [if_neg h1] at h
    by_cases h2 : deepB l 0 0 = true
    · rw [if_pos h2] at h; omega
    · rw [if_neg h2] at h
      exact nodesErr_kidless _ l 0 (Nat.le_refl _) h

/-- a string result -/
def StrRes (w0 : World) (bs : List UInt8) (e : Ending) (w' : World) : Prop := ∃ s, e = .returned (.string s) ∧ s.data.toList = bs ∧ Below w0.heap.size w0 w'


set_option maxRecDepth 100000 in
set_option maxHeartbeats 4000000 in
theorem plainOf_any (N : Nat) : ∀ (l : List Node) (v : Value) (w : World), SizeOf.sizeOf l ≤ N → NodesAt w v l → weight l ≤ 1073741824 → Kidless l →
    Calls Tryd.prog 25 #[v] w (StrRes w (plainL 0 l)) := by
  induction N with
  | zero =>
    intro l v w hN
    cases l <;> simp at hN
  | succ N ih =>
    intro l v w hN h ht hkl
    obtain ⟨An, c, bl, o, kv, rfl, hlc, hc, hA, hcell, hkid⟩ := h.inv
    unfold maxLen at hc
    have HCell := Lib.hid hcell; clear hcell
    have HKid := Lib.hid hkid; clear hkid
    have HN := Lib.hid hN; clear hN
    have HI := Lib.hid ih; clear ih
    have HKl := Lib.hid hkl; clear hkl
    clear h
    go_enter Tryd.func25, Tryd.ntmps25
    go_wp2_with fail
    go_loopw [3, 8] (fun t0 t wr => ∃ (k : Nat) (s : ByteArray), k ≤ l.length ∧ t = .int .i64 k ∧ t0 = .string s ∧ Hid (s.data.toList = plainL 0 (l.take k)) ∧ Hid (Below w.heap.size w wr)) (fun _ t _ => l.length - (intOf t).toNat)
    case atStart => exact ⟨0, ⟨#[]⟩, Nat.zero_le _, rfl, rfl, (show _ = _ by rw [List.take_zero, plainL_nil]), Below.refl _ _⟩
    case round =>
      obtain ⟨k, s, hk, rfl, rfl, hcs, hbel⟩ := hrel
      by_cases hlt : k < l.length
      · have hA' := hA (by rintro rfl; simp at hlt)
        subst hA'
        obtain ⟨n, hn⟩ : ∃ n, l[k]? = some n := ⟨_, List.getElem?_eq_getElem hlt⟩
        obtain ⟨p0, p1, p2, p3, p4, p5, _, _, q2, _, _⟩ := (HCell.out k n hn).keep (Keeps.of_below hbel.out)
        have bb := World.block_lt_of_cell? _ _ p5
        simp only at bb
        have hkid := HKid.out k n hn
        obtain ⟨A3, c3, b3, o3, k3, e3, _, _, _, _, _⟩ := hkid.inv
        rw [e3] at hkid p5
        have HKd := Lib.hid ((hkid.keep (Keeps.of_below hbel.out)).keep (Keeps.alloc _ (nodeBox n (.slice A3 n.kids.length c3)))); clear hkid
        have HSz := Lib.hid (size_at HN.out hn)
        have hwt := weight_take hn
        have hsl : s.size ≤ weight (l.take k) := by rw [← size_toList, hcs.out]; exact plain_len _ _
        have hcl2 : s.size + n.text.size + weight n.kids + 1 ≤ 1073741824 := by omega
        have hwk : weight n.kids ≤ 1073741824 := by omega
        have HTk := Lib.hid (show plainL 0 (l.take (k + 1)) = s.data.toList ++ plainN k n by rw [plainL_take hn, ← hcs.out])
        obtain ⟨hk1, hk2⟩ := HKl.out.at_ hn
        have HK2 := Lib.hid hk2; clear hk2
        have HPl := Lib.hid (plain_len n.kids 0)
        have hB := hbel.out.size
        clear hn hA e3 hwt hsl
        have HB0 := Lib.hid (hbel.out.alloc hB (nodeBox n (.slice A3 n.kids.length c3)))
        have hx : n.kind = 11 ∨ n.kind = 16 ∨ n.kind = 18 ∨ n.kind = 12 ∨ n.kind = 13 ∨ n.kind = 1 ∨ n.kind = 2 ∨ n.kind = 9 ∨ n.kind = 3 ∨ n.kind = 7 ∨ (n.kind = 10 ∧ 0 < k) ∨ (n.kind = 10 ∧ ¬ 0 < k) ∨ (n.kind ≠ 11 ∧ n.kind ≠ 16 ∧ n.kind ≠ 18 ∧ n.kind ≠ 3 ∧ n.kind ≠ 12 ∧ n.kind ≠ 13 ∧ n.kind ≠ 10 ∧ n.kind ≠ 1 ∧ n.kind ≠ 2 ∧ n.kind ≠ 9 ∧ n.kind ≠ 7) := by omega
        rcases hx with hx | hx | hx | hx | hx | hx | hx | hx | hx | hx | hx | hx | hx
        · have hhd : headB k n.kind n.text.data.toList = n.text.data.toList := by unfold headB; rw [if_pos (by omega)]
          have htl : tailB n.kind = [] := by unfold tailB; rw [if_neg (by omega)]
          have hks : n.kids = [] := hk1 (by unfold usesK; simp; omega)
          have t11 : (n.kind == 11) = true := by simp; omega
          have t16 : (n.kind == 16) = false := by simp; omega
          have t18 : (n.kind == 18) = false := by simp; omega
          have t3 : (n.kind == 3) = false := by simp; omega
          have t12 : (n.kind == 12) = false := by simp; omega
          have t13 : (n.kind == 13) = false := by simp; omega
          have t10 : (n.kind == 10) = false := by simp; omega
          have t1 : (n.kind == 1) = false := by simp; omega
          have t2 : (n.kind == 2) = false := by simp; omega
          have t9 : (n.kind == 9) = false := by simp; omega
          have t7 : (n.kind == 7) = false := by simp; omega
          have HPN := Lib.hid (show plainN k n = n.text.data.toList by unfold plainN; rw [hhd, htl, hks]; simp [plainL_nil])
          clear hhd htl hk1 hx hks
          go_wp2_with fail
          go_roundw
          case rel => exact ⟨k + 1, _, by omega, by go_num, rfl, (by show _ = _; rw [HTk.out, HPN.out]; simp), HB0⟩
          case measure => simp [intOf]; omega
        · have hhd : headB k n.kind n.text.data.toList = n.text.data.toList := by unfold headB; rw [if_pos (by omega)]
          have htl : tailB n.kind = [] := by unfold tailB; rw [if_neg (by omega)]
          have hks : n.kids = [] := hk1 (by unfold usesK; simp; omega)
          have t11 : (n.kind == 11) = false := by simp; omega
          have t16 : (n.kind == 16) = true := by simp; omega
          have t18 : (n.kind == 18) = false := by simp; omega
          have t3 : (n.kind == 3) = false := by simp; omega
          have t12 : (n.kind == 12) = false := by simp; omega
          have t13 : (n.kind == 13) = false := by simp; omega
          have t10 : (n.kind == 10) = false := by simp; omega
          have t1 : (n.kind == 1) = false := by simp; omega
          have t2 : (n.kind == 2) = false := by simp; omega
          have t9 : (n.kind == 9) = false := by simp; omega
          have t7 : (n.kind == 7) = false := by simp; omega
          have HPN := Lib.hid (show plainN k n = n.text.data.toList by unfold plainN; rw [hhd, htl, hks]; simp [plainL_nil])
          clear hhd htl hk1 hx hks
          go_wp2_with fail
          go_roundw
          case rel => exact ⟨k + 1, _, by omega, by go_num, rfl, (by show _ = _; rw [HTk.out, HPN.out]; simp), HB0⟩
          case measure => simp [intOf]; omega
        · have hhd : headB k n.kind n.text.data.toList = n.text.data.toList := by unfold headB; rw [if_pos (by omega)]
          have htl : tailB n.kind = [] := by unfold tailB; rw [if_neg (by omega)]
          have hks : n.kids = [] := hk1 (by unfold usesK; simp; omega)
          have t11 : (n.kind == 11) = false := by simp; omega
          have t16 : (n.kind == 16) = false := by simp; omega
          have t18 : (n.kind == 18) = true := by simp; omega
          have t3 : (n.kind == 3) = false := by simp; omega
          have t12 : (n.kind == 12) = false := by simp; omega
          have t13 : (n.kind == 13) = false := by simp; omega
          have t10 : (n.kind == 10) = false := by simp; omega
          have t1 : (n.kind == 1) = false := by simp; omega
          have t2 : (n.kind == 2) = false := by simp; omega
          have t9 : (n.kind == 9) = false := by simp; omega
          have t7 : (n.kind == 7) = false := by simp; omega
          have HPN := Lib.hid (show plainN k n = n.text.data.toList by unfold plainN; rw [hhd, htl, hks]; simp [plainL_nil])
          clear hhd htl hk1 hx hks
          go_wp2_with fail
          go_roundw
          case rel => exact ⟨k + 1, _, by omega, by go_num, rfl, (by show _ = _; rw [HTk.out, HPN.out]; simp), HB0⟩
          case measure => simp [intOf]; omega
        · have hhd : headB k n.kind n.text.data.toList = [32] := by unfold headB; rw [if_neg (by omega), if_pos (by omega)]
          have htl : tailB n.kind = [] := by unfold tailB; rw [if_neg (by omega)]
          have hks : n.kids = [] := hk1 (by unfold usesK; simp; omega)
          have t11 : (n.kind == 11) = false := by simp; omega
          have t16 : (n.kind == 16) = false := by simp; omega
          have t18 : (n.kind == 18) = false := by simp; omega
          have t3 : (n.kind == 3) = false := by simp; omega
          have t12 : (n.kind == 12) = true := by simp; omega
          have t13 : (n.kind == 13) = false := by simp; omega
          have t10 : (n.kind == 10) = false := by simp; omega
          have t1 : (n.kind == 1) = false := by simp; omega
          have t2 : (n.kind == 2) = false := by simp; omega
          have t9 : (n.kind == 9) = false := by simp; omega
          have t7 : (n.kind == 7) = false := by simp; omega
          have HPN := Lib.hid (show plainN k n = [32] by unfold plainN; rw [hhd, htl, hks]; simp [plainL_nil])
          clear hhd htl hk1 hx hks
          go_wp2_with fail
          go_roundw
          case rel => exact ⟨k + 1, _, by omega, by go_num, rfl, (by show _ = _; rw [HTk.out, HPN.out]; simp), HB0⟩
          case measure => simp [intOf]; omega
        · have hhd : headB k n.kind n.text.data.toList = [32] := by unfold headB; rw [if_neg (by omega), if_pos (by omega)]
          have htl : tailB n.kind = [] := by unfold tailB; rw [if_neg (by omega)]
          have hks : n.kids = [] := hk1 (by unfold usesK; simp; omega)
          have t11 : (n.kind == 11) = false := by simp; omega
          have t16 : (n.kind == 16) = false := by simp; omega
          have t18 : (n.kind == 18) = false := by simp; omega
          have t3 : (n.kind == 3) = false := by simp; omega
          have t12 : (n.kind == 12) = false := by simp; omega
          have t13 : (n.kind == 13) = true := by simp; omega
          have t10 : (n.kind == 10) = false := by simp; omega
          have t1 : (n.kind == 1) = false := by simp; omega
          have t2 : (n.kind == 2) = false := by simp; omega
          have t9 : (n.kind == 9) = false := by simp; omega
          have t7 : (n.kind == 7) = false := by simp; omega
          have HPN := Lib.hid (show plainN k n = [32] by unfold plainN; rw [hhd, htl, hks]; simp [plainL_nil])
          clear hhd htl hk1 hx hks
          go_wp2_with fail
          go_roundw
          case rel => exact ⟨k + 1, _, by omega, by go_num, rfl, (by show _ = _; rw [HTk.out, HPN.out]; simp), HB0⟩
          case measure => simp [intOf]; omega
        · have hhd : headB k n.kind n.text.data.toList = [] := by unfold headB; rw [if_neg (by omega), if_neg (by omega), if_neg (by omega)]
          have htl : tailB n.kind = [10] := by unfold tailB; rw [if_pos (by omega)]
          have t11 : (n.kind == 11) = false := by simp; omega
          have t16 : (n.kind == 16) = false := by simp; omega
          have t18 : (n.kind == 18) = false := by simp; omega
          have t3 : (n.kind == 3) = false := by simp; omega
          have t12 : (n.kind == 12) = false := by simp; omega
          have t13 : (n.kind == 13) = false := by simp; omega
          have t10 : (n.kind == 10) = false := by simp; omega
          have t1 : (n.kind == 1) = true := by simp; omega
          have t2 : (n.kind == 2) = false := by simp; omega
          have t9 : (n.kind == 9) = false := by simp; omega
          have t7 : (n.kind == 7) = false := by simp; omega
          have HPN := Lib.hid (show plainN k n = (plainL 0 n.kids ++ [10]) by unfold plainN; rw [hhd, htl]; simp)
          clear hhd htl hk1 hx
          go_wp2_with fail
          go_must (refine (HI.out n.kids _ _ HSz.out HKd.out hwk HK2.out).mono ?_)
          rintro e w2 ⟨s2, rfl, hs2, hb2⟩
          have hsz2 : s2.size ≤ weight n.kids := by rw [← size_toList, hs2]; exact HPl.out
          have HS2 := Lib.hid hs2; clear hs2
          have HB2 := Lib.hid (HB0.out.trans (hb2.mono HB0.out.size)); clear hb2
          go_wp2_with fail
          go_roundw
          case rel => exact ⟨k + 1, _, by omega, by go_num, rfl, (by show _ = _; rw [HTk.out, HPN.out]; simp [HS2.out]), HB2⟩
          case measure => simp [intOf]; omega
        · have hhd : headB k n.kind n.text.data.toList = [] := by unfold headB; rw [if_neg (by omega), if_neg (by omega), if_neg (by omega)]
          have htl : tailB n.kind = [10] := by unfold tailB; rw [if_pos (by omega)]
          have t11 : (n.kind == 11) = false := by simp; omega
          have t16 : (n.kind == 16) = false := by simp; omega
          have t18 : (n.kind == 18) = false := by simp; omega
          have t3 : (n.kind == 3) = false := by simp; omega
          have t12 : (n.kind == 12) = false := by simp; omega
          have t13 : (n.kind == 13) = false := by simp; omega
          have t10 : (n.kind == 10) = false := by simp; omega
          have t1 : (n.kind == 1) = false := by simp; omega
          have t2 : (n.kind == 2) = true := by simp; omega
          have t9 : (n.kind == 9) = false := by simp; omega
          have t7 : (n.kind == 7) = false := by simp; omega
          have HPN := Lib.hid (show plainN k n = (plainL 0 n.kids ++ [10]) by unfold plainN; rw [hhd, htl]; simp)
          clear hhd htl hk1 hx
          go_wp2_with fail
          go_must (refine (HI.out n.kids _ _ HSz.out HKd.out hwk HK2.out).mono ?_)
          rintro e w2 ⟨s2, rfl, hs2, hb2⟩
          have hsz2 : s2.size ≤ weight n.kids := by rw [← size_toList, hs2]; exact HPl.out
          have HS2 := Lib.hid hs2; clear hs2
          have HB2 := Lib.hid (HB0.out.trans (hb2.mono HB0.out.size)); clear hb2
          go_wp2_with fail
          go_roundw
          case rel => exact ⟨k + 1, _, by omega, by go_num, rfl, (by show _ = _; rw [HTk.out, HPN.out]; simp [HS2.out]), HB2⟩
          case measure => simp [intOf]; omega
        · have hhd : headB k n.kind n.text.data.toList = [] := by unfold headB; rw [if_neg (by omega), if_neg (by omega), if_neg (by omega)]
          have htl : tailB n.kind = [10] := by unfold tailB; rw [if_pos (by omega)]
          have t11 : (n.kind == 11) = false := by simp; omega
          have t16 : (n.kind == 16) = false := by simp; omega
          have t18 : (n.kind == 18) = false := by simp; omega
          have t3 : (n.kind == 3) = false := by simp; omega
          have t12 : (n.kind == 12) = false := by simp; omega
          have t13 : (n.kind == 13) = false := by simp; omega
          have t10 : (n.kind == 10) = false := by simp; omega
          have t1 : (n.kind == 1) = false := by simp; omega
          have t2 : (n.kind == 2) = false := by simp; omega
          have t9 : (n.kind == 9) = true := by simp; omega
          have t7 : (n.kind == 7) = false := by simp; omega
          have HPN := Lib.hid (show plainN k n = (plainL 0 n.kids ++ [10]) by unfold plainN; rw [hhd, htl]; simp)
          clear hhd htl hk1 hx
          go_wp2_with fail
          go_must (refine (HI.out n.kids _ _ HSz.out HKd.out hwk HK2.out).mono ?_)
          rintro e w2 ⟨s2, rfl, hs2, hb2⟩
          have hsz2 : s2.size ≤ weight n.kids := by rw [← size_toList, hs2]; exact HPl.out
          have HS2 := Lib.hid hs2; clear hs2
          have HB2 := Lib.hid (HB0.out.trans (hb2.mono HB0.out.size)); clear hb2
          go_wp2_with fail
          go_roundw
          case rel => exact ⟨k + 1, _, by omega, by go_num, rfl, (by show _ = _; rw [HTk.out, HPN.out]; simp [HS2.out]), HB2⟩
          case measure => simp [intOf]; omega
        · have hhd : headB k n.kind n.text.data.toList = n.text.data.toList := by unfold headB; rw [if_pos (by omega)]
          have htl : tailB n.kind = [10] := by unfold tailB; rw [if_pos (by omega)]
          have hks : n.kids = [] := hk1 (by unfold usesK; simp; omega)
          have t11 : (n.kind == 11) = false := by simp; omega
          have t16 : (n.kind == 16) = false := by simp; omega
          have t18 : (n.kind == 18) = false := by simp; omega
          have t3 : (n.kind == 3) = true := by simp; omega
          have t12 : (n.kind == 12) = false := by simp; omega
          have t13 : (n.kind == 13) = false := by simp; omega
          have t10 : (n.kind == 10) = false := by simp; omega
          have t1 : (n.kind == 1) = false := by simp; omega
          have t2 : (n.kind == 2) = false := by simp; omega
          have t9 : (n.kind == 9) = false := by simp; omega
          have t7 : (n.kind == 7) = false := by simp; omega
          have HPN := Lib.hid (show plainN k n = n.text.data.toList ++ [10] by unfold plainN; rw [hhd, htl, hks]; simp [plainL_nil])
          clear hhd htl hk1 hx hks
          go_wp2_with fail
          go_roundw
          case rel => exact ⟨k + 1, _, by omega, by go_num, rfl, (by show _ = _; rw [HTk.out, HPN.out]; simp), HB0⟩
          case measure => simp [intOf]; omega
        · have hhd : headB k n.kind n.text.data.toList = [] := by unfold headB; rw [if_neg (by omega), if_neg (by omega), if_neg (by omega)]
          have htl : tailB n.kind = [10] := by unfold tailB; rw [if_pos (by omega)]
          have hks : n.kids = [] := hk1 (by unfold usesK; simp; omega)
          have t11 : (n.kind == 11) = false := by simp; omega
          have t16 : (n.kind == 16) = false := by simp; omega
          have t18 : (n.kind == 18) = false := by simp; omega
          have t3 : (n.kind == 3) = false := by simp; omega
          have t12 : (n.kind == 12) = false := by simp; omega
          have t13 : (n.kind == 13) = false := by simp; omega
          have t10 : (n.kind == 10) = false := by simp; omega
          have t1 : (n.kind == 1) = false := by simp; omega
          have t2 : (n.kind == 2) = false := by simp; omega
          have t9 : (n.kind == 9) = false := by simp; omega
          have t7 : (n.kind == 7) = true := by simp; omega
          have HPN := Lib.hid (show plainN k n = [10] by unfold plainN; rw [hhd, htl, hks]; simp [plainL_nil])
          clear hhd htl hk1 hx hks
          go_wp2_with fail
          go_roundw
          case rel => exact ⟨k + 1, _, by omega, by go_num, rfl, (by show _ = _; rw [HTk.out, HPN.out]; simp), HB0⟩
          case measure => simp [intOf]; omega
        · have hhd : headB k n.kind n.text.data.toList = [9] := by unfold headB; rw [if_neg (by omega), if_neg (by omega), if_pos (by omega)]
          have htl : tailB n.kind = [] := by unfold tailB; rw [if_neg (by omega)]
          have t11 : (n.kind == 11) = false := by simp; omega
          have t16 : (n.kind == 16) = false := by simp; omega
          have t18 : (n.kind == 18) = false := by simp; omega
          have t3 : (n.kind == 3) = false := by simp; omega
          have t12 : (n.kind == 12) = false := by simp; omega
          have t13 : (n.kind == 13) = false := by simp; omega
          have t10 : (n.kind == 10) = true := by simp; omega
          have t1 : (n.kind == 1) = false := by simp; omega
          have t2 : (n.kind == 2) = false := by simp; omega
          have t9 : (n.kind == 9) = false := by simp; omega
          have t7 : (n.kind == 7) = false := by simp; omega
          have t0 : decide (0 < k) = true := by simp; omega
          have HPN := Lib.hid (show plainN k n = [9] ++ plainL 0 n.kids by unfold plainN; rw [hhd, htl]; simp)
          clear hhd htl hk1 hx
          go_wp2_with fail
          go_must (refine (HI.out n.kids _ _ HSz.out HKd.out hwk HK2.out).mono ?_)
          rintro e w2 ⟨s2, rfl, hs2, hb2⟩
          have hsz2 : s2.size ≤ weight n.kids := by rw [← size_toList, hs2]; exact HPl.out
          have HS2 := Lib.hid hs2; clear hs2
          have HB2 := Lib.hid (HB0.out.trans (hb2.mono HB0.out.size)); clear hb2
          go_wp2_with fail
          go_roundw
          case rel => exact ⟨k + 1, _, by omega, by go_num, rfl, (by show _ = _; rw [HTk.out, HPN.out]; simp [HS2.out]), HB2⟩
          case measure => simp [intOf]; omega
        · have hhd : headB k n.kind n.text.data.toList = [] := by unfold headB; rw [if_neg (by omega), if_neg (by omega), if_neg (by omega)]
          have htl : tailB n.kind = [] := by unfold tailB; rw [if_neg (by omega)]
          have t11 : (n.kind == 11) = false := by simp; omega
          have t16 : (n.kind == 16) = false := by simp; omega
          have t18 : (n.kind == 18) = false := by simp; omega
          have t3 : (n.kind == 3) = false := by simp; omega
          have t12 : (n.kind == 12) = false := by simp; omega
          have t13 : (n.kind == 13) = false := by simp; omega
          have t10 : (n.kind == 10) = true := by simp; omega
          have t1 : (n.kind == 1) = false := by simp; omega
          have t2 : (n.kind == 2) = false := by simp; omega
          have t9 : (n.kind == 9) = false := by simp; omega
          have t7 : (n.kind == 7) = false := by simp; omega
          have t0 : decide (0 < k) = false := by simp; omega
          have HPN := Lib.hid (show plainN k n = plainL 0 n.kids by unfold plainN; rw [hhd, htl]; simp)
          clear hhd htl hk1 hx
          go_wp2_with fail
          go_must (refine (HI.out n.kids _ _ HSz.out HKd.out hwk HK2.out).mono ?_)
          rintro e w2 ⟨s2, rfl, hs2, hb2⟩
          have hsz2 : s2.size ≤ weight n.kids := by rw [← size_toList, hs2]; exact HPl.out
          have HS2 := Lib.hid hs2; clear hs2
          have HB2 := Lib.hid (HB0.out.trans (hb2.mono HB0.out.size)); clear hb2
          go_wp2_with fail
          go_roundw
          case rel => exact ⟨k + 1, _, by omega, by go_num, rfl, (by show _ = _; rw [HTk.out, HPN.out]; simp [HS2.out]), HB2⟩
          case measure => simp [intOf]; omega
        · have hhd : headB k n.kind n.text.data.toList = [] := by unfold headB; rw [if_neg (by omega), if_neg (by omega), if_neg (by omega)]
          have htl : tailB n.kind = [] := by unfold tailB; rw [if_neg (by omega)]
          have t11 : (n.kind == 11) = false := by simp; omega
          have t16 : (n.kind == 16) = false := by simp; omega
          have t18 : (n.kind == 18) = false := by simp; omega
          have t3 : (n.kind == 3) = false := by simp; omega
          have t12 : (n.kind == 12) = false := by simp; omega
          have t13 : (n.kind == 13) = false := by simp; omega
          have t10 : (n.kind == 10) = false := by simp; omega
          have t1 : (n.kind == 1) = false := by simp; omega
          have t2 : (n.kind == 2) = false := by simp; omega
          have t9 : (n.kind == 9) = false := by simp; omega
          have t7 : (n.kind == 7) = false := by simp; omega
          have HPN := Lib.hid (show plainN k n = plainL 0 n.kids by unfold plainN; rw [hhd, htl]; simp)
          clear hhd htl hk1 hx
          go_wp2_with fail
          go_must (refine (HI.out n.kids _ _ HSz.out HKd.out hwk HK2.out).mono ?_)
          rintro e w2 ⟨s2, rfl, hs2, hb2⟩
          have hsz2 : s2.size ≤ weight n.kids := by rw [← size_toList, hs2]; exact HPl.out
          have HS2 := Lib.hid hs2; clear hs2
          have HB2 := Lib.hid (HB0.out.trans (hb2.mono HB0.out.size)); clear hb2
          go_wp2_with fail
          go_roundw
          case rel => exact ⟨k + 1, _, by omega, by go_num, rfl, (by show _ = _; rw [HTk.out, HPN.out]; simp [HS2.out]), HB2⟩
          case measure => simp [intOf]; omega
      · have hke : l.take k = l := by rw [List.take_of_length_le (by omega)]
        have HF := Lib.hid (hcs.out.trans (by rw [hke])); clear hke
        go_wp2_with fail
        go_ret
        exact ⟨s, rfl, HF.out, hbel.out⟩

end Go.Proofs.YtphmhhonbkcajaaDoor
