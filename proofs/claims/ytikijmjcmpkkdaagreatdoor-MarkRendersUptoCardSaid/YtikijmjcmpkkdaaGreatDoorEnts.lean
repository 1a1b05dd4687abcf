/-
  The entries of the contents as the reference makes them: mastref1.taken, EntriesOf, IdsOf.
-/
import Derived.Test.YtikijmjcmpkkdaaGreatDoorIds
import Derived.Test.YtikijmjcmpkkdaaGreatDoorSlugOf
import Derived.Test.YtikijmjcmpkkdaaGreatDoorPlainOf
namespace Go.Proofs.YtikijmjcmpkkdaaGreatDoor
open Go.RowKit Go.Deep

def entC (e : Entry) : List Value := [.int .i64 e.level, .string e.id, .string e.text]
def entsC (L : List Entry) : List Value := L.flatMap entC
theorem entsC_len (L : List Entry) : (entsC L).length = L.length * 3 := by
  induction L with
  | nil => rfl
  | cons d r ih => simp only [entsC, List.flatMap_cons, List.length_append, List.length_cons, entC, List.length_nil] at ih ⊢; omega
theorem entsC_snoc (L : List Entry) (e : Entry) : entsC (L ++ [e]) = entsC L ++ [.int .i64 e.level, .string e.id, .string e.text] := by simp [entsC, entC]
theorem entsC_at : ∀ (l : List Entry) (i : Nat) (a : Entry), l[i]? = some a → ∀ j, j < 3 → (entsC l)[i * 3 + j]? = (entC a)[j]?
  | [], i, a, h => by simp at h
  | b :: r, 0, a, h => by
    simp at h
    subst h
    intro j hj
    rw [show entsC (b :: r) = entC b ++ entsC r from rfl, Nat.zero_mul, Nat.zero_add, List.getElem?_append_left (by simp [entC]; omega)]
  | b :: r, i + 1, a, h => by
    intro j hj
    have ih := entsC_at r i a (by simpa using h) j hj
    rw [show entsC (b :: r) = entC b ++ entsC r from rfl, List.getElem?_append_right (by simp [entC]; omega)]
    rw [show (i + 1) * 3 + j - (entC b).length = i * 3 + j by simp [entC]; omega]
    exact ih
theorem info_entry : (Tryz.prog.info? 43).map (fun i => (i.zero, i.size, i.bytes)) = some (some (.agg #[.int .i64 0, .string ⟨#[]⟩, .string ⟨#[]⟩]), 3, 40) := by kernel_rfl
theorem three_one (a : Int) (x y : ByteArray) : ∀ u ∈ [Value.int .i64 a, Value.string x, Value.string y], u.oneCell' = true := by
  intro u hu
  simp only [List.mem_cons, List.not_mem_nil, or_false] at hu
  rcases hu with rfl | rfl | rfl <;> rfl
def entIds (E : List Entry) : List (List UInt8) := E.map (fun e => e.id.data.toList)
/-- the entries of the first k headings -/
def entK (hs : List Node) (k : Nat) : List Entry := entL (hs.take k) (idsL (hs.take k))
def entOf (x : Node) (id : List UInt8) : Entry := ⟨x.level, ⟨id.toArray⟩, lineS x⟩
theorem entK_zero (hs : List Node) : entK hs 0 = [] := rfl
theorem entK_succ {hs : List Node} {k : Nat} {x : Node} (h : hs[k]? = some x) : entK hs (k + 1) = entK hs k ++ [entOf x (fresh (idsL (hs.take k)) (baseB (slugN x)))] := by
  unfold entK entL
  rw [idsL_take h]
  obtain ⟨hk, rfl⟩ := List.getElem?_eq_some_iff.1 h
  rw [List.take_succ_eq_append_getElem hk, List.zip_append (by rw [idsL_len]), List.map_append]
  rfl
theorem entK_len {hs : List Node} : ∀ k, k ≤ hs.length → (entK hs k).length = k := by
  intro k hk
  unfold entK entL
  rw [List.length_map, List.length_zip, idsL_len, List.length_take]
  omega
theorem entK_ids {hs : List Node} : ∀ k, k ≤ hs.length → entIds (entK hs k) = idsL (hs.take k) := by
  intro k
  induction k with
  | zero => intro _; rfl
  | succ k ih =>
    intro hk
    rw [entK_succ (List.getElem?_eq_getElem (by omega)), entIds, List.map_append, idsL_take (List.getElem?_eq_getElem (by omega)), ← ih (by omega)]
    rfl
theorem strE_ne {a b : ByteArray} (h : a ≠ b) : (a.toList == b.toList) = false := by
  rw [Go.ByteArray.toList_eq, Go.ByteArray.toList_eq, beq_eq_false_iff_ne]
  exact fun he => h (Go.WideShapes.bytes_inj he)

set_option maxRecDepth 100000 in
set_option maxHeartbeats 2000000 in
theorem taken_q (B n : Nat) (E : List Entry) (v : Value) (s : ByteArray) (r : Bool) (w : World) (h : w.ownsRow B 43 3 v n (entsC E)) (hn : E.length = n) (hr : decide (s.data.toList ∈ entIds E) = r) :
    Calls Tryz.prog 24 #[v, .string s] w fun e w' => e = .returned (.bool r) ∧ Below w.heap.size w w' := by
  obtain ⟨A, c, rfl, hc, hnc, hA⟩ := own_form h
  have HA := Lib.hid hA
  have HO := Lib.hid h
  have HR := Lib.hid hr
  have HNn := Lib.hid hn
  obtain ⟨K, hK⟩ : ∃ K, w.heap.size = K := ⟨_, rfl⟩
  have HK := Lib.hid hK
  rw [hK]
  unfold maxLen at hc
  clear h hA hr hn hK
  go_enter Tryz.func24, Tryz.ntmps24
  go_wp2_with fail
  go_loopw [9] (fun t9 wr => ∃ j : Nat, j ≤ n ∧ t9 = .int .i64 j ∧ Hid (Below K w wr) ∧ Hid (∀ (i : Nat) (y : Entry), i < j → E[i]? = some y → y.id ≠ s)) (fun t _ => n - (intOf t).toNat)
  case atStart => exact ⟨0, Nat.zero_le _, rfl, Below.refl _ _, fun i y hi => absurd hi (by omega)⟩
  case round =>
    obtain ⟨j, hj, rfl, HB, HM⟩ := hrel
    have hKw : K ≤ wr.heap.size := by have := HB.out.size; have := HK.out; omega
    by_cases hlt : j < n
    · obtain ⟨x, hx⟩ : ∃ x, E[j]? = some x := ⟨_, List.getElem?_eq_getElem (by have := HNn.out; omega)⟩
      obtain ⟨g, rfl, _, _⟩ := HA.out (by omega)
      have HOr := own_belowK HO.out (by rw [HK.out]; exact HB.out)
      have r0 := (HOr.cellAt (j * 3 + 0) (by omega)).trans (entsC_at E j x hx 0 (by omega))
      have r1 := (HOr.cellAt (j * 3 + 1) (by omega)).trans (entsC_at E j x hx 1 (by omega))
      have r2 := (HOr.cellAt (j * 3 + 2) (by omega)).trans (entsC_at E j x hx 2 (by omega))
      simp only [entC, List.getElem?_cons_zero, List.getElem?_cons_succ, Nat.add_zero] at r0 r1 r2
      have HX := Lib.hid hx
      clear hx HOr
      by_cases hs : x.id = s
      · have hR : r = true := by
          rw [← HR.out, decide_eq_true_eq]
          exact List.mem_map.2 ⟨x, List.mem_of_getElem? HX.out, by rw [hs]⟩
        have HRt := Lib.hid hR
        subst hs
        clear hR
        go_wp2_with fail
        go_ret
        exact ⟨ret_bool HRt.out.symm, HB.out.alloc hKw _⟩
      · have hs1 := strE_ne hs
        have HS := Lib.hid hs
        clear hs
        go_wp2_with fail
        go_roundw
        case rel => exact ⟨j + 1, by omega, by go_num, HB.out.alloc hKw _, fun i y hi hy => by
          rcases Nat.lt_or_ge i j with h9 | h9
          · exact HM.out i y h9 hy
          · obtain rfl : i = j := by omega
            rw [HX.out] at hy
            cases hy
            exact HS.out⟩
        case measure => simp [intOf]; omega
    · have hR : r = false := by
        rw [← HR.out, decide_eq_false_iff_not]
        intro hm
        obtain ⟨y, hy, hy2⟩ := List.mem_map.1 hm
        obtain ⟨i, hi⟩ := List.mem_iff_getElem?.1 hy
        exact HM.out i y (by have := (List.getElem?_eq_some_iff.1 hi).1; have := HNn.out; omega) hi (Go.WideShapes.bytes_inj hy2)
      have HRt := Lib.hid hR
      clear hR
      go_wp2_with fail
      go_ret
      exact ⟨ret_bool HRt.out.symm, HB.out⟩

/-- a list of entries of the call's own -/
def EntsPost (N : Nat) (E : List Entry) (w : World) (e : Ending) (w' : World) : Prop :=
  ∃ (A : Option Addr) (c : Nat), e = .returned (.slice A E.length c) ∧ w'.ownsRow N 43 3 (.slice A E.length c) E.length (entsC E) ∧ Below N w w'
/-- in the midst -/
structure EnSt (N B2 B3 : Nat) (w wr : World) (hv : Value) (ps : List (Node × Value)) (E : List Entry) (v : Value) (n : Nat) : Prop where
  out : wr.ownsRow B3 43 3 v n (entsC E)
  heads : wr.ownsRow B2 45 6 hv ps.length (hcells ps)
  bel : Below N w wr
  hvB : ∀ b, hv.ownBlock = some b → b < B3
  k2 : N ≤ B2
  k3 : B2 ≤ B3
  sz : B3 ≤ wr.heap.size
section
variable {N B2 B3 : Nat} {w wr w' : World} {hv : Value} {ps : List (Node × Value)} {E : List Entry} {v : Value} {n : Nat}
theorem EnSt.below (h : EnSt N B2 B3 w wr hv ps E v n) (hb : Below wr.heap.size wr w') : EnSt N B2 B3 w w' hv ps E v n := by
  have h2 := h.k2; have h3 := h.k3; have h4 := h.sz
  exact ⟨own_belowK h.out hb, own_belowK h.heads hb, h.bel.trans (hb.mono (by omega)), h.hvB, h.k2, h.k3, by have := hb.size; omega⟩
theorem EnSt.alloc (h : EnSt N B2 B3 w wr hv ps E v n) (o : Obj) : EnSt N B2 B3 w (wr.alloc o) hv ps E v n := h.below ((Below.refl _ _).alloc (Nat.le_refl _) o)
theorem EnSt.push (h : EnSt N B2 B3 w wr hv ps E v n) {E' : List Entry} {u : Value} {m : Nat} (ho : w'.ownsRow B3 43 3 u m (entsC E')) (hg : wr.grownBy w' v.ownBlock) (hb : Below B3 wr w') : EnSt N B2 B3 w w' hv ps E' u m := by
  have h2 := h.k2; have h3 := h.k3; have h4 := h.sz
  have ge := own_block_ge h.out
  exact ⟨ho, h.heads.kept hg (by
    cases hvb : hv.ownBlock with
    | none => exact Or.inl rfl
    | some b => exact Or.inr (fun e => by have := ge _ e.symm; have := h.hvB b hvb; omega)), h.bel.trans (hb.mono (by omega)), h.hvB, h.k2, h.k3, by have := hb.size; omega⟩
end
/-- the id that is tried at number q -/
def candB (b : List UInt8) (q : Nat) : List UInt8 := if q = 2 then b else nm b (q - 1)
structure CandOk (L : List (List UInt8)) (b : List UInt8) (q : Nat) (s : List UInt8) : Prop where
  ge : 2 ≤ q
  le : q ≤ freeK L b + 1
  eq : s = candB b q
  all : 3 ≤ q → b ∈ L ∧ ∀ j, 2 ≤ j → j < q - 1 → nm b j ∈ L
theorem CandOk.start (L : List (List UInt8)) (b : List UInt8) : CandOk L b 2 b := ⟨Nat.le_refl _, by have := (freeK_spec L b).1; omega, by rw [candB, if_pos rfl], fun h => absurd h (by omega)⟩
theorem CandOk.next {L : List (List UInt8)} {b s : List UInt8} {q : Nat} (h : CandOk L b q s) (hs : s ∈ L) : CandOk L b (q + 1) (nm b q) ∧ q < freeK L b + 1 := by
  obtain ⟨h1, h2, h3, h4⟩ := h
  obtain ⟨f1, f2, f3, f4⟩ := freeK_spec L b
  by_cases hq : q = 2
  · subst hq
    rw [candB, if_pos rfl] at h3
    subst h3
    exact ⟨⟨by omega, by omega, by rw [candB, if_neg (by omega)], fun _ => ⟨hs, fun j h5 h6 => absurd h5 (by omega)⟩⟩, by omega⟩
  · obtain ⟨h5, h6⟩ := h4 (by omega)
    rw [candB, if_neg hq] at h3
    subst h3
    have hlt : q - 1 < freeK L b := by
      rcases Nat.lt_or_ge (q - 1) (freeK L b) with h7 | h7
      · exact h7
      · have : q - 1 = freeK L b := by omega
        rw [this] at hs
        exact absurd hs f3
    refine ⟨⟨by omega, by omega, by rw [candB, if_neg (by omega), show q + 1 - 1 = q by omega], fun _ => ⟨h5, fun j h8 h9 => ?_⟩⟩, by omega⟩
    rcases Nat.lt_or_ge j (q - 1) with h10 | h10
    · exact h6 j h8 h10
    · rw [show j = q - 1 by omega]; exact hs
theorem CandOk.done {L : List (List UInt8)} {b s : List UInt8} {q : Nat} (h : CandOk L b q s) (hs : s ∉ L) : fresh L b = s := by
  obtain ⟨h1, h2, h3, h4⟩ := h
  by_cases hq : q = 2
  · subst hq
    rw [candB, if_pos rfl] at h3
    subst h3
    rw [fresh, if_neg hs]
  · obtain ⟨h5, h6⟩ := h4 (by omega)
    rw [candB, if_neg hq] at h3
    subst h3
    rw [fresh, if_pos h5, freeK_is (by omega) hs h6]

set_option maxRecDepth 100000 in
set_option maxHeartbeats 8000000 in
theorem entriesOf_q (l : List Node) (v : Value) (w : World) (h : NodesAt w v l) (hd : docErr l = 0) (hw : weight l ≤ 1048576) (htab : TabOk w) : Calls Tryz.prog 9 #[v] w (EntsPost w.heap.size (entK (headsL l) (headsL l).length) w) := by
  have H := Lib.hid h
  have HTab := Lib.hid htab
  obtain ⟨An, cn, bl, ol, kvn, rfl, hlc, hcn, _, _, _⟩ := h.inv
  have ht : total l ≤ 4000 := (docErr_zero hd).1
  obtain ⟨N, hN⟩ : ∃ N, w.heap.size = N := ⟨_, rfl⟩
  have HN := Lib.hid hN
  obtain ⟨hs, hhs⟩ : ∃ hs, headsL l = hs := ⟨_, rfl⟩
  have hhl : hs.length ≤ 4000 := by rw [← hhs]; have := heads_len l; omega
  have HWt := Lib.hid (show ∀ n ∈ hs, weight n.kids ≤ 1048576 from fun n hn => by rw [← hhs] at hn; have := heads_weight _ l (Nat.le_refl _) n hn; omega)
  have HKl := Lib.hid (show ∀ n ∈ hs, Kidless n.kids from fun n hn => by rw [← hhs] at hn; exact heads_kidless _ l (Nat.le_refl _) (docErr_kidless hd) n hn)
  have HHs := Lib.hid (show headsR l = hs by rw [doc_heads hd, hhs])
  rw [hhs, hN]
  unfold maxLen at hcn
  clear hhs h htab hw hN hd
  go_enter Tryz.func9, Tryz.ntmps9
  go_wp2_with fail
  have hcall := headingsR_any w _ l (.slice An l.length cn) w (Nat.le_refl _) H.out (Keeps.refl _) (by omega)
  rw [HHs.out] at hcall
  refine hcall.mono ?_
  clear hcall
  rintro e w3 ⟨Ah, ch, ps, rfl, hps, hok, ownh, hb3⟩
  rw [HN.out] at ownh hb3
  have HPs := Lib.hid hps
  have HOk := Lib.hid hok
  have hpl : ps.length = hs.length := ps_len hps
  have hpl2 : ps.length ≤ 4000 := by omega
  have HPl := Lib.hid hpl
  obtain ⟨_, _, hv3, hch, hlch, hA3⟩ := own_form ownh
  cases hv3
  have HA3 := Lib.hid hA3
  unfold maxLen at hch
  obtain ⟨B3, hB3⟩ : ∃ B, w3.heap.size = B := ⟨_, rfl⟩
  have HSt0 := Lib.hid (show EnSt N N B3 w w3 (.slice Ah ps.length ch) ps (entK hs 0) (.slice none 0 0) 0 from
    ⟨World.ownsRow_nil _ _ _ _, ownh, hb3, (fun b hb => by rw [← hB3]; exact own_lt ownh b hb), Nat.le_refl _, (by have := hb3.size; have := HN.out; omega), by omega⟩)
  clear hps hok ownh hb3 hpl hB3 hA3
  go_wp2_with fail
  try go_frame
  go_loopw [13, 3] (fun t13 t3 wr => ∃ (k : Nat) (A : Option Addr) (c : Nat), k ≤ ps.length ∧ t13 = .int .i64 k ∧ t3 = .slice A k c ∧ Hid (EnSt N N B3 w wr (.slice Ah ps.length ch) ps (entK hs k) (.slice A k c) k)) (fun t _ _ => ps.length - (intOf t).toNat)
  case atStart => exact ⟨0, none, 0, Nat.zero_le _, rfl, rfl, HSt0⟩
  case round =>
    clear HSt0
    obtain ⟨k, A, c, hk, rfl, rfl, HSt⟩ := hrel
    by_cases hlt : k < ps.length
    · obtain ⟨p, hp⟩ : ∃ p, ps[k]? = some p := ⟨_, List.getElem?_eq_getElem hlt⟩
      obtain ⟨gh, rfl, _, hgh⟩ := HA3.out (by omega)
      obtain ⟨⟨q0, q1, q2, q3, q4⟩, hkd⟩ := HOk.out p (List.mem_of_getElem? hp)
      obtain ⟨x, kv⟩ := p
      simp only at q0 q1 q2 q3 q4 hkd
      have hxs : hs[k]? = some x := by rw [← HPs.out, List.getElem?_map, hp]; rfl
      have hwx : weight x.kids ≤ 1048576 := HWt.out x (List.mem_of_getElem? hxs)
      have HKx := Lib.hid (HKl.out x (List.mem_of_getElem? hxs))
      obtain ⟨A3, c3, b3, o3, k3, rfl, _, _, _, _, _⟩ := hkd.inv
      have hc9 := fun j (hj : j < 6) => (HSt.out.heads.cellAt (k * 6 + j) (by omega)).trans (hcells_at ps k _ hp j hj)
      have r0 := hc9 0 (by omega)
      have r1 := hc9 1 (by omega)
      have r2 := hc9 2 (by omega)
      have r3 := hc9 3 (by omega)
      have r4 := hc9 4 (by omega)
      have r5 := hc9 5 (by omega)
      simp only [nodeVals, List.getElem?_cons_zero, List.getElem?_cons_succ, Nat.add_zero] at r0 r1 r2 r3 r4 r5
      have HKd := Lib.hid hkd
      have HIt := Lib.hid (entK_succ hxs)
      have HIk := Lib.hid (entK_ids (hs := hs) k (by have := HPl.out; omega))
      have HLk := Lib.hid (entK_len (hs := hs) k (by have := HPl.out; omega))
      have hLl : (idsL (hs.take k)).length = k := by rw [idsL_len, List.length_take]; have := HPl.out; omega
      obtain ⟨L, hL⟩ : ∃ L, idsL (hs.take k) = L := ⟨_, rfl⟩
      obtain ⟨E, hE⟩ : ∃ E, entK hs k = E := ⟨_, rfl⟩
      rw [hL] at HIt HIk hLl
      rw [hE] at HIt HIk HSt HLk
      have HLl := Lib.hid hLl
      have HSt1 := Lib.hid (HSt.out.alloc (nodeBox x (.slice A3 x.kids.length c3)))
      obtain ⟨wz, hwz⟩ : ∃ z, z = wr := ⟨_, rfl⟩
      subst hwz
      have HY1 := Lib.hid (CB.new wz #[.int .i64 x.kind, .int .i64 x.level, .string x.text, .string x.dest, .string x.title, .slice A3 x.kids.length c3] 45)
      have HKd1 := Lib.hid (HKd.out.keep (Keeps.of_below (by rw [HN.out]; exact HSt1.out.bel)))
      clear hc9 hkd hp hxs hL hE q0 q1 q2 q3 q4 hLl
      have HSz := Lib.hid (slugN_len x)
      have HPL := Lib.hid (plainOf_any _ x.kids _ _ (Nat.le_refl _) HKd1.out (by omega) HKx.out)
      obtain ⟨z, hz⟩ : ∃ z : ByteArray, (⟨(slugN x).toArray⟩ : ByteArray) = z := ⟨_, rfl⟩
      have hzl : z.data.toList = slugN x := by rw [← hz]
      have HZ := Lib.hid hz
      have hzs : z.size ≤ 1048576 := by rw [← size_toList, hzl]; have := HSz.out; omega
      clear hz
      go_wp2_with fail
      refine HPL.out.mono ?_
      rintro e w4 ⟨ls, rfl, hls, hb4⟩
      have hlsz : ls.size ≤ 1048576 := by rw [← size_toList, hls]; exact Nat.le_trans (plain_len _ _) hwx
      have HLs := Lib.hid hls
      have HSt4 := Lib.hid (HSt1.out.below hb4)
      have HY4 := Lib.hid (HY1.out.below hb4)
      clear hb4 hls
      go_wp2_with fail
      refine (slugOf_any ls w4 hlsz).mono ?_
      rw [slug_law, HLs.out, show slugEnd (slugF (plainL 0 x.kids)) = slugN x from rfl, HZ.out]
      rintro e w5 ⟨rfl, hb5⟩
      have HSt5 := Lib.hid (HSt4.out.below hb5)
      have HY5 := Lib.hid (HY4.out.below hb5)
      clear hb5
      obtain ⟨zb, hzb⟩ : ∃ zb : ByteArray, (⟨(baseB (slugN x)).toArray⟩ : ByteArray) = zb := ⟨_, rfl⟩
      have hzbl : zb.data.toList = baseB (slugN x) := by rw [← hzb]
      have hzbs : zb.size ≤ 1048583 := by rw [← size_toList, hzbl]; have h8 := HSz.out; have h9 := baseB_len (slugN x); omega
      have HZb := Lib.hid hzbl
      have key : (z.toList = [] ∧ (⟨#[115, 101, 99, 116, 105, 111, 110]⟩ : ByteArray) = zb) ∨ (¬ z.toList = [] ∧ z = zb) := by
        by_cases h0 : slugN x = []
        · exact Or.inl ⟨by rw [Go.ByteArray.toList_eq, hzl, h0], by rw [← hzb, h0]; rfl⟩
        · refine Or.inr ⟨by rw [Go.ByteArray.toList_eq, hzl]; exact h0, ?_⟩
          rw [← hzb, ← HZ.out, baseB, if_neg h0]
      clear hzb hzbl hzl
      rcases key with ⟨h0, hzb⟩ | ⟨h0, hzb⟩
      case inl =>
        have h0b : (z.toList == []) = true := by simpa using h0
        have h0c : (z.toList != []) = false := by simpa using h0
        have HZz := Lib.hid hzb
        clear hzb
        go_upto_region 9 with (fail)
        rw [HZz.out]
        clear HZz h0 h0b h0c
        go_wp2_with fail
        try go_frame
        obtain ⟨K, hK⟩ : ∃ K, freeK L (baseB (slugN x)) = K := ⟨_, rfl⟩
        have hK9 : K ≤ 4002 := by rw [← hK]; have h8 := (freeK_spec L (baseB (slugN x))).2.1; have := HLl.out; omega
        have HK := Lib.hid hK
        clear hK
        go_loopw [8, 9] (fun t8 t9 wr => ∃ (q : Nat) (idb : ByteArray), 2 ≤ q ∧ q ≤ K + 1 ∧ t9 = .int .i64 q ∧ t8 = .string idb ∧ idb.size ≤ 1048700 ∧ Hid (CandOk L (baseB (slugN x)) q idb.data.toList) ∧ Hid (EnSt N N B3 w wr (.slice (some ⟨gh, 0, none⟩) ps.length ch) ps E (.slice A k c) k) ∧ Hid (CB wr wz.heap.size 45 #[.int .i64 x.kind, .int .i64 x.level, .string x.text, .string x.dest, .string x.title, .slice A3 x.kids.length c3])) (fun _ t _ => K + 1 - (intOf t).toNat)
        case atStart => exact ⟨2, zb, Nat.le_refl _, (by have := (freeK_spec L (baseB (slugN x))).1; have := HK.out; omega), rfl, rfl, by omega, Lib.hid (by rw [HZb.out]; exact CandOk.start L _), HSt5, HY5⟩
        case round =>
          clear HSt5 HY5
          obtain ⟨q, idb, hq1, hq2, rfl, rfl, hids, HCa, HStq, HYq⟩ := hrel
          by_cases hin : idb.data.toList ∈ L
          · obtain ⟨hca, hq3⟩ := HCa.out.next hin
            have HTk := Lib.hid (show decide (idb.data.toList ∈ entIds E) = true by rw [HIk.out]; exact decide_eq_true hin)
            have HCa2 := Lib.hid hca
            have hq4 : q < K + 1 := by rw [← HK.out]; exact hq3
            obtain ⟨sk, hsk⟩ : ∃ s : ByteArray, (⟨(Lib.itoa (q : Int)).toArray⟩ : ByteArray) = s := ⟨_, rfl⟩
            have hsks : sk.size ≤ 21 := by rw [← hsk]; exact itoa_size q (by omega)
            have HSk := Lib.hid hsk
            have HNm := Lib.hid (nm_str zb sk q hsk)
            have hz1 : (zb ++ ⟨#[45]⟩ ++ sk).size ≤ 1048700 := by simp only [ByteArray.size_append]; have : (⟨#[45]⟩ : ByteArray).size = 1 := rfl; omega
            clear hin hca hq3 hsk
            go_wp2_with fail
            refine (taken_q B3 k E _ idb true _ HStq.out.out HLk.out HTk.out).mono ?_
            rintro e w6 ⟨rfl, hb6⟩
            have HSt6 := Lib.hid (HStq.out.below hb6)
            have HY6 := Lib.hid (HYq.out.below hb6)
            clear hb6
            go_wp2_with fail
            refine (itoa_k q sk _ (by omega) HSk.out (HTab.out.keep (by rw [HN.out]; exact HSt6.out.bel))).mono ?_
            rintro e w7 ⟨rfl, hb7⟩
            have HSt7 := Lib.hid (HSt6.out.below hb7)
            have HY7 := Lib.hid (HY6.out.below hb7)
            clear hb7
            go_wp2_with fail
            go_roundw
            case rel => exact ⟨q + 1, _, by omega, by omega, by go_num, rfl, hz1, Lib.hid (by rw [HNm.out, HZb.out]; exact HCa2.out), HSt7, HY7⟩
            case measure => simp [intOf]; omega
          · have HFr := Lib.hid (HCa.out.done hin)
            have HTk := Lib.hid (show decide (idb.data.toList ∈ entIds E) = false by rw [HIk.out]; exact decide_eq_false hin)
            clear hin
            go_wp2_with fail
            refine (taken_q B3 k E _ idb false _ HStq.out.out HLk.out HTk.out).mono ?_
            rintro e w6 ⟨rfl, hb6⟩
            have HSt6 := Lib.hid (HStq.out.below hb6)
            have HY6 := Lib.hid (HYq.out.below hb6)
            have by1 := HY6.out.c 1
            have HLs2 := Lib.hid (show lineS x = ls from Go.WideShapes.bytes_inj (by rw [HLs.out]; rfl))
            clear hb6
            go_wp2_with (at_builtin; go_loud (go_must (refine wpList_push _ rfl (.tmp 35) (.tmp 41) 30 rfl B3 43 _ 3 40 Tryz.underlying30 info_entry rfl (by omega) (.slice A k c) k _ rfl (own_alloc HSt6.out.out _) [.int .i64 x.level, .string idb, .string ls] rfl _ rfl (cell_new _ [.int .i64 x.level, .string idb, .string ls] 43 _ rfl) (three_one _ _ _) (by omega) (by unfold maxLen; omega) (by have := HSt6.out.sz; simp; omega) ?_); intro g7 c7 w7 own7 hg7 hgg7 hb7; have HSt7 := Lib.hid ((HSt6.out.alloc (.cells #[.int .i64 x.level, .string idb, .string ls] 43)).push (E' := E ++ [⟨x.level, idb, ls⟩]) (by rw [entsC_snoc]; exact own7) hg7 hb7); clear own7 hg7 hgg7 hb7))
            go_roundw
            case rel => exact ⟨k + 1, some ⟨g7, 0, none⟩, c7, by omega, by go_num, rfl, Lib.hid (by rw [HIt.out, HFr.out]; unfold entOf; rw [HLs2.out]; exact HSt7.out)⟩
            case measure => simp [intOf]; omega
      case inr =>
        subst hzb
        have h0b : (z.toList == []) = false := by simpa using h0
        have h0c : (z.toList != []) = true := by simpa using h0
        go_upto_region 9 with (fail)
        clear h0 h0b h0c
        go_wp2_with fail
        try go_frame
        obtain ⟨K, hK⟩ : ∃ K, freeK L (baseB (slugN x)) = K := ⟨_, rfl⟩
        have hK9 : K ≤ 4002 := by rw [← hK]; have h8 := (freeK_spec L (baseB (slugN x))).2.1; have := HLl.out; omega
        have HK := Lib.hid hK
        clear hK
        go_loopw [8, 9] (fun t8 t9 wr => ∃ (q : Nat) (idb : ByteArray), 2 ≤ q ∧ q ≤ K + 1 ∧ t9 = .int .i64 q ∧ t8 = .string idb ∧ idb.size ≤ 1048700 ∧ Hid (CandOk L (baseB (slugN x)) q idb.data.toList) ∧ Hid (EnSt N N B3 w wr (.slice (some ⟨gh, 0, none⟩) ps.length ch) ps E (.slice A k c) k) ∧ Hid (CB wr wz.heap.size 45 #[.int .i64 x.kind, .int .i64 x.level, .string x.text, .string x.dest, .string x.title, .slice A3 x.kids.length c3])) (fun _ t _ => K + 1 - (intOf t).toNat)
        case atStart => exact ⟨2, z, Nat.le_refl _, (by have := (freeK_spec L (baseB (slugN x))).1; have := HK.out; omega), rfl, rfl, by omega, Lib.hid (by rw [HZb.out]; exact CandOk.start L _), HSt5, HY5⟩
        case round =>
          clear HSt5 HY5
          obtain ⟨q, idb, hq1, hq2, rfl, rfl, hids, HCa, HStq, HYq⟩ := hrel
          by_cases hin : idb.data.toList ∈ L
          · obtain ⟨hca, hq3⟩ := HCa.out.next hin
            have HTk := Lib.hid (show decide (idb.data.toList ∈ entIds E) = true by rw [HIk.out]; exact decide_eq_true hin)
            have HCa2 := Lib.hid hca
            have hq4 : q < K + 1 := by rw [← HK.out]; exact hq3
            obtain ⟨sk, hsk⟩ : ∃ s : ByteArray, (⟨(Lib.itoa (q : Int)).toArray⟩ : ByteArray) = s := ⟨_, rfl⟩
            have hsks : sk.size ≤ 21 := by rw [← hsk]; exact itoa_size q (by omega)
            have HSk := Lib.hid hsk
            have HNm := Lib.hid (nm_str z sk q hsk)
            have hz1 : (z ++ ⟨#[45]⟩ ++ sk).size ≤ 1048700 := by simp only [ByteArray.size_append]; have : (⟨#[45]⟩ : ByteArray).size = 1 := rfl; omega
            clear hin hca hq3 hsk
            go_wp2_with fail
            refine (taken_q B3 k E _ idb true _ HStq.out.out HLk.out HTk.out).mono ?_
            rintro e w6 ⟨rfl, hb6⟩
            have HSt6 := Lib.hid (HStq.out.below hb6)
            have HY6 := Lib.hid (HYq.out.below hb6)
            clear hb6
            go_wp2_with fail
            refine (itoa_k q sk _ (by omega) HSk.out (HTab.out.keep (by rw [HN.out]; exact HSt6.out.bel))).mono ?_
            rintro e w7 ⟨rfl, hb7⟩
            have HSt7 := Lib.hid (HSt6.out.below hb7)
            have HY7 := Lib.hid (HY6.out.below hb7)
            clear hb7
            go_wp2_with fail
            go_roundw
            case rel => exact ⟨q + 1, _, by omega, by omega, by go_num, rfl, hz1, Lib.hid (by rw [HNm.out, HZb.out]; exact HCa2.out), HSt7, HY7⟩
            case measure => simp [intOf]; omega
          · have HFr := Lib.hid (HCa.out.done hin)
            have HTk := Lib.hid (show decide (idb.data.toList ∈ entIds E) = false by rw [HIk.out]; exact decide_eq_false hin)
            clear hin
            go_wp2_with fail
            refine (taken_q B3 k E _ idb false _ HStq.out.out HLk.out HTk.out).mono ?_
            rintro e w6 ⟨rfl, hb6⟩
            have HSt6 := Lib.hid (HStq.out.below hb6)
            have HY6 := Lib.hid (HYq.out.below hb6)
            have by1 := HY6.out.c 1
            have HLs2 := Lib.hid (show lineS x = ls from Go.WideShapes.bytes_inj (by rw [HLs.out]; rfl))
            clear hb6
            go_wp2_with (at_builtin; go_loud (go_must (refine wpList_push _ rfl (.tmp 35) (.tmp 41) 30 rfl B3 43 _ 3 40 Tryz.underlying30 info_entry rfl (by omega) (.slice A k c) k _ rfl (own_alloc HSt6.out.out _) [.int .i64 x.level, .string idb, .string ls] rfl _ rfl (cell_new _ [.int .i64 x.level, .string idb, .string ls] 43 _ rfl) (three_one _ _ _) (by omega) (by unfold maxLen; omega) (by have := HSt6.out.sz; simp; omega) ?_); intro g7 c7 w7 own7 hg7 hgg7 hb7; have HSt7 := Lib.hid ((HSt6.out.alloc (.cells #[.int .i64 x.level, .string idb, .string ls] 43)).push (E' := E ++ [⟨x.level, idb, ls⟩]) (by rw [entsC_snoc]; exact own7) hg7 hb7); clear own7 hg7 hgg7 hb7))
            go_roundw
            case rel => exact ⟨k + 1, some ⟨g7, 0, none⟩, c7, by omega, by go_num, rfl, Lib.hid (by rw [HIt.out, HFr.out]; unfold entOf; rw [HLs2.out]; exact HSt7.out)⟩
            case measure => simp [intOf]; omega
    · obtain rfl : k = ps.length := by omega
      have HSe := HSt
      have hl9 : (entK hs hs.length).length = hs.length := entK_len _ (Nat.le_refl _)
      have HL9 := Lib.hid hl9
      rw [HPl.out] at HSe
      clear hl9 HSt
      go_wp2_with fail
      go_ret
      have hO9 := HSe.out.out
      have hk2 := HSe.out.k3
      refine ⟨A, c, ?_, ?_, HSe.out.bel⟩
      · rw [HL9.out, HPl.out]; rfl
      · rw [HL9.out]; exact own_lower hO9 (by omega)

set_option maxRecDepth 100000 in
set_option maxHeartbeats 4000000 in
theorem idsOf_q (B : Nat) (E : List Entry) (v : Value) (n : Nat) (w : World) (h : w.ownsRow B 43 3 v n (entsC E)) (hn : E.length = n) (hn2 : n ≤ 4000) :
    Calls Tryz.prog 8 #[v] w (StrsPost w.heap.size (entIds E) w) := by
  obtain ⟨A, c, rfl, hc, hnc, hA⟩ := own_form h
  have HA := Lib.hid hA
  have HO := Lib.hid h
  have HNn := Lib.hid hn
  obtain ⟨K, hK⟩ : ∃ K, w.heap.size = K := ⟨_, rfl⟩
  have HK := Lib.hid hK
  rw [hK]
  unfold maxLen at hc
  clear h hA hn hK
  go_enter Tryz.func8, Tryz.ntmps8
  go_wp2_with fail
  go_loopw [8, 3] (fun t8 t3 wr => ∃ (j : Nat) (Ao : Option Addr) (co : Nat), j ≤ n ∧ t8 = .int .i64 j ∧ t3 = .slice Ao j co ∧ Hid (wr.ownsRow K 9 1 (.slice Ao j co) j (strCells (entIds (E.take j)))) ∧ Hid (Below K w wr)) (fun t _ _ => n - (intOf t).toNat)
  case atStart => exact ⟨0, none, 0, Nat.zero_le _, rfl, rfl, World.ownsRow_nil _ _ _ _, Below.refl _ _⟩
  case round =>
    obtain ⟨j, Ao, co, hj, rfl, rfl, HOw, HB⟩ := hrel
    have hKw : K ≤ wr.heap.size := by have := HB.out.size; have := HK.out; omega
    by_cases hlt : j < n
    · obtain ⟨x, hx⟩ : ∃ x, E[j]? = some x := ⟨_, List.getElem?_eq_getElem (by have := HNn.out; omega)⟩
      obtain ⟨g, rfl, _, _⟩ := HA.out (by omega)
      have HOr := own_belowK HO.out (by rw [HK.out]; exact HB.out)
      have r0 := (HOr.cellAt (j * 3 + 0) (by omega)).trans (entsC_at E j x hx 0 (by omega))
      have r1 := (HOr.cellAt (j * 3 + 1) (by omega)).trans (entsC_at E j x hx 1 (by omega))
      have r2 := (HOr.cellAt (j * 3 + 2) (by omega)).trans (entsC_at E j x hx 2 (by omega))
      simp only [entC, List.getElem?_cons_zero, List.getElem?_cons_succ, Nat.add_zero] at r0 r1 r2
      have HTk := Lib.hid (show entIds (E.take (j + 1)) = entIds (E.take j) ++ [x.id.data.toList] by
        obtain ⟨hj9, rfl⟩ := List.getElem?_eq_some_iff.1 hx
        rw [List.take_succ_eq_append_getElem hj9, entIds, List.map_append]; rfl)
      clear hx HOr
      go_wp2_with (at_builtin; go_loud (go_must (refine wpList_push _ rfl (.tmp 12) (.tmp 15) 23 rfl K 9 _ 1 16 Tryz.underlying23 info_strI rfl (by omega) (.slice Ao j co) j _ rfl (own_alloc (own_alloc HOw.out _) _) [.string x.id] rfl _ rfl (cell_new _ [.string x.id] 9 _ (by simp)) (one_str _) (by omega) (by unfold maxLen; omega) (by simp; omega) ?_); intro g7 c7 w7 own7 hg7 hgg7 hb7; have HO7 := Lib.hid own7; have HB7 := Lib.hid (((HB.out.alloc hKw _).alloc (by simp; omega) _).trans hb7); clear own7 hg7 hgg7 hb7))
      go_roundw
      case rel => exact ⟨j + 1, _, c7, by omega, by go_num, rfl, Lib.hid (by rw [HTk.out, strCells_append]; exact HO7.out), HB7⟩
      case measure => simp [intOf]; omega
    · obtain rfl : j = n := by omega
      have HE := Lib.hid (show E.take j = E by rw [List.take_of_length_le (by rw [HNn.out]; exact Nat.le_refl _)])
      have hO := HOw.out
      rw [HE.out] at hO
      have HO9 := Lib.hid hO
      have HL := Lib.hid (show (entIds E).length = j by rw [entIds, List.length_map]; exact HNn.out)
      clear hO HOw
      go_wp2_with fail
      go_ret
      exact ⟨Ao, co, by rw [HL.out]; rfl, by rw [HL.out]; exact HO9.out, HB.out⟩

end Go.Proofs.YtikijmjcmpkkdaaGreatDoor
