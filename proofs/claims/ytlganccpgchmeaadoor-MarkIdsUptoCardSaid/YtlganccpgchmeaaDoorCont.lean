/-
  The ids and the contents of a document: mark.Ids, mark.Contents; rows that are compared.
-/
import Derived.Test.YtlganccpgchmeaaDoorEnts
import Derived.Test.YtlganccpgchmeaaDoorRegInv
import Derived.Test.YtlganccpgchmeaaDoorEqualStrs
namespace Go.Proofs.YtlganccpgchmeaaDoor
open Go.RowKit Go.Deep

/-- Ids' two results -/
def IdsPost (l : List Node) (w : World) (e : Ending) (w' : World) : Prop :=
  Below w.heap.size w w' ∧ ((docErr l ≠ 0 ∧ e = .returned (.tuple #[.slice none 0 0, .int .i64 (docErr l)])) ∨
    (docErr l = 0 ∧ ∃ (A : Option Addr) (n c : Nat), e = .returned (.tuple #[.slice A n c, .int .i64 0]) ∧ (idsL (headsL l)).length = n ∧ w'.ownsRow w.heap.size 9 1 (.slice A n c) n (strCells (idsL (headsL l)))))
set_option maxRecDepth 100000 in
set_option maxHeartbeats 2000000 in
theorem idsTop_q (l : List Node) (v : Value) (w : World) (h : NodesAt w v l) (hw : weight l ≤ 1048576) (htab : TabOk w) : Calls Tryd.prog 13 #[v] w (IdsPost l w) := by
  have H := Lib.hid h
  have HTab := Lib.hid htab
  have htt : total l ≤ 1073741824 := by have := total_weight _ l (Nat.le_refl _); omega
  obtain ⟨N, hN⟩ : ∃ N, w.heap.size = N := ⟨_, rfl⟩
  have HN := Lib.hid hN
  by_cases h0 : docErr l = 0
  · have ht : total l ≤ 4000 := (docErr_zero h0).1
    have H0 := Lib.hid h0; clear h0 h htab
    have HL := Lib.hid (ids_q l v)
    unfold IdsPost
    rw [hN, H0.out]
    clear hN
    go_enter Tryd.func13, Tryd.ntmps13
    go_wp2_with fail
    refine (check_any l v _ H.out htt).mono ?_
    rw [H0.out]
    rintro e w1 ⟨rfl, hb⟩
    rw [HN.out] at hb
    have HB := Lib.hid hb; clear hb
    go_wp2_with fail
    refine (HL.out _ (H.out.keep (Keeps.of_below (by rw [HN.out]; exact HB.out))) ht hw (HTab.out.keep (by rw [HN.out]; exact HB.out))).mono ?_
    rintro e w2 ⟨A, c, rfl, own, hb2⟩
    have own := own_lower own (show N ≤ _ by have := HB.out.size; have := HN.out; omega)
    have HO := Lib.hid own
    have HB2 := Lib.hid (HB.out.trans (hb2.mono (by have := HB.out.size; have := HN.out; omega))); clear hb2 own
    obtain ⟨n, hn⟩ : ∃ n, (idsL (headsL l)).length = n := ⟨_, rfl⟩
    rw [hn] at HO
    rw [hn]
    have HNn := Lib.hid hn; clear hn
    go_wp2_with fail
    go_ret2
    exact ⟨HB2.out, Or.inr ⟨trivial, A, n, c, rfl, HNn.out, HO.out⟩⟩
  · clear h htab hN
    have g1 : (docErr l != 0) = true := by simp [h0]
    have H0 := Lib.hid h0; clear h0
    go_enter Tryd.func13, Tryd.ntmps13
    go_wp2_with fail
    refine (check_any l v _ H.out htt).mono ?_
    rintro e w1 ⟨rfl, hb⟩
    have HB := Lib.hid hb; clear hb
    go_wp2_with fail
    go_ret2
    exact ⟨HB.out, Or.inl ⟨H0.out, rfl⟩⟩

/-- Contents' two results -/
def ConPost (l : List Node) (w : World) (e : Ending) (w' : World) : Prop :=
  Below w.heap.size w w' ∧ ((docErr l ≠ 0 ∧ e = .returned (.tuple #[.slice none 0 0, .int .i64 (docErr l)])) ∨
    (docErr l = 0 ∧ ∃ (A : Option Addr) (n c : Nat), e = .returned (.tuple #[.slice A n c, .int .i64 0]) ∧ (headsL l).length = n ∧ w'.ownsRow w.heap.size 33 3 (.slice A n c) n (entsC (entK (headsL l) n))))
theorem entK_succ2 {hs : List Node} {k : Nat} {x : Node} {id : ByteArray} (h : hs[k]? = some x) (hi : (idsL hs)[k]? = some id.data.toList) : entK hs (k + 1) = entK hs k ++ [⟨x.level, id, lineS x⟩] := by
  rw [entK_succ h]
  have hk := (List.getElem?_eq_some_iff.1 h).1
  rw [idsL_pre (k := k + 1) (Nat.lt_succ_self k) hk, idsL_take h, List.getElem?_append_right (by rw [idsL_len, List.length_take]; omega)] at hi
  have : k - (idsL (hs.take k)).length = 0 := by rw [idsL_len, List.length_take]; omega
  rw [this] at hi
  have hi2 := Option.some.inj hi
  unfold entOf
  rw [hi2]
def RE (lv : Int) (a b : ByteArray) (W1 : World) (x : Value) (w : World) : Prop := ∃ g : Nat, x = .slice (some ⟨g, 0, none⟩) 1 1 ∧ W1.heap.size ≤ g ∧ CB w g 33 #[.int .i64 lv, .string a, .string b]
theorem RE.below {lv : Int} {a b : ByteArray} {W1 w w' : World} {x : Value} (h : RE lv a b W1 x w) (hb : Below w.heap.size w w') : RE lv a b W1 x w' := by obtain ⟨g, h1, h2, h3⟩ := h; exact ⟨g, h1, h2, h3.below hb⟩
theorem RE.cells {g : Nat} {lv : Int} {a b : ByteArray} {w : World} (h : CB w g 33 #[.int .i64 lv, .string a, .string b]) : ∀ (j : Nat) (u : Value), [Value.int .i64 lv, Value.string a, Value.string b][j]? = some u → w.cell? ⟨g, j, none⟩ = some u := by
  intro j u hu
  rw [h.c j]
  simpa using hu
def InvCo (fr : Value → Value → Value → Value → Value → Value → Value → Value → Value → Value → Value → Act) (A A3 : Option Addr) (k c nb gi nn ci c3 : Nat) (x : Node) (ids : ByteArray) (W1 : World) (L : Array Bool) (a : Act) (w : World) : Prop :=
  ∃ x0 x1 x2 x3 x4 x5 x6 x7 x8 x9 x10 : Value, a = fr x0 x1 x2 x3 x4 x5 x6 x7 x8 x9 x10 ∧ Below W1.heap.size W1 w ∧ (L.getD 0 false = true → x0 = .slice A k c) ∧ (L.getD 1 false = true → x1 = .pointer (some ⟨nb, 1, none⟩)) ∧ (L.getD 2 false = true → x2 = .int .i64 x.level) ∧ (L.getD 3 false = true → x3 = .slice (some ⟨gi, 0, none⟩) nn ci) ∧ (L.getD 4 false = true → x4 = .int .i64 k) ∧ (L.getD 5 false = true → x5 = .pointer (some ⟨gi, k, none⟩)) ∧ (L.getD 6 false = true → x6 = .string ids) ∧ (L.getD 7 false = true → x7 = .agg #[.int .i64 x.kind, .int .i64 x.level, .string x.text, .string x.dest, .string x.title, .slice A3 x.kids.length c3]) ∧ (L.getD 8 false = true → x8 = .string (lineS x)) ∧ (L.getD 9 false = true → x9 = .agg #[.int .i64 x.level, .string ids, .string (lineS x)]) ∧ (L.getD 10 false = true → RE (x.level) ids (lineS x) W1 x10 w)
theorem InvCo.start {m : Nat} {fr : Value → Value → Value → Value → Value → Value → Value → Value → Value → Value → Value → Act} {A A3 : Option Addr} {k c nb gi nn ci c3 : Nat} {x : Node} {ids : ByteArray} {W1 : World} {a : Act} (x0 x1 x2 x3 x4 x5 x6 x7 x8 x9 x10 : Value) (h : a = fr x0 x1 x2 x3 x4 x5 x6 x7 x8 x9 x10) : InvCo fr A A3 k c nb gi nn ci c3 x ids W1 (Array.replicate m false) a W1 :=
  ⟨x0, x1, x2, x3, x4, x5, x6, x7, x8, x9, x10, h, Below.refl _ _, (fun h => by rw [getD_replicate_false] at h; cases h), (fun h => by rw [getD_replicate_false] at h; cases h), (fun h => by rw [getD_replicate_false] at h; cases h), (fun h => by rw [getD_replicate_false] at h; cases h), (fun h => by rw [getD_replicate_false] at h; cases h), (fun h => by rw [getD_replicate_false] at h; cases h), (fun h => by rw [getD_replicate_false] at h; cases h), (fun h => by rw [getD_replicate_false] at h; cases h), (fun h => by rw [getD_replicate_false] at h; cases h), (fun h => by rw [getD_replicate_false] at h; cases h), (fun h => by rw [getD_replicate_false] at h; cases h)⟩
set_option maxRecDepth 100000 in
set_option maxHeartbeats 4000000 in
theorem contents_q (l : List Node) (v : Value) (w : World) (h : NodesAt w v l) (hw : weight l ≤ 1048576) (htab : TabOk w) : Calls Tryd.prog 14 #[v] w (ConPost l w) := by
  have H := Lib.hid h
  have HTab := Lib.hid htab
  obtain ⟨An, cn, bl, ol, kvn, rfl, hlc, hcn, _, _, _⟩ := h.inv
  have htt : total l ≤ 1073741824 := by have := total_weight _ l (Nat.le_refl _); omega
  unfold maxLen at hcn
  obtain ⟨N, hN⟩ : ∃ N, w.heap.size = N := ⟨_, rfl⟩
  have HN := Lib.hid hN
  by_cases h0 : docErr l = 0
  · have ht : total l ≤ 4000 := (docErr_zero h0).1
    have H0 := Lib.hid h0; clear h0 h htab
    have HL := Lib.hid (ids_q l (.slice An l.length cn))
    obtain ⟨hs, hhs⟩ : ∃ hs, headsL l = hs := ⟨_, rfl⟩
    have hhl : hs.length ≤ 4000 := by rw [← hhs]; have := heads_len l; omega
    have HWt := Lib.hid (show ∀ n ∈ hs, weight n.kids ≤ 1048576 from fun n hn => by rw [← hhs] at hn; have := heads_weight _ l (Nat.le_refl _) n hn; omega)
    have HHs := Lib.hid hhs
    unfold ConPost
    rw [hN, H0.out, hhs]
    rw [hhs] at HL
    clear hN hhs
    go_enter Tryd.func14, Tryd.ntmps14
    go_wp2_with fail
    refine (check_any l _ _ H.out htt).mono ?_
    rw [H0.out]
    rintro e w1 ⟨rfl, hb⟩
    rw [HN.out] at hb
    have HB1 := Lib.hid hb; clear hb
    go_wp2_with fail
    refine (HL.out _ (H.out.keep (Keeps.of_below (by rw [HN.out]; exact HB1.out))) ht hw (HTab.out.keep (by rw [HN.out]; exact HB1.out))).mono ?_
    rintro e w2 ⟨Ai, ci, rfl, own, hb2⟩
    have hil : (idsL hs).length = hs.length := idsL_len hs
    have HI2 := Lib.hid own
    have HB2 := Lib.hid (HB1.out.trans (hb2.mono (by have := HB1.out.size; have := HN.out; omega))); clear hb2 own
    rw [hil] at HI2
    rw [hil]
    clear hil HL
    obtain ⟨M, hM⟩ : ∃ M, w2.heap.size = M := ⟨_, rfl⟩
    have HM := Lib.hid hM; clear hM
    go_wp2_with fail
    have hcall := headings_any w _ l (.slice An l.length cn) w2 (Nat.le_refl _) H.out (Keeps.of_below (by rw [HN.out]; exact HB2.out)) (by omega)
    rw [HHs.out] at hcall
    refine hcall.mono ?_
    clear hcall
    rintro e w3 ⟨Ah, ch, ps, rfl, hps, hok, ownh, hb3⟩
    rw [HM.out] at ownh hb3
    have HPs := Lib.hid hps
    have HOk := Lib.hid hok
    obtain ⟨nn, hnn⟩ : ∃ nn, ps.length = nn := ⟨_, rfl⟩
    have hpl : hs.length = nn := by rw [← hnn]; exact (ps_len hps).symm
    rw [hpl] at hhl HI2
    rw [hpl]
    rw [hnn] at ownh
    rw [hnn]
    have HNn := Lib.hid hnn
    have HPl := Lib.hid hpl
    obtain ⟨_, _, hv3, hch, hlch, hA3⟩ := own_form ownh
    cases hv3
    have HA3 := Lib.hid hA3
    obtain ⟨_, _, hv4, hci, hlci, hA4⟩ := own_form HI2.out
    cases hv4
    have HA4 := Lib.hid hA4
    unfold maxLen at hch hci
    obtain ⟨B3, hB3⟩ : ∃ B, w3.heap.size = B := ⟨_, rfl⟩
    have HSt0 := Lib.hid (show EnSt M M B3 w2 w3 (.slice Ah nn ch) ps (entK hs 0) (.slice none 0 0) 0 from
      ⟨World.ownsRow_nil _ _ _ _, by rw [hnn]; exact ownh, hb3, (fun b hb => by rw [← hB3]; exact own_lt ownh b hb), Nat.le_refl _, (by have := hb3.size; have := HM.out; omega), by omega⟩)
    clear hps hok ownh hb3 hpl hB3 hA3 hA4 hnn
    go_wp2_with fail
    try go_frame
    go_loopw [19, 6] (fun t13 t3 wr => ∃ (k : Nat) (A : Option Addr) (c : Nat), k ≤ nn ∧ t13 = .int .i64 k ∧ t3 = .slice A k c ∧ Hid (EnSt M M B3 w2 wr (.slice Ah nn ch) ps (entK hs k) (.slice A k c) k)) (fun t _ _ => nn - (intOf t).toNat)
    case atStart => exact ⟨0, none, 0, Nat.zero_le _, rfl, rfl, HSt0⟩
    case round =>
      clear HSt0
      obtain ⟨k, A, c, hk, rfl, rfl, HSt⟩ := hrel
      by_cases hlt : k < nn
      · obtain ⟨p, hp⟩ : ∃ p, ps[k]? = some p := ⟨_, List.getElem?_eq_getElem (by have := HNn.out; omega)⟩
        obtain ⟨gh, rfl, _, hgh⟩ := HA3.out (by omega)
        obtain ⟨gi, rfl, _, hgi⟩ := HA4.out (by omega)
        obtain ⟨⟨q0, q1, q2, q3, q4⟩, hkd⟩ := HOk.out p (List.mem_of_getElem? hp)
        obtain ⟨x, kv⟩ := p
        simp only at q0 q1 q2 q3 q4 hkd
        have hxs : hs[k]? = some x := by rw [← HPs.out, List.getElem?_map, hp]; rfl
        have hwx : weight x.kids ≤ 1048576 := HWt.out x (List.mem_of_getElem? hxs)
        obtain ⟨A3, c3, b3, o3, k3, rfl, _, _, _, _, _⟩ := hkd.inv
        have hhd := HSt.out.heads
        rw [HNn.out] at hhd
        have hc9 := fun j (hj : j < 6) => (hhd.cellAt (k * 6 + j) (by omega)).trans (hcells_at ps k _ hp j hj)
        have r0 := hc9 0 (by omega)
        have r1 := hc9 1 (by omega)
        have r2 := hc9 2 (by omega)
        have r3 := hc9 3 (by omega)
        have r4 := hc9 4 (by omega)
        have r5 := hc9 5 (by omega)
        simp only [nodeVals, List.getElem?_cons_zero, List.getElem?_cons_succ, Nat.add_zero] at r0 r1 r2 r3 r4 r5
        have HKd := Lib.hid hkd
        obtain ⟨idl, hidl⟩ : ∃ i, (idsL hs)[k]? = some i := ⟨_, List.getElem?_eq_getElem (by rw [idsL_len]; have := HPl.out; omega)⟩
        obtain ⟨ids, hids⟩ : ∃ s : ByteArray, (⟨idl.toArray⟩ : ByteArray) = s := ⟨_, rfl⟩
        have HIt := Lib.hid (entK_succ2 (id := ids) hxs (by rw [← hids]; exact hidl))
        have HS1 := Lib.hid (show wr.cell? ⟨gi, k, none⟩ = some (.string ids) by
          have := own_cell (own_belowK HI2.out (by rw [HM.out]; exact HSt.out.bel)) (strCells_get hidl)
          rw [hids] at this
          exact this)
        obtain ⟨E, hE⟩ : ∃ E, entK hs k = E := ⟨_, rfl⟩
        rw [hE] at HIt HSt
        have HSt1 := Lib.hid (HSt.out.alloc (nodeBox x (.slice A3 x.kids.length c3)))
        obtain ⟨nb, hnb⟩ : ∃ nb, wr.heap.size = nb := ⟨_, rfl⟩
        have HY1 := Lib.hid (CB.new wr #[.int .i64 x.kind, .int .i64 x.level, .string x.text, .string x.dest, .string x.title, .slice A3 x.kids.length c3] 31)
        rw [hnb] at HY1
        have HNb := Lib.hid hnb
        have HKd1 := Lib.hid (HKd.out.keep (Keeps.of_below (by rw [HN.out]; exact HB2.out.trans (HSt1.out.bel.mono (by have := HM.out; have := HB2.out.size; have := HN.out; omega)))))
        have HS2 := Lib.hid (show (wr.alloc (nodeBox x (.slice A3 x.kids.length c3))).cell? ⟨gi, k, none⟩ = some (.string ids) from Keeps.alloc wr _ _ _ HS1.out)
        clear hc9 hkd hp hxs hE hhd q0 q1 q2 q3 q4 hidl hids HS1 hnb
        go_wp2_with fail
        rw [HNb.out]
        refine wp_region_any (by kernel_rfl) ?_
        change wpAny _ _ _ _ _ _ _ (wr.alloc (nodeBox x (.slice A3 x.kids.length c3))).drew
        obtain ⟨W2, hW2⟩ : ∃ W2, (wr.alloc (nodeBox x (.slice A3 x.kids.length c3))).drew = W2 := ⟨_, rfl⟩
        have HSt2 := Lib.hid (show EnSt M M B3 w2 W2 (.slice (some ⟨gh, 0, none⟩) nn ch) ps E (.slice A k c) k by rw [← hW2]; exact HSt1.out.below (Below.refl _ _).drew)
        have HY2 := Lib.hid (show CB W2 nb _ _ by rw [← hW2]; exact HY1.out.drew)
        have HS3 := Lib.hid (show W2.cell? ⟨gi, k, none⟩ = some (.string ids) by rw [← hW2]; exact HS2.out)
        have HKd2 := Lib.hid (show NodesAt W2 (.slice A3 x.kids.length c3) x.kids by rw [← hW2]; exact HKd1.out.keep (Keeps.of_below (Below.refl _ _).drew))
        clear HS2
        have HS2 := HS3
        rw [hW2]
        clear hW2 HSt1 HY1 HS3 HKd1 HSt
        refine wpAny_inv [0, 1, 2, 3, 4, 5, 6, 7, 8, 9, 10] (InvCo (fun v24 v25 v26 v27 v28 v29 v30 v31 v32 v33 v34 => ⟨#[.slice An l.length cn, undef, .slice none 0 0, .int .i64 0, .int .i64 0, .slice (some ⟨gi, 0, none⟩) nn ci, .slice A k c, .int .i64 ↑k, .pointer (some ⟨nb, 0, none⟩), .slice An l.length cn, .int .i64 0, .int .i64 0, .bool false, undef, .slice An l.length cn, .slice (some ⟨gi, 0, none⟩) nn ci, .slice An l.length cn, .slice (some ⟨gh, 0, none⟩) nn ch, .int .i64 ↑nn, .int .i64 ↑k, .bool true, .int .i64 ↑k, .pointer (some ⟨gh, k * 6, none⟩), .agg #[.int .i64 x.kind, .int .i64 x.level, .string x.text, .string x.dest, .string x.title, .slice A3 x.kids.length c3], v24, v25, v26, v27, v28, v29, v30, v31, v32, v33, v34, u35, u36, undef], []⟩) A A3 k c nb gi nn ci c3 x ids W2) #[true, true, true, true, true, true, true, true, true, true, true, false, false] (g := 2) (by kernel_rfl) (by kernel_rfl) (by kernel_rfl) (InvCo.start u24 u25 u26 u27 u28 u29 u30 u31 u32 u33 u34 rfl) ?step ?last
        case step =>
          intro i hi L a' w' hs hr hI
          obtain ⟨x0, x1, x2, x3, x4, x5, x6, x7, x8, x9, x10, rfl, hB, h0, h1, h2, h3, h4, h5, h6, h7, h8, h9, h10⟩ := hI
          simp only [List.mem_cons, List.not_mem_nil, or_false] at hi
          rcases hi with rfl | rfl | rfl | rfl | rfl | rfl | rfl | rfl | rfl | rfl | rfl
          · refine wpOp_step rfl (fun K hK => ?_)
            go_simp
            exact hK _ _ ⟨_, _, _, _, _, _, _, _, _, _, _, rfl, hB, fun _ => rfl, fun h => h1 (getD_was (by decide) h), fun h => h2 (getD_was (by decide) h), fun h => h3 (getD_was (by decide) h), fun h => h4 (getD_was (by decide) h), fun h => h5 (getD_was (by decide) h), fun h => h6 (getD_was (by decide) h), fun h => h7 (getD_was (by decide) h), fun h => h8 (getD_was (by decide) h), fun h => h9 (getD_was (by decide) h), fun h => h10 (getD_was (by decide) h)⟩
          · refine wpOp_step rfl (fun K hK => ?_)
            go_simp
            exact hK _ _ ⟨_, _, _, _, _, _, _, _, _, _, _, rfl, hB, fun h => h0 (getD_was (by decide) h), fun _ => rfl, fun h => h2 (getD_was (by decide) h), fun h => h3 (getD_was (by decide) h), fun h => h4 (getD_was (by decide) h), fun h => h5 (getD_was (by decide) h), fun h => h6 (getD_was (by decide) h), fun h => h7 (getD_was (by decide) h), fun h => h8 (getD_was (by decide) h), fun h => h9 (getD_was (by decide) h), fun h => h10 (getD_was (by decide) h)⟩
          · have q1 := h1 (ready_dep hr (by kernel_rfl))
            subst q1
            have z := (HY2.out.below hB).c 1
            simp only [List.getElem?_toArray, List.getElem?_cons_zero, List.getElem?_cons_succ] at z
            refine wpOp_step rfl (fun K hK => ?_)
            go_simp
            exact hK _ _ ⟨_, _, _, _, _, _, _, _, _, _, _, rfl, hB, fun h => h0 (getD_was (by decide) h), fun _ => rfl, fun _ => rfl, fun h => h3 (getD_was (by decide) h), fun h => h4 (getD_was (by decide) h), fun h => h5 (getD_was (by decide) h), fun h => h6 (getD_was (by decide) h), fun h => h7 (getD_was (by decide) h), fun h => h8 (getD_was (by decide) h), fun h => h9 (getD_was (by decide) h), fun h => h10 (getD_was (by decide) h)⟩
          · refine wpOp_step rfl (fun K hK => ?_)
            go_simp
            exact hK _ _ ⟨_, _, _, _, _, _, _, _, _, _, _, rfl, hB, fun h => h0 (getD_was (by decide) h), fun h => h1 (getD_was (by decide) h), fun h => h2 (getD_was (by decide) h), fun _ => rfl, fun h => h4 (getD_was (by decide) h), fun h => h5 (getD_was (by decide) h), fun h => h6 (getD_was (by decide) h), fun h => h7 (getD_was (by decide) h), fun h => h8 (getD_was (by decide) h), fun h => h9 (getD_was (by decide) h), fun h => h10 (getD_was (by decide) h)⟩
          · refine wpOp_step rfl (fun K hK => ?_)
            go_simp
            exact hK _ _ ⟨_, _, _, _, _, _, _, _, _, _, _, rfl, hB, fun h => h0 (getD_was (by decide) h), fun h => h1 (getD_was (by decide) h), fun h => h2 (getD_was (by decide) h), fun h => h3 (getD_was (by decide) h), fun _ => rfl, fun h => h5 (getD_was (by decide) h), fun h => h6 (getD_was (by decide) h), fun h => h7 (getD_was (by decide) h), fun h => h8 (getD_was (by decide) h), fun h => h9 (getD_was (by decide) h), fun h => h10 (getD_was (by decide) h)⟩
          · have q3 := h3 (ready_dep hr (by kernel_rfl))
            have q4 := h4 (ready_dep hr (by kernel_rfl))
            subst q3
            subst q4
            refine wpOp_step rfl (fun K hK => ?_)
            go_simp
            exact hK _ _ ⟨_, _, _, _, _, _, _, _, _, _, _, rfl, hB, fun h => h0 (getD_was (by decide) h), fun h => h1 (getD_was (by decide) h), fun h => h2 (getD_was (by decide) h), fun _ => rfl, fun _ => rfl, fun _ => rfl, fun h => h6 (getD_was (by decide) h), fun h => h7 (getD_was (by decide) h), fun h => h8 (getD_was (by decide) h), fun h => h9 (getD_was (by decide) h), fun h => h10 (getD_was (by decide) h)⟩
          · have q5 := h5 (ready_dep hr (by kernel_rfl))
            subst q5
            have z := Keeps.of_below hB _ _ HS2.out
            refine wpOp_step rfl (fun K hK => ?_)
            go_simp
            exact hK _ _ ⟨_, _, _, _, _, _, _, _, _, _, _, rfl, hB, fun h => h0 (getD_was (by decide) h), fun h => h1 (getD_was (by decide) h), fun h => h2 (getD_was (by decide) h), fun h => h3 (getD_was (by decide) h), fun h => h4 (getD_was (by decide) h), fun _ => rfl, fun _ => rfl, fun h => h7 (getD_was (by decide) h), fun h => h8 (getD_was (by decide) h), fun h => h9 (getD_was (by decide) h), fun h => h10 (getD_was (by decide) h)⟩
          · have z0 := (HY2.out.below hB).c 0
            have z1 := (HY2.out.below hB).c 1
            have z2 := (HY2.out.below hB).c 2
            have z3 := (HY2.out.below hB).c 3
            have z4 := (HY2.out.below hB).c 4
            have z5 := (HY2.out.below hB).c 5
            simp only [List.getElem?_toArray, List.getElem?_cons_zero, List.getElem?_cons_succ] at z0 z1 z2 z3 z4 z5
            refine wpOp_step rfl (fun K hK => ?_)
            go_simp
            exact hK _ _ ⟨_, _, _, _, _, _, _, _, _, _, _, rfl, hB, fun h => h0 (getD_was (by decide) h), fun h => h1 (getD_was (by decide) h), fun h => h2 (getD_was (by decide) h), fun h => h3 (getD_was (by decide) h), fun h => h4 (getD_was (by decide) h), fun h => h5 (getD_was (by decide) h), fun h => h6 (getD_was (by decide) h), fun _ => rfl, fun h => h8 (getD_was (by decide) h), fun h => h9 (getD_was (by decide) h), fun h => h10 (getD_was (by decide) h)⟩
          · have q7 := h7 (ready_dep hr (by kernel_rfl))
            subst q7
            refine wpOp_step rfl (fun K hK => ?_)
            go_simp
            refine (plainLine_q x A3 c3 _ (HKd2.out.keep (Keeps.of_below hB)) hwx).mono ?_
            rintro e w'' ⟨rfl, hb⟩
            exact hK _ _ ⟨_, _, _, _, _, _, _, _, _, _, _, rfl, hB.trans (hb.mono hB.size), fun h => h0 (getD_was (by decide) h), fun h => h1 (getD_was (by decide) h), fun h => h2 (getD_was (by decide) h), fun h => h3 (getD_was (by decide) h), fun h => h4 (getD_was (by decide) h), fun h => h5 (getD_was (by decide) h), fun h => h6 (getD_was (by decide) h), fun _ => rfl, fun _ => rfl, fun h => h9 (getD_was (by decide) h), fun h => (h10 (getD_was (by decide) h)).below hb⟩
          · have q2 := h2 (ready_dep hr (by kernel_rfl))
            have q6 := h6 (ready_dep hr (by kernel_rfl))
            have q8 := h8 (ready_dep hr (by kernel_rfl))
            subst q2
            subst q6
            subst q8
            refine wpOp_step rfl (fun K hK => ?_)
            go_simp
            exact hK _ _ ⟨_, _, _, _, _, _, _, _, _, _, _, rfl, hB, fun h => h0 (getD_was (by decide) h), fun h => h1 (getD_was (by decide) h), fun _ => rfl, fun h => h3 (getD_was (by decide) h), fun h => h4 (getD_was (by decide) h), fun h => h5 (getD_was (by decide) h), fun _ => rfl, fun h => h7 (getD_was (by decide) h), fun _ => rfl, fun _ => rfl, fun h => h10 (getD_was (by decide) h)⟩
          · have q9 := h9 (ready_dep hr (by kernel_rfl))
            subst q9
            refine wpOp_step rfl (fun K hK => ?_)
            go_simp
            exact hK _ _ ⟨_, _, _, _, _, _, _, _, _, _, _, rfl, hB.alloc hB.size _, fun h => h0 (getD_was (by decide) h), fun h => h1 (getD_was (by decide) h), fun h => h2 (getD_was (by decide) h), fun h => h3 (getD_was (by decide) h), fun h => h4 (getD_was (by decide) h), fun h => h5 (getD_was (by decide) h), fun h => h6 (getD_was (by decide) h), fun h => h7 (getD_was (by decide) h), fun h => h8 (getD_was (by decide) h), fun _ => rfl, fun _ => ⟨_, rfl, hB.size, CB.new _ _ _⟩⟩
        case last =>
          intro a' w' hI
          obtain ⟨x0, x1, x2, x3, x4, x5, x6, x7, x8, x9, x10, rfl, hB, h0, h1, h2, h3, h4, h5, h6, h7, h8, h9, h10⟩ := hI
          have q0 := h0 rfl
          have q10 := h10 rfl
          clear h0 h1 h2 h3 h4 h5 h6 h7 h8 h9 h10
          subst q0
          obtain ⟨g, rfl, hg, hcb⟩ := q10
          refine wpAny_of_seqA 2 11 rfl (by kernel_rfl) ?_
          simp only [List.drop_succ_cons, List.drop_zero]
          have HSt4 := Lib.hid (HSt2.out.below hB)
          refine wpList_push _ rfl (.tmp 24) (.tmp 34) 28 rfl B3 33 _ 3 40 Tryd.underlying28 info_entry rfl (by omega) (.slice A k c) k _ rfl HSt4.out.out [.int .i64 x.level, .string ids, .string (lineS x)] rfl g rfl (RE.cells hcb) (three_one _ _ _) (by omega) (by unfold maxLen; omega) (by have := HSt4.out.sz; omega) ?_
          intro g9 c9 w9 own9 hg9 hgg9 hb9
          have HSt9 := Lib.hid (HSt4.out.push (E' := E ++ [⟨x.level, ids, lineS x⟩]) (by rw [entsC_snoc]; exact own9) hg9 hb9)
          clear own9 hg9 hgg9 hb9
          go_wp2_with fail
          go_roundw
          case rel => exact ⟨k + 1, some ⟨g9, 0, none⟩, c9, by omega, by go_num, rfl, Lib.hid (by rw [HIt.out]; exact HSt9.out)⟩
          case measure => simp [intOf]; omega
      · obtain rfl : k = nn := by omega
        have hO9 := HSt.out.out
        have hB9 := HSt.out.bel
        have hk2 := HSt.out.k3
        have HO := Lib.hid hO9
        have HB9 := Lib.hid hB9
        have HK3 := Lib.hid hk2
        clear hO9 hB9 hk2
        go_wp2_with fail
        go_ret2
        exact ⟨HB2.out.trans (HB9.out.mono (by have := HM.out; have := HB2.out.size; have := HN.out; omega)), Or.inr ⟨trivial, A, k, c, rfl, HPl.out, own_lower HO.out (by have := HK3.out; have := HB2.out.size; have := HN.out; have := HM.out; omega)⟩⟩
  · clear h htab hN hlc
    have g1 : (docErr l != 0) = true := by simp [h0]
    have H0 := Lib.hid h0; clear h0
    go_enter Tryd.func14, Tryd.ntmps14
    go_wp2_with fail
    refine (check_any l _ _ H.out htt).mono ?_
    rintro e w1 ⟨rfl, hb⟩
    have HB := Lib.hid hb; clear hb
    go_wp2_with fail
    go_ret2
    exact ⟨HB.out, Or.inl ⟨H0.out, rfl⟩⟩

end Go.Proofs.YtlganccpgchmeaaDoor
