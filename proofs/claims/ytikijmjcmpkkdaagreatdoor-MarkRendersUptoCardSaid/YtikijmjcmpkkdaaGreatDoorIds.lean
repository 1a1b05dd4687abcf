/-
  The ids of a document's headings: mark.plainLine, mark.ids.
-/
import Derived.Test.YtikijmjcmpkkdaaGreatDoorHeads
import Derived.Test.YtikijmjcmpkkdaaGreatDoorSlug
import Derived.Test.YtikijmjcmpkkdaaGreatDoorBox
import Derived.Test.YtikijmjcmpkkdaaGreatDoorStrMap
import Derived.Test.YtikijmjcmpkkdaaGreatDoorRowOps
import Derived.Laws.BytesArg
import Derived.Deep.Cut
namespace Go.Proofs.YtikijmjcmpkkdaaGreatDoor
open Go.RowKit Go.Deep Go.Maps Go.WideMaps

theorem conv_own {w : World} {B : Nat} {A : Option Addr} {m c : Nat} {bs : List UInt8} (h : OwnM B w (.slice A m c) m bs) :
    (convert 53 9 (.slice A m c)).run Tryz.prog w = .ok (.string ⟨bs.toArray⟩) w := by
  have hl := ownM_len h
  subst hl
  cases A with
  | none =>
    obtain ⟨A', c', hv, _, _, hA⟩ := own_form h
    cases hv
    have h0 : bs = [] := by
      cases bs with
      | nil => rfl
      | cons a r =>
        obtain ⟨g, hg, _⟩ := hA (by simp)
        cases hg
    subst h0
    exact run_convert_bytes_nil (P := Tryz.prog) w 53 5 Tryz.underlying53 Tryz.underlying5 _ _ _ Tryz.underlying9
  | some a =>
    refine run_convert_bytes_back w 53 9 5 a c bs Tryz.underlying53 Tryz.underlying5 Tryz.underlying9 (fun j hj => ?_)
    obtain ⟨A', c', hv, _, _, hA⟩ := own_form h
    cases hv
    obtain ⟨g, hg, _, _⟩ := hA (by omega)
    cases hg
    have hadd : (⟨g, 0, none⟩ : Addr).add j = ⟨g, j, none⟩ := by unfold Addr.add; split <;> simp_all
    rw [hadd]
    exact own_cell h (byteCells_get (List.getElem?_eq_getElem hj))
/-- a node's plain text as a string -/
def lineS (n : Node) : ByteArray := ⟨(plainL 0 n.kids).toArray⟩
theorem lineS_size (n : Node) : (lineS n).size ≤ weight n.kids := plain_len n.kids 0
set_option maxRecDepth 100000 in
set_option maxHeartbeats 2000000 in
theorem plainLine_q (n : Node) (A : Option Addr) (c : Nat) (w : World) (h : NodesAt w (.slice A n.kids.length c) n.kids) (ht : weight n.kids ≤ 1048576) :
    Calls Tryz.prog 38 #[.agg #[.int .i64 n.kind, .int .i64 n.level, .string n.text, .string n.dest, .string n.title, .slice A n.kids.length c]] w fun e w' => e = .returned (.string (lineS n)) ∧ Below w.heap.size w w' := by
  have H := Lib.hid h; clear h
  have HB := Lib.hid ((Below.refl _ w).alloc (Nat.le_refl _) (nodeBox n (.slice A n.kids.length c)))
  have HX := Lib.hid (H.out.keep (Keeps.alloc w (nodeBox n (.slice A n.kids.length c))))
  have HO := Lib.hid (World.ownsRow_nil (w.alloc (nodeBox n (.slice A n.kids.length c))) (w.alloc (nodeBox n (.slice A n.kids.length c))).heap.size 5 1)
  go_enter Tryz.func38, Tryz.ntmps38
  go_wp2_with fail
  go_must (refine (plainInto_any (w.alloc (nodeBox n (.slice A n.kids.length c))) _ n.kids _ [] none 0 0 _ (Nat.le_refl _) HX.out (Below.refl _ _) HO.out (by omega)).mono ?_)
  rintro e w2 ⟨A2, m2, c2, rfl, own, bel, kt⟩
  rw [List.nil_append] at own
  have hback := conv_own own
  have HB2 := Lib.hid (HB.out.trans (bel.mono (by simp))); clear bel kt own
  go_wp2_with fail
  go_ret
  exact ⟨rfl, HB2.out⟩

theorem itoa_k (q : Nat) (sk : ByteArray) (w : World) (hq : q ≤ 1048576) (h : (⟨(Lib.itoa (q : Int)).toArray⟩ : ByteArray) = sk) (ht : TabOk w) : Calls Tryz.prog 25 #[.int .i64 q] w fun e w' => e = .returned (.string sk) ∧ Below w.heap.size w w' := by
  subst h
  exact itoa_any q w ⟨by omega, by omega⟩ ht
theorem itoa_size (q : Nat) (hq : q ≤ 1048576) : (⟨(Lib.itoa (q : Int)).toArray⟩ : ByteArray).size ≤ 21 := by
  have := Lib.itoa_length_le (q : Int) (by omega) (by omega)
  exact this
theorem zero_int (w : World) : (zeroValue 3).run Tryz.prog w = .ok (.int .i64 0) w := by kernel_rfl
theorem zero_bool (w : World) : (zeroValue 4).run Tryz.prog w = .ok (.bool false) w := by kernel_rfl
theorem info_strI : (Tryz.prog.info? 9).map (fun i => (i.zero, i.size, i.bytes)) = some (some (.string ⟨#[]⟩), 1, 16) := by kernel_rfl
theorem wf_nat (q : Nat) (h : q ≤ 1048576) : (Lit.int .i64 (q : Int)).wf = true := by
  simp only [Lit.wf, Bool.and_eq_true, decide_eq_true_eq]
  exact ⟨by show (-9223372036854775808 : Int) ≤ q; omega, by show (q : Int) ≤ 9223372036854775807; omega⟩
theorem run_max2 {P : Program} (x m : Int) (h : max x 2 = m) (ats : Array TypeId) (ty : TypeId) (w : World) : (Builtin.max_ ats ty #[.int .i64 x, .int .i64 2]).run P w = .ok (.int .i64 m) w := by
  subst h
  simp [Builtin.max_, Builtin.max2, go_sem]
  try (split <;> (try rfl) <;> (congr 2; omega))
theorem nm_str (z sk : ByteArray) (q : Nat) (h : (⟨(Lib.itoa (q : Int)).toArray⟩ : ByteArray) = sk) : (z ++ ⟨#[45]⟩ ++ sk).data.toList = nm z.data.toList q := by
  subst h
  simp [nm, ByteArray.data_append]
theorem nm_str2 (z sk : ByteArray) (q : Nat) (h : (⟨(Lib.itoa (q : Int)).toArray⟩ : ByteArray) = sk) : (z ++ (⟨#[45]⟩ ++ sk)).data.toList = nm z.data.toList q := by
  subst h
  simp [nm, ByteArray.data_append]

/-- a list of strings of the call's own -/
def StrsPost (N : Nat) (L : List (List UInt8)) (w : World) (e : Ending) (w' : World) : Prop :=
  ∃ (A : Option Addr) (c : Nat), e = .returned (.slice A L.length c) ∧ w'.ownsRow N 9 1 (.slice A L.length c) L.length (strCells L) ∧ Below N w w'
/-- in the midst: what the two maps and the two rows hold; Lu is what is used, L what is out -/
structure IdSt (N B2 B3 K1 K2 : Nat) (w wr : World) (hv : Value) (ps : List (Node × Value)) (Lu L : List (List UInt8)) (v : Value) (n : Nat) (g : List UInt8 → Option Int) : Prop where
  used : BMap Tryz.prog 9 4 wr K1 n (usedF Lu)
  next : IMap Tryz.prog 9 3 wr K2 n g
  nok : NextOk L g
  out : wr.ownsRow B3 9 1 v L.length (strCells L)
  heads : wr.ownsRow B2 45 6 hv ps.length (hcells ps)
  bel : Below N w wr
  hvB : ∀ b, hv.ownBlock = some b → b < B3
  k1 : N ≤ K1 ∧ K1 < K2
  k2 : K2 < B2
  k3 : B2 ≤ B3
  sz : B3 ≤ wr.heap.size
section
variable {N B2 B3 K1 K2 : Nat} {w wr w' : World} {hv : Value} {ps : List (Node × Value)} {Lu L : List (List UInt8)} {v : Value} {n : Nat} {g : List UInt8 → Option Int}
theorem IdSt.below (h : IdSt N B2 B3 K1 K2 w wr hv ps Lu L v n g) (hb : Below wr.heap.size wr w') : IdSt N B2 B3 K1 K2 w w' hv ps Lu L v n g := by
  have h1 := h.k1; have h2 := h.k2; have h3 := h.k3; have h4 := h.sz
  exact ⟨h.used.below hb, h.next.below hb, h.nok, own_belowK h.out hb, own_belowK h.heads hb, h.bel.trans (hb.mono (by omega)), h.hvB, h.k1, h.k2, h.k3, by have := hb.size; omega⟩
theorem IdSt.alloc (h : IdSt N B2 B3 K1 K2 w wr hv ps Lu L v n g) (o : Obj) : IdSt N B2 B3 K1 K2 w (wr.alloc o) hv ps Lu L v n g := h.below ((Below.refl _ _).alloc (Nat.le_refl _) o)
theorem IdSt.mono (h : IdSt N B2 B3 K1 K2 w wr hv ps Lu L v n g) {n' : Nat} (hn : n ≤ n') : IdSt N B2 B3 K1 K2 w wr hv ps Lu L v n' g :=
  ⟨h.used.mono hn, h.next.mono hn, h.nok, h.out, h.heads, h.bel, h.hvB, h.k1, h.k2, h.k3, h.sz⟩
theorem IdSt.turnUsed (h : IdSt N B2 B3 K1 K2 w wr hv ps Lu L v n g) (s : List UInt8) (hm : BMap Tryz.prog 9 4 w' K1 (n + 1) (putF (usedF Lu) s true)) (ht : wr.mapTurned w' K1) : IdSt N B2 B3 K1 K2 w w' hv ps (Lu ++ [s]) L v (n + 1) g := by
  have h1 := h.k1; have h2 := h.k2; have h3 := h.k3; have h4 := h.sz
  have hg := ht.grown
  refine ⟨?_, (h.next.kept hg (by intro e; have := Option.some.inj e; omega)).mono (by omega), h.nok, h.out.kept hg (Or.inr (fun e => by have := own_block_ge h.out _ e; omega)), h.heads.kept hg (Or.inr (fun e => by have := own_block_ge h.heads _ e; omega)), h.bel.trans (turned_below ht h1.1 (by omega)), h.hvB, h.k1, h.k2, h.k3, by have := hg.size; omega⟩
  rw [← usedF_put Lu s _ rfl]
  exact hm
theorem IdSt.turnNext (h : IdSt N B2 B3 K1 K2 w wr hv ps Lu L v n g) (b : List UInt8) (hm : IMap Tryz.prog 9 3 w' K2 (n + 1) (putF g b ((freeK L b : Nat) : Int))) (ht : wr.mapTurned w' K2) : IdSt N B2 B3 K1 K2 w w' hv ps Lu L v (n + 1) (putF g b ((freeK L b : Nat) : Int)) := by
  have h1 := h.k1; have h2 := h.k2; have h3 := h.k3; have h4 := h.sz
  have hg := ht.grown
  exact ⟨(h.used.kept hg (by intro e; have := Option.some.inj e; omega)).mono (by omega), hm, h.nok.put b rfl, h.out.kept hg (Or.inr (fun e => by have := own_block_ge h.out _ e; omega)), h.heads.kept hg (Or.inr (fun e => by have := own_block_ge h.heads _ e; omega)), h.bel.trans (turned_below ht (by omega) (by omega)), h.hvB, h.k1, h.k2, h.k3, by have := hg.size; omega⟩
theorem IdSt.push (h : IdSt N B2 B3 K1 K2 w wr hv ps Lu L v n g) {s : List UInt8} {u : Value} (hLu : Lu = L ++ [s]) (ho : w'.ownsRow B3 9 1 u (L ++ [s]).length (strCells (L ++ [s]))) (hg : wr.grownBy w' v.ownBlock) (hb : Below B3 wr w') : IdSt N B2 B3 K1 K2 w w' hv ps (L ++ [s]) (L ++ [s]) u n g := by
  have h1 := h.k1; have h2 := h.k2; have h3 := h.k3; have h4 := h.sz
  have ge := own_block_ge h.out
  subst hLu
  exact ⟨h.used.kept hg (fun e => by have := ge _ e.symm; omega), h.next.kept hg (fun e => by have := ge _ e.symm; omega), h.nok.more s, ho, h.heads.kept hg (by
    cases hvb : hv.ownBlock with
    | none => exact Or.inl rfl
    | some b => exact Or.inr (fun e => by have := ge _ e.symm; have := h.hvB b hvb; omega)), h.bel.trans (hb.mono (by omega)), h.hvB, h.k1, h.k2, h.k3, by have := hb.size; omega⟩
end
theorem used_yes {L : List (List UInt8)} {s : List UInt8} (h : s ∈ L) : (usedF L s).getD false = true := by rw [usedF, if_pos h]; rfl
theorem used_no {L : List (List UInt8)} {s : List UInt8} (h : s ∉ L) : (usedF L s).getD false = false := by rw [usedF, if_neg h]; rfl
theorem run_used {L : List (List UInt8)} {W : World} {b n : Nat} {s : ByteArray} {v : Bool} (h : BMap Tryz.prog 9 4 W b n (usedF L)) (hs : s.size ≤ maxLen) (hv : (usedF L s.data.toList).getD false = v) : (Instr.lookup 61 (.map (some b)) (.string s) false).run Tryz.prog W = .ok (.bool v) W := by
  rw [bmap_look h Tryz.underlying9 Tryz.underlying4 Tryz.underlying61 hs (zero_bool W), hv]
theorem run_next {g : List UInt8 → Option Int} {W : World} {b n : Nat} {s : ByteArray} {v : Int} (h : IMap Tryz.prog 9 3 W b n g) (hs : s.size ≤ maxLen) (hv : (g s.data.toList).getD 0 = v) : (Instr.lookup 62 (.map (some b)) (.string s) false).run Tryz.prog W = .ok (.int .i64 v) W := by
  rw [imap_look h Tryz.underlying9 Tryz.underlying3 Tryz.underlying62 hs (zero_int W), hv]

set_option maxRecDepth 100000 in
set_option maxHeartbeats 8000000 in
theorem ids_q (l : List Node) (v : Value) (w : World) (h : NodesAt w v l) (ht : total l ≤ 4000) (hw : weight l ≤ 1048576) (htab : TabOk w) : Calls Tryz.prog 16 #[v] w (StrsPost w.heap.size (idsL (headsL l)) w) := by
  have H := Lib.hid h
  have HTab := Lib.hid htab
  obtain ⟨An, cn, bl, ol, kvn, rfl, hlc, hcn, _, _, _⟩ := h.inv
  obtain ⟨N, hN⟩ : ∃ N, w.heap.size = N := ⟨_, rfl⟩
  have HN := Lib.hid hN
  rw [hN]
  obtain ⟨hs, hhs⟩ : ∃ hs, headsL l = hs := ⟨_, rfl⟩
  have hhl : hs.length ≤ 4000 := by rw [← hhs]; have := heads_len l; omega
  have HWt := Lib.hid (show ∀ n ∈ hs, weight n.kids ≤ 1048576 from fun n hn => by rw [← hhs] at hn; have := heads_weight _ l (Nat.le_refl _) n hn; omega)
  have HHs := Lib.hid hhs
  rw [hhs]
  have HB0 := Lib.hid (show Below N w ((w.alloc (.map #[] 0)).alloc (.map #[] 0)) from ((Below.refl _ _).alloc (by omega) _).alloc (by simp; omega) _)
  have HM1 := Lib.hid (show BMap Tryz.prog 9 4 ((w.alloc (.map #[] 0)).alloc (.map #[] 0)) N 0 (usedF []) by rw [← hN]; exact (mapR_made (lit := Lit.bool) w).alloc _)
  have HM2 := Lib.hid (show IMap Tryz.prog 9 3 ((w.alloc (.map #[] 0)).alloc (.map #[] 0)) (N + 1) 0 (fun _ => none) by have := mapR_made (lit := Lit.int .i64) (P := Tryz.prog) (k := 9) (e := 3) (w.alloc (.map #[] 0)); rw [World.size_alloc, hN] at this; exact this)
  have hsz2 : ((w.alloc (.map #[] 0)).alloc (.map #[] 0)).heap.size = N + 2 := by simp; omega
  have HSz2 := Lib.hid hsz2
  have hmm := @run_makeMap Tryz.prog
  unfold maxLen at hcn
  clear hhs h htab hw hN hsz2
  go_enter Tryz.func16, Tryz.ntmps16
  go_wp2_with fail
  have hcall := headings_any w _ l (.slice An l.length cn) ((w.alloc (.map #[] 0)).alloc (.map #[] 0)) (Nat.le_refl _) H.out (Keeps.of_below (by rw [HN.out]; exact HB0.out)) (by omega)
  rw [HHs.out] at hcall
  refine hcall.mono ?_
  clear hcall
  rintro e w3 ⟨Ah, ch, ps, rfl, hps, hok, ownh, hb3⟩
  rw [HSz2.out] at ownh hb3
  have HPs := Lib.hid hps
  have HOk := Lib.hid hok
  have hpl : ps.length = hs.length := ps_len hps
  have hpl2 : ps.length ≤ 4000 := by omega
  have HPl := Lib.hid hpl
  have hcm3 := (own_form ownh)
  obtain ⟨_, _, hv3, hch, hlch, hA3⟩ := hcm3
  cases hv3
  have HA3 := Lib.hid hA3
  unfold maxLen at hch
  obtain ⟨B3, hB3⟩ : ∃ B, w3.heap.size = B := ⟨_, rfl⟩
  have HSt0 := Lib.hid (show IdSt N (N + 2) B3 N (N + 1) w w3 (.slice Ah ps.length ch) ps [] [] (.slice none 0 0) 0 (fun _ => none) from
    ⟨HM1.out.below (by rw [HSz2.out]; exact hb3), HM2.out.below (by rw [HSz2.out]; exact hb3), NextOk.start, World.ownsRow_nil _ _ _ _, ownh, HB0.out.trans (hb3.mono (by omega)), (fun b hb => by rw [← hB3]; exact own_lt ownh b hb), ⟨Nat.le_refl _, by omega⟩, by omega, (by have := hb3.size; rw [HSz2.out] at this; omega), by omega⟩)
  have HB3 := Lib.hid hB3
  clear hps hok ownh hb3 hpl hB3 hA3 HM1 HM2 HB0
  try rw [HN.out]
  go_wp2_with fail
  try rw [HN.out]
  try go_frame
  go_loopw [15, 5] (fun t15 t5 wr => ∃ (k n : Nat) (A : Option Addr) (c : Nat) (g : List UInt8 → Option Int), k ≤ ps.length ∧ n ≤ 2 * k ∧ t15 = .int .i64 k ∧ t5 = .slice A k c ∧ Hid ((idsL (hs.take k)).length = k) ∧ Hid (IdSt N (N + 2) B3 N (N + 1) w wr (.slice Ah ps.length ch) ps (idsL (hs.take k)) (idsL (hs.take k)) (.slice A k c) n g)) (fun t _ _ => ps.length - (intOf t).toNat)
  case atStart => exact ⟨0, 0, none, 0, _, Nat.zero_le _, by omega, rfl, rfl, rfl, HSt0⟩
  case round =>
    clear HSt0
    obtain ⟨k, n, A, c, g, hk, hn2, rfl, rfl, HLk, HSt⟩ := hrel
    by_cases hlt : k < ps.length
    · obtain ⟨p, hp⟩ : ∃ p, ps[k]? = some p := ⟨_, List.getElem?_eq_getElem hlt⟩
      obtain ⟨gh, rfl, _, hgh⟩ := HA3.out (by omega)
      obtain ⟨⟨q0, q1, q2, q3, q4⟩, hkd⟩ := HOk.out p (List.mem_of_getElem? hp)
      obtain ⟨x, kv⟩ := p
      simp only at q0 q1 q2 q3 q4 hkd
      have hxs : hs[k]? = some x := by rw [← HPs.out, List.getElem?_map, hp]; rfl
      have hwx : weight x.kids ≤ 1048576 := HWt.out x (List.mem_of_getElem? hxs)
      obtain ⟨A3, c3, b3, o3, k3, rfl, _, _, _, _, _⟩ := hkd.inv
      have hc9 := fun j (hj : j < 6) => (HSt.out.heads.cellAt (k * 6 + j) (by omega)).trans (hcells_at ps k _ hp j hj)
      have r0 := hc9 0 (by omega)
      have r1 := hc9 1 (by omega)
      have r2 := hc9 2 (by omega)
      have r3 := hc9 3 (by omega)
      have r4 := hc9 4 (by omega)
      have r5 := hc9 5 (by omega)
      simp only [nodeVals, List.getElem?_cons_zero, List.getElem?_cons_succ, Nat.add_zero] at r0 r1 r2 r3 r4 r5
      have HKd := Lib.hid hkd
      have HIt := Lib.hid (idsL_take hxs)
      obtain ⟨L, hL⟩ : ∃ L, idsL (hs.take k) = L := ⟨_, rfl⟩
      rw [hL] at HIt HSt HLk
      have HSt1 := Lib.hid (HSt.out.alloc (nodeBox x (.slice A3 x.kids.length c3)))
      have HTab1 := Lib.hid (HTab.out.keep (by rw [HN.out]; exact HSt.out.bel))
      have HKd1 := Lib.hid (HKd.out.keep (Keeps.of_below (by rw [HN.out]; exact HSt1.out.bel)))
      clear hc9 hkd hp hxs hL q0 q1 q2 q3 q4
      obtain ⟨ls, hls⟩ : ∃ s, lineS x = s := ⟨_, rfl⟩
      have hlsz : ls.size ≤ 1048576 := by rw [← hls]; exact Nat.le_trans (lineS_size x) hwx
      have HSn := Lib.hid (show slugEnd (slugF ls.data.toList) = slugN x by rw [← hls]; rfl)
      have HSz := Lib.hid (slugN_len x)
      have HPL := Lib.hid (plainLine_q x A3 c3 _ HKd1.out hwx)
      rw [hls] at HPL
      obtain ⟨z, hz⟩ : ∃ z : ByteArray, (⟨(slugN x).toArray⟩ : ByteArray) = z := ⟨_, rfl⟩
      have hzl : z.data.toList = slugN x := by rw [← hz]
      have HZ := Lib.hid hz
      have hzs : z.size ≤ 1048576 := by rw [← size_toList, hzl]; have := HSz.out; omega
      clear hls hz
      have HSl := Lib.hid (slug_any ls)
      go_wp2_with fail
      refine HPL.out.mono ?_
      rintro e w4 ⟨rfl, hb4⟩
      have HSt4 := Lib.hid (HSt1.out.below hb4)
      clear hb4
      go_wp2_with fail
      refine (HSl.out w4 hlsz).mono ?_
      rw [HSn.out, HZ.out]
      rintro e w5 ⟨rfl, hb5⟩
      have HSt5 := Lib.hid (HSt4.out.below hb5)
      have HTab5 := Lib.hid (HTab.out.keep (by rw [HN.out]; exact HSt5.out.bel))
      clear hb5
      obtain ⟨zb, hzb⟩ : ∃ zb : ByteArray, (⟨(baseB (slugN x)).toArray⟩ : ByteArray) = zb := ⟨_, rfl⟩
      have hzbl : zb.data.toList = baseB (slugN x) := by rw [← hzb]
      have hzbs : zb.size ≤ 1048583 := by rw [← size_toList, hzbl]; have h8 := HSz.out; have h9 := baseB_len (slugN x); omega
      have HZb := Lib.hid hzbl
      have key : (z.toList = [] ∧ (⟨#[115, 101, 99, 116, 105, 111, 110]⟩ : ByteArray) = zb) ∨ (¬ z.toList = [] ∧ z = zb) := by
        by_cases h0 : slugN x = []
        · exact Or.inl ⟨by rw [Go.ByteArray.toList_eq, hzl, h0], by rw [← hzb, h0]; rfl⟩
        · refine Or.inr ⟨by rw [Go.ByteArray.toList_eq, hzl]; exact h0, ?_⟩
          rw [← hzb, ← HZ.out, baseB, if_neg h0]
      clear hzb hzbl hzl
      rcases key with ⟨h0, hzb⟩ | ⟨h0, hzb⟩
      case inl =>
        have h0b : (z.toList == []) = true := by simpa using h0
        have h0c : (z.toList != []) = false := by simpa using h0
        have HZz := Lib.hid hzb
        clear hzb
        go_upto_region 10 with (fail)
        rw [HZz.out]
        clear HZz h0 h0b h0c
        have hzm : zb.size ≤ maxLen := by unfold maxLen; omega
        by_cases hin : baseB (slugN x) ∈ L
        · have HR1 := Lib.hid (run_used HSt5.out.used hzm (used_yes (by rw [HZb.out]; exact hin)))
          obtain ⟨m, hm1, hm2, hm3⟩ := HSt5.out.nok.from_ (baseB (slugN x))
          obtain ⟨y, hy⟩ : ∃ y, (g zb.data.toList).getD 0 = y := ⟨_, rfl⟩
          have HR2 := Lib.hid (run_next HSt5.out.next hzm hy)
          have hmx := run_max2 (P := Tryz.prog) y m (by rw [← hy, HZb.out]; exact hm1)
          obtain ⟨f1, f2, f3, f4⟩ := freeK_spec L (baseB (slugN x))
          have HFr := Lib.hid (show fresh L (baseB (slugN x)) = nm (baseB (slugN x)) (freeK L (baseB (slugN x))) by rw [fresh, if_pos hin])
          have HF3 := Lib.hid f3
          have HF4 := Lib.hid f4
          obtain ⟨K, hK⟩ : ∃ K, freeK L (baseB (slugN x)) = K := ⟨_, rfl⟩
          have HK := Lib.hid hK
          rw [hK] at hm3 f1 f2 HF3 HF4 HFr
          have hK9 : K ≤ 4002 := by have := HLk.out; omega
          clear hin hy hm1 f3 f4 hK
          go_wp2_with (first | (at_lookup; refine wpList_lookR rfl _ _ 61 false rfl zb _ rfl rfl HR1.out ?_) | (at_lookup; refine wpList_lookR rfl _ _ 62 false rfl zb _ rfl rfl HR2.out ?_))
          go_loopw [9] (fun t9 wr => ∃ q : Nat, m ≤ q ∧ q ≤ K ∧ t9 = .int .i64 q ∧ Hid (IdSt N (N + 2) B3 N (N + 1) w wr (.slice (some ⟨gh, 0, none⟩) ps.length ch) ps L L (.slice A k c) n g)) (fun t _ => K - (intOf t).toNat)
          case atStart => exact ⟨m, Nat.le_refl _, hm3, rfl, HSt5⟩
          case round =>
            clear HR1 HR2 hmx HSt5 HTab5
            obtain ⟨q, hq1, hq2, rfl, HStq⟩ := hrel
            obtain ⟨sk, hsk⟩ : ∃ s : ByteArray, (⟨(Lib.itoa (q : Int)).toArray⟩ : ByteArray) = s := ⟨_, rfl⟩
            have hsks : sk.size ≤ 21 := by rw [← hsk]; exact itoa_size q (by omega)
            have HSk := Lib.hid hsk
            have HNm := Lib.hid (nm_str zb sk q hsk)
            have HNm2 := Lib.hid (nm_str2 zb sk q hsk)
            have hz1m : (zb ++ ⟨#[45]⟩ ++ sk).size ≤ maxLen := by unfold maxLen; simp only [ByteArray.size_append]; have : (⟨#[45]⟩ : ByteArray).size = 1 := rfl; omega
            have hz2m : (zb ++ (⟨#[45]⟩ ++ sk)).size ≤ maxLen := by unfold maxLen; simp only [ByteArray.size_append]; have : (⟨#[45]⟩ : ByteArray).size = 1 := rfl; omega
            have HTabq := Lib.hid (HTab.out.keep (by rw [HN.out]; exact HStq.out.bel))
            clear hsk
            by_cases hqK : q = K
            · subst hqK
              go_wp2_with fail
              refine (itoa_k q sk _ (by omega) HSk.out HTabq.out).mono ?_
              rintro e w6 ⟨rfl, hb6⟩
              have HSt6 := Lib.hid (HStq.out.below hb6)
              have HR := Lib.hid (run_used HSt6.out.used hz1m (used_no (by rw [HNm.out, HZb.out]; exact HF3.out)))
              clear hb6 HStq
              go_wp2_with (first | (at_lookup; go_must (refine wpList_lookR rfl _ _ 61 false rfl _ _ rfl rfl HR.out ?_)) | (at_mapUpdate; go_must (refine wpList_storeR rfl _ _ _ 62 rfl Tryz.underlying9 Tryz.underlying62 HSt6.out.next (by unfold maxLen; omega) rfl zb hzm _ (q : Int) rfl rfl (plainElem_int Tryz.underlying3 (wf_nat q (by omega))) ?_); intro w7 hm7 ht7; have HSt7 := Lib.hid (HSt6.out.turnNext (baseB (slugN x)) (by rw [HK.out, ← HZb.out]; exact hm7) ht7); clear hm7 ht7))
              refine (itoa_k q sk _ (by omega) HSk.out (HTab.out.keep (by rw [HN.out]; exact HSt7.out.bel))).mono ?_
              rintro e w8 ⟨rfl, hb8⟩
              have HSt8 := Lib.hid (HSt7.out.below hb8)
              clear hb8 HSt6 HSt7 HR
              go_wp2_with (first | (at_mapUpdate; go_must (refine wpList_storeR rfl _ _ _ 61 rfl Tryz.underlying9 Tryz.underlying61 HSt8.out.used (by unfold maxLen; omega) rfl _ (by first | exact hz2m) _ true rfl rfl (plainElem_bool Tryz.underlying4 _) ?_); intro w9 hm9 ht9; have HSt9 := Lib.hid (HSt8.out.turnUsed _ hm9 ht9); clear hm9 ht9 HSt8) | (at_builtin; go_loud (go_must (refine wpList_push _ rfl (.tmp 50) (.tmp 52) 23 rfl B3 9 _ 1 16 Tryz.underlying23 info_strI rfl (by omega) (.slice A k c) k _ rfl (own_alloc (show w9.ownsRow B3 9 1 (.slice A k c) k (strCells L) by have h9 := HSt9.out.out; rwa [HLk.out] at h9) _) _ rfl _ rfl (cell_new _ _ 9 _ rfl) (one_str _) (by omega) (by unfold maxLen; omega) (by have := HSt9.out.sz; simp; omega) ?_); intro g7 c7 w10 own7 hg7 hgg7 hb7; have HO10 := Lib.hid own7; have HG10 := Lib.hid hg7; have HB10 := Lib.hid hb7; clear own7 hg7 hgg7 hb7)))
              go_roundw
              case rel =>
                have e1 := HNm2.out.trans ((congrArg (nm · q) HZb.out).trans HFr.out.symm)
                have hl9 : (L ++ [(zb ++ (⟨#[45]⟩ ++ sk)).data.toList]).length = k + 1 := by rw [List.length_append, HLk.out]; rfl
                have h10 := (HSt9.out.alloc (.cells #[.string (zb ++ (⟨#[45]⟩ ++ sk))] 9)).push (s := (zb ++ (⟨#[45]⟩ ++ sk)).data.toList) (u := .slice (some ⟨g7, 0, none⟩) (k + 1) c7) rfl (by rw [hl9, strCells_append]; exact HO10.out) HG10.out HB10.out
                rw [e1] at h10 hl9
                exact ⟨k + 1, n + 1 + 1, some ⟨g7, 0, none⟩, c7, _, by omega, by omega, by go_num, rfl, Lib.hid (by rw [HIt.out]; exact hl9), Lib.hid (by rw [HIt.out]; exact h10)⟩
              case measure => simp [intOf]; omega
            · have HR0 := Lib.hid (HF4.out q (by omega) (by omega))
              go_wp2_with fail
              refine (itoa_k q sk _ (by omega) HSk.out HTabq.out).mono ?_
              rintro e w6 ⟨rfl, hb6⟩
              have HSt6 := Lib.hid (HStq.out.below hb6)
              have HR := Lib.hid (run_used HSt6.out.used hz1m (used_yes (by rw [HNm.out, HZb.out]; exact HR0.out)))
              clear hb6 HStq
              go_wp2_with (at_lookup; go_must (refine wpList_lookR rfl _ _ 61 false rfl _ _ rfl rfl HR.out ?_))
              go_roundw
              case rel => exact ⟨q + 1, by omega, by omega, by go_num, HSt6⟩
              case measure => simp [intOf]; omega
        · have HR1 := Lib.hid (run_used HSt5.out.used hzm (used_no (by rw [HZb.out]; exact hin)))
          have HFr := Lib.hid (show fresh L (baseB (slugN x)) = baseB (slugN x) by rw [fresh, if_neg hin])
          clear hin
          go_wp2_with (first | (at_lookup; go_must (refine wpList_lookR rfl _ _ 61 false rfl zb _ rfl rfl HR1.out ?_)) | (at_mapUpdate; go_must (refine wpList_storeR rfl _ _ _ 61 rfl Tryz.underlying9 Tryz.underlying61 HSt5.out.used (by unfold maxLen; omega) rfl zb hzm _ true rfl rfl (plainElem_bool Tryz.underlying4 _) ?_); intro w9 hm9 ht9; have HSt9 := Lib.hid (HSt5.out.turnUsed _ hm9 ht9); clear hm9 ht9 HSt5) | (at_builtin; go_loud (go_must (refine wpList_push _ rfl (.tmp 50) (.tmp 52) 23 rfl B3 9 _ 1 16 Tryz.underlying23 info_strI rfl (by omega) (.slice A k c) k _ rfl (own_alloc (show w9.ownsRow B3 9 1 (.slice A k c) k (strCells L) by have h9 := HSt9.out.out; rwa [HLk.out] at h9) _) _ rfl _ rfl (cell_new _ _ 9 _ rfl) (one_str _) (by omega) (by unfold maxLen; omega) (by have := HSt9.out.sz; simp; omega) ?_); intro g7 c7 w10 own7 hg7 hgg7 hb7; have HO10 := Lib.hid own7; have HG10 := Lib.hid hg7; have HB10 := Lib.hid hb7; clear own7 hg7 hgg7 hb7)))
          go_roundw
          case rel =>
            have e1 := HZb.out.trans HFr.out.symm
            have hl9 : (L ++ [zb.data.toList]).length = k + 1 := by rw [List.length_append, HLk.out]; rfl
            have h10 := (HSt9.out.alloc (.cells #[.string zb] 9)).push (s := zb.data.toList) (u := .slice (some ⟨g7, 0, none⟩) (k + 1) c7) rfl (by rw [hl9, strCells_append]; exact HO10.out) HG10.out HB10.out
            rw [e1] at h10 hl9
            exact ⟨k + 1, n + 1, some ⟨g7, 0, none⟩, c7, _, by omega, by omega, by go_num, rfl, Lib.hid (by rw [HIt.out]; exact hl9), Lib.hid (by rw [HIt.out]; exact h10)⟩
          case measure => simp [intOf]; omega
      case inr =>
        subst hzb
        have h0b : (z.toList == []) = false := by simpa using h0
        have h0c : (z.toList != []) = true := by simpa using h0
        go_upto_region 10 with (fail)
        clear h0 h0b h0c
        have hzm : z.size ≤ maxLen := by unfold maxLen; omega
        by_cases hin : baseB (slugN x) ∈ L
        · have HR1 := Lib.hid (run_used HSt5.out.used hzm (used_yes (by rw [HZb.out]; exact hin)))
          obtain ⟨m, hm1, hm2, hm3⟩ := HSt5.out.nok.from_ (baseB (slugN x))
          obtain ⟨y, hy⟩ : ∃ y, (g z.data.toList).getD 0 = y := ⟨_, rfl⟩
          have HR2 := Lib.hid (run_next HSt5.out.next hzm hy)
          have hmx := run_max2 (P := Tryz.prog) y m (by rw [← hy, HZb.out]; exact hm1)
          obtain ⟨f1, f2, f3, f4⟩ := freeK_spec L (baseB (slugN x))
          have HFr := Lib.hid (show fresh L (baseB (slugN x)) = nm (baseB (slugN x)) (freeK L (baseB (slugN x))) by rw [fresh, if_pos hin])
          have HF3 := Lib.hid f3
          have HF4 := Lib.hid f4
          obtain ⟨K, hK⟩ : ∃ K, freeK L (baseB (slugN x)) = K := ⟨_, rfl⟩
          have HK := Lib.hid hK
          rw [hK] at hm3 f1 f2 HF3 HF4 HFr
          have hK9 : K ≤ 4002 := by have := HLk.out; omega
          clear hin hy hm1 f3 f4 hK
          go_wp2_with (first | (at_lookup; refine wpList_lookR rfl _ _ 61 false rfl z _ rfl rfl HR1.out ?_) | (at_lookup; refine wpList_lookR rfl _ _ 62 false rfl z _ rfl rfl HR2.out ?_))
          go_loopw [9] (fun t9 wr => ∃ q : Nat, m ≤ q ∧ q ≤ K ∧ t9 = .int .i64 q ∧ Hid (IdSt N (N + 2) B3 N (N + 1) w wr (.slice (some ⟨gh, 0, none⟩) ps.length ch) ps L L (.slice A k c) n g)) (fun t _ => K - (intOf t).toNat)
          case atStart => exact ⟨m, Nat.le_refl _, hm3, rfl, HSt5⟩
          case round =>
            clear HR1 HR2 hmx HSt5 HTab5
            obtain ⟨q, hq1, hq2, rfl, HStq⟩ := hrel
            obtain ⟨sk, hsk⟩ : ∃ s : ByteArray, (⟨(Lib.itoa (q : Int)).toArray⟩ : ByteArray) = s := ⟨_, rfl⟩
            have hsks : sk.size ≤ 21 := by rw [← hsk]; exact itoa_size q (by omega)
            have HSk := Lib.hid hsk
            have HNm := Lib.hid (nm_str z sk q hsk)
            have HNm2 := Lib.hid (nm_str2 z sk q hsk)
            have hz1m : (z ++ ⟨#[45]⟩ ++ sk).size ≤ maxLen := by unfold maxLen; simp only [ByteArray.size_append]; have : (⟨#[45]⟩ : ByteArray).size = 1 := rfl; omega
            have hz2m : (z ++ (⟨#[45]⟩ ++ sk)).size ≤ maxLen := by unfold maxLen; simp only [ByteArray.size_append]; have : (⟨#[45]⟩ : ByteArray).size = 1 := rfl; omega
            have HTabq := Lib.hid (HTab.out.keep (by rw [HN.out]; exact HStq.out.bel))
            clear hsk
            by_cases hqK : q = K
            · subst hqK
              go_wp2_with fail
              refine (itoa_k q sk _ (by omega) HSk.out HTabq.out).mono ?_
              rintro e w6 ⟨rfl, hb6⟩
              have HSt6 := Lib.hid (HStq.out.below hb6)
              have HR := Lib.hid (run_used HSt6.out.used hz1m (used_no (by rw [HNm.out, HZb.out]; exact HF3.out)))
              clear hb6 HStq
              go_wp2_with (first | (at_lookup; go_must (refine wpList_lookR rfl _ _ 61 false rfl _ _ rfl rfl HR.out ?_)) | (at_mapUpdate; go_must (refine wpList_storeR rfl _ _ _ 62 rfl Tryz.underlying9 Tryz.underlying62 HSt6.out.next (by unfold maxLen; omega) rfl z hzm _ (q : Int) rfl rfl (plainElem_int Tryz.underlying3 (wf_nat q (by omega))) ?_); intro w7 hm7 ht7; have HSt7 := Lib.hid (HSt6.out.turnNext (baseB (slugN x)) (by rw [HK.out, ← HZb.out]; exact hm7) ht7); clear hm7 ht7))
              refine (itoa_k q sk _ (by omega) HSk.out (HTab.out.keep (by rw [HN.out]; exact HSt7.out.bel))).mono ?_
              rintro e w8 ⟨rfl, hb8⟩
              have HSt8 := Lib.hid (HSt7.out.below hb8)
              clear hb8 HSt6 HSt7 HR
              go_wp2_with (first | (at_mapUpdate; go_must (refine wpList_storeR rfl _ _ _ 61 rfl Tryz.underlying9 Tryz.underlying61 HSt8.out.used (by unfold maxLen; omega) rfl _ (by first | exact hz2m) _ true rfl rfl (plainElem_bool Tryz.underlying4 _) ?_); intro w9 hm9 ht9; have HSt9 := Lib.hid (HSt8.out.turnUsed _ hm9 ht9); clear hm9 ht9 HSt8) | (at_builtin; go_loud (go_must (refine wpList_push _ rfl (.tmp 50) (.tmp 52) 23 rfl B3 9 _ 1 16 Tryz.underlying23 info_strI rfl (by omega) (.slice A k c) k _ rfl (own_alloc (show w9.ownsRow B3 9 1 (.slice A k c) k (strCells L) by have h9 := HSt9.out.out; rwa [HLk.out] at h9) _) _ rfl _ rfl (cell_new _ _ 9 _ rfl) (one_str _) (by omega) (by unfold maxLen; omega) (by have := HSt9.out.sz; simp; omega) ?_); intro g7 c7 w10 own7 hg7 hgg7 hb7; have HO10 := Lib.hid own7; have HG10 := Lib.hid hg7; have HB10 := Lib.hid hb7; clear own7 hg7 hgg7 hb7)))
              go_roundw
              case rel =>
                have e1 := HNm2.out.trans ((congrArg (nm · q) HZb.out).trans HFr.out.symm)
                have hl9 : (L ++ [(z ++ (⟨#[45]⟩ ++ sk)).data.toList]).length = k + 1 := by rw [List.length_append, HLk.out]; rfl
                have h10 := (HSt9.out.alloc (.cells #[.string (z ++ (⟨#[45]⟩ ++ sk))] 9)).push (s := (z ++ (⟨#[45]⟩ ++ sk)).data.toList) (u := .slice (some ⟨g7, 0, none⟩) (k + 1) c7) rfl (by rw [hl9, strCells_append]; exact HO10.out) HG10.out HB10.out
                rw [e1] at h10 hl9
                exact ⟨k + 1, n + 1 + 1, some ⟨g7, 0, none⟩, c7, _, by omega, by omega, by go_num, rfl, Lib.hid (by rw [HIt.out]; exact hl9), Lib.hid (by rw [HIt.out]; exact h10)⟩
              case measure => simp [intOf]; omega
            · have HR0 := Lib.hid (HF4.out q (by omega) (by omega))
              go_wp2_with fail
              refine (itoa_k q sk _ (by omega) HSk.out HTabq.out).mono ?_
              rintro e w6 ⟨rfl, hb6⟩
              have HSt6 := Lib.hid (HStq.out.below hb6)
              have HR := Lib.hid (run_used HSt6.out.used hz1m (used_yes (by rw [HNm.out, HZb.out]; exact HR0.out)))
              clear hb6 HStq
              go_wp2_with (at_lookup; go_must (refine wpList_lookR rfl _ _ 61 false rfl _ _ rfl rfl HR.out ?_))
              go_roundw
              case rel => exact ⟨q + 1, by omega, by omega, by go_num, HSt6⟩
              case measure => simp [intOf]; omega
        · have HR1 := Lib.hid (run_used HSt5.out.used hzm (used_no (by rw [HZb.out]; exact hin)))
          have HFr := Lib.hid (show fresh L (baseB (slugN x)) = baseB (slugN x) by rw [fresh, if_neg hin])
          clear hin
          go_wp2_with (first | (at_lookup; go_must (refine wpList_lookR rfl _ _ 61 false rfl z _ rfl rfl HR1.out ?_)) | (at_mapUpdate; go_must (refine wpList_storeR rfl _ _ _ 61 rfl Tryz.underlying9 Tryz.underlying61 HSt5.out.used (by unfold maxLen; omega) rfl z hzm _ true rfl rfl (plainElem_bool Tryz.underlying4 _) ?_); intro w9 hm9 ht9; have HSt9 := Lib.hid (HSt5.out.turnUsed _ hm9 ht9); clear hm9 ht9 HSt5) | (at_builtin; go_loud (go_must (refine wpList_push _ rfl (.tmp 50) (.tmp 52) 23 rfl B3 9 _ 1 16 Tryz.underlying23 info_strI rfl (by omega) (.slice A k c) k _ rfl (own_alloc (show w9.ownsRow B3 9 1 (.slice A k c) k (strCells L) by have h9 := HSt9.out.out; rwa [HLk.out] at h9) _) _ rfl _ rfl (cell_new _ _ 9 _ rfl) (one_str _) (by omega) (by unfold maxLen; omega) (by have := HSt9.out.sz; simp; omega) ?_); intro g7 c7 w10 own7 hg7 hgg7 hb7; have HO10 := Lib.hid own7; have HG10 := Lib.hid hg7; have HB10 := Lib.hid hb7; clear own7 hg7 hgg7 hb7)))
          go_roundw
          case rel =>
            have e1 := HZb.out.trans HFr.out.symm
            have hl9 : (L ++ [z.data.toList]).length = k + 1 := by rw [List.length_append, HLk.out]; rfl
            have h10 := (HSt9.out.alloc (.cells #[.string z] 9)).push (s := z.data.toList) (u := .slice (some ⟨g7, 0, none⟩) (k + 1) c7) rfl (by rw [hl9, strCells_append]; exact HO10.out) HG10.out HB10.out
            rw [e1] at h10 hl9
            exact ⟨k + 1, n + 1, some ⟨g7, 0, none⟩, c7, _, by omega, by omega, by go_num, rfl, Lib.hid (by rw [HIt.out]; exact hl9), Lib.hid (by rw [HIt.out]; exact h10)⟩
          case measure => simp [intOf]; omega
    · obtain rfl : k = ps.length := by omega
      have hO := HSt.out.out
      have hBl := HSt.out.bel
      have hk3 := HSt.out.k3
      rw [HPl.out, List.take_length] at hO HLk
      have HO := Lib.hid hO
      have HBl := Lib.hid hBl
      clear hO hBl
      go_wp2_with fail
      go_ret
      rw [HPl.out]
      have hO9 := HO.out
      have hl9 := HLk.out
      rw [hl9] at hO9
      refine ⟨A, c, ?_, ?_, HBl.out⟩
      · rw [hl9]; rfl
      · rw [hl9]; exact own_lower hO9 (by omega)

end Go.Proofs.YtikijmjcmpkkdaaGreatDoor
