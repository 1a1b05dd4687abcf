/-
  The names of a body: page.Shortcodes, mastref1.NamesOf; the names that a set lacks: page.Missing, mastref1.MissingOf.
-/
import Derived.Test.YtebhbgamdhjdkaaInsert
import Derived.Test.YtebhbgamdhjdkaaPrts
import Derived.Test.YtebhbgamdhjdkaaShelf
namespace Go.Proofs.Ytebhbgamdhjdkaa
open Go.RowKit Go.Deep

/-- a set has a template -/
def hasS (l : List (ByteArray × ByteArray)) (s : ByteArray) : Bool := l.any fun x => x.1.toList == s.toList
theorem hasS_at {l : List (ByteArray × ByteArray)} {k : Nat} {x : ByteArray × ByteArray} {s : ByteArray} (h : l[k]? = some x) : hasS (l.drop k) s = (x.1.toList == s.toList || hasS (l.drop (k + 1)) s) := by
  obtain ⟨hk, rfl⟩ := List.getElem?_eq_some_iff.1 h
  rw [List.drop_eq_getElem_cons hk]
  rfl
/-- a list of names that a call makes -/
def NamesPost (L : List Str) (w : World) (e : Ending) (w' : World) : Prop :=
  ∃ A c, e = .returned (.slice A L.length c) ∧ w'.ownsRow w.heap.size 9 1 (.slice A L.length c) L.length (strCells L) ∧ Below w.heap.size w w'
theorem below_grown {B : Nat} {a b : World} {r : Option Nat} (h : a.grownBy b r) (hB : B ≤ a.heap.size) (hr : ∀ g, r = some g → B ≤ g) : Below B a b := (Below.refl B a).grown h hB hr
theorem prt_box (p : Prt) (tx : ByteArray) (av : Value) (en : Bool) (iv : Value) : Obj.cells #[.string tx, .string ⟨p.name.toArray⟩, av, .bool en, iv] 48 = .cells #[.string tx, .string ⟨p.name.toArray⟩, av, .bool en, iv] 48 := rfl
def prtBox (p : Prt) (tx : ByteArray) (av : Value) (en : Bool) (iv : Value) : Obj := .cells #[.string tx, .string ⟨p.name.toArray⟩, av, .bool en, iv] 48
theorem isEmptyQ {n : Str} {z : ByteArray} (hz : (⟨n.toArray⟩ : ByteArray) = z) : z.toList.isEmpty = n.isEmpty := by rw [← hz, mk_list]


set_option maxRecDepth 100000 in
set_option maxHeartbeats 2000000 in
theorem has_q (l : List (ByteArray × ByteArray)) (v : Value) (s : ByteArray) (r : Bool) (w : World) (h : SrcsAt w v l) (hr : hasS l s = r) : Calls Try.prog 23 #[v, .string s] w fun e w' => e = .returned (.bool r) ∧ Below w.heap.size w w' := by
  obtain ⟨A, c, b, o, rfl, hlc, hc, hA, hcell⟩ := h
  unfold maxLen at hc
  have HR := Lib.hid hr; clear hr
  have HCell := Lib.hid hcell; clear hcell
  go_enter Try.func23, Try.ntmps23
  go_wp2_with fail
  go_loopw [9] (fun t wr => ∃ k : Nat, k ≤ l.length ∧ t = .int .i64 k ∧ Hid (Below w.heap.size w wr) ∧ Hid (hasS (l.drop k) s = hasS l s)) (fun t _ => l.length - (intOf t).toNat)
  case atStart => exact ⟨0, Nat.zero_le _, rfl, Below.refl _ _, rfl⟩
  case round =>
    obtain ⟨k, hk, rfl, hB, hs⟩ := hrel
    by_cases hlt : k < l.length
    · have hA' := hA (by rintro rfl; simp at hlt)
      subst hA'
      obtain ⟨x, hx⟩ : ∃ x, l[k]? = some x := ⟨_, List.getElem?_eq_getElem hlt⟩
      obtain ⟨p0, p1⟩ := HCell.out k x hx
      have p0 := Keeps.of_below hB.out _ _ p0
      have p1 := Keeps.of_below hB.out _ _ p1
      have bb := World.block_lt_of_cell? _ _ p0
      simp only at bb
      have HD := Lib.hid (hasS_at hx (s := s)); clear hx
      have HB2 := Lib.hid (hB.out.alloc hB.out.size (.cells #[.string x.1, .string x.2] 65))
      cases hxs : (x.1.toList == s.toList)
      · have HX := Lib.hid hxs
        go_wp2_with fail
        go_roundw
        case rel => exact ⟨k + 1, by omega, by go_num, HB2.out, (show _ = _ by rw [← hs.out, HD.out, HX.out]; rfl)⟩
        case measure => simp [intOf]; omega
      · have HX := Lib.hid hxs
        go_wp2_with fail
        go_ret
        exact ⟨ret_bool (by rw [← HR.out, ← hs.out, HD.out, HX.out]; rfl), HB2.out⟩
    · go_wp2_with fail
      go_ret
      exact ⟨ret_bool (by rw [← HR.out, ← hs.out, List.drop_eq_nil_of_le (by omega)]; rfl), hB.out⟩

set_option maxRecDepth 100000 in
set_option maxHeartbeats 2000000 in
theorem inSet_q (l : List (ByteArray × ByteArray)) (v : Value) (s : ByteArray) (r : Bool) (w : World) (h : SrcsAt w v l) (hr : hasS l s = r) : Calls Try.prog 24 #[v, .string s] w fun e w' => e = .returned (.bool r) ∧ Below w.heap.size w w' := by
  obtain ⟨A, c, b, o, rfl, hlc, hc, hA, hcell⟩ := h
  unfold maxLen at hc
  have HR := Lib.hid hr; clear hr
  have HCell := Lib.hid hcell; clear hcell
  go_enter Try.func24, Try.ntmps24
  go_wp2_with fail
  go_loopw [9] (fun t wr => ∃ k : Nat, k ≤ l.length ∧ t = .int .i64 k ∧ Hid (Below w.heap.size w wr) ∧ Hid (hasS (l.drop k) s = hasS l s)) (fun t _ => l.length - (intOf t).toNat)
  case atStart => exact ⟨0, Nat.zero_le _, rfl, Below.refl _ _, rfl⟩
  case round =>
    obtain ⟨k, hk, rfl, hB, hs⟩ := hrel
    by_cases hlt : k < l.length
    · have hA' := hA (by rintro rfl; simp at hlt)
      subst hA'
      obtain ⟨x, hx⟩ : ∃ x, l[k]? = some x := ⟨_, List.getElem?_eq_getElem hlt⟩
      obtain ⟨p0, p1⟩ := HCell.out k x hx
      have p0 := Keeps.of_below hB.out _ _ p0
      have p1 := Keeps.of_below hB.out _ _ p1
      have bb := World.block_lt_of_cell? _ _ p0
      simp only at bb
      have HD := Lib.hid (hasS_at hx (s := s)); clear hx
      have HB2 := Lib.hid (hB.out.alloc hB.out.size (.cells #[.string x.1, .string x.2] 65))
      cases hxs : (x.1.toList == s.toList)
      · have HX := Lib.hid hxs
        go_wp2_with fail
        go_roundw
        case rel => exact ⟨k + 1, by omega, by go_num, HB2.out, (show _ = _ by rw [← hs.out, HD.out, HX.out]; rfl)⟩
        case measure => simp [intOf]; omega
      · have HX := Lib.hid hxs
        go_wp2_with fail
        go_ret
        exact ⟨ret_bool (by rw [← HR.out, ← hs.out, HD.out, HX.out]; rfl), HB2.out⟩
    · go_wp2_with fail
      go_ret
      exact ⟨ret_bool (by rw [← HR.out, ← hs.out, List.drop_eq_nil_of_le (by omega)]; rfl), hB.out⟩

theorem ins_len (s : Str) : ∀ (l : List Str), (insS s l).length ≤ l.length + 1
  | [] => by simp [insS]
  | a :: r => by
    have := ins_len s r
    unfold insS
    split
    · simp; omega
    · split <;> simp
/-- insert, its list's length by a name -/
theorem insert_r (B : Nat) (L : List Str) (A : Option Addr) (m c : Nat) (s : ByteArray) (r : List Str) (w : World) (hm : m = L.length) (own : w.ownsRow B 9 1 (.slice A m c) m (strCells L)) (hB : B ≤ w.heap.size) (hl : m ≤ 1073741824) (hr : insS s.data.toList L = r) :
    Calls Try.prog 21 #[.slice A m c, .string s] w fun e w' => ∃ A' m' c', e = .returned (.slice A' m' c') ∧ Hid (m' = r.length) ∧ w'.ownsRow B 9 1 (.slice A' m' c') m' (strCells r) ∧ w.grownBy w' (Value.slice A m c).ownBlock ∧ (∀ g, (Value.slice A' m' c').ownBlock = some g → (Value.slice A m c).ownBlock = some g ∨ w.heap.size ≤ g) := by
  subst hm
  exact (insert_q B L A c s r w own hB hl hr).mono fun e w' ⟨A', c', h1, h2, h3, h4⟩ => ⟨A', _, c', h1, Lib.hid rfl, h2, h3, h4⟩

set_option maxRecDepth 100000 in
set_option maxHeartbeats 4000000 in
theorem shortcodes_q (N : Nat) : ∀ (l : List Prt) (v : Value) (w : World), SizeOf.sizeOf l ≤ N → PrtsAt w v l → totalP l ≤ 1073741824 → Calls Try.prog 10 #[v] w (NamesPost (namesC l) w) := by
  induction N with
  | zero =>
    intro l v w hN
    cases l <;> simp at hN
  | succ N ih =>
    intro l v w hN h ht
    obtain ⟨An, c, bl, o, tx, av, en, iv, rfl, hlc, hc, hA, hcell, hkid⟩ := h.inv
    unfold maxLen at hc
    have HCell := Lib.hid hcell; clear hcell
    have HKid := Lib.hid hkid; clear hkid
    have HN := Lib.hid hN; clear hN
    have HI := Lib.hid ih; clear ih
    clear h
    go_enter Try.func10, Try.ntmps10
    go_wp2_with fail
    go_loopw [3, 10] (fun t3 t wr => ∃ (k m : Nat) (Ao : Option Addr) (co : Nat), k ≤ l.length ∧ t = .int .i64 k ∧ t3 = .slice Ao m co ∧ Hid (m = (canon (namesT (l.take k))).length) ∧ Hid (wr.ownsRow w.heap.size 9 1 (.slice Ao m co) m (strCells (canon (namesT (l.take k))))) ∧ Hid (Below w.heap.size w wr)) (fun _ t _ => l.length - (intOf t).toNat)
    case atStart => exact ⟨0, 0, none, 0, Nat.zero_le _, rfl, rfl, (show 0 = _ by rw [List.take_zero, namesT_nil, canon_nil]; rfl), (show World.ownsRow _ _ _ _ _ _ _ by rw [List.take_zero, namesT_nil, canon_nil]; exact World.ownsRow_nil _ _ _ _), Below.refl _ _⟩
    case round =>
      obtain ⟨k, m, Ao, co, hk, rfl, rfl, hm, hown, hbel⟩ := hrel
      by_cases hlt : k < l.length
      · have hA' := hA (by rintro rfl; simp at hlt)
        subst hA'
        obtain ⟨n, hn⟩ : ∃ n, l[k]? = some n := ⟨_, List.getElem?_eq_getElem hlt⟩
        obtain ⟨p0, p1, p2, p3, p4, ⟨Aa, na, ca, eav⟩, hsn⟩ := (HCell.out k n hn).keep (Keeps.of_below hbel.out)
        have bb := World.block_lt_of_cell? _ _ p0
        simp only at bb
        have hkid := HKid.out k n hn
        obtain ⟨A3, c3, _, _, _, _, _, _, e3, _, _, _, _, _⟩ := hkid.inv
        rw [e3] at hkid p4
        rw [eav] at p2
        obtain ⟨z, hz⟩ : ∃ z : ByteArray, (⟨n.name.toArray⟩ : ByteArray) = z := ⟨_, rfl⟩
        have hze := isEmptyQ hz
        have hzl : z.data.toList = n.name := by rw [← hz]
        rw [hz] at p1
        have HKd9 := Lib.hid hkid
        have HKd := Lib.hid (hkid.keep (Keeps.of_below hbel.out)); clear hkid
        have HSz := Lib.hid (prt_at HN.out hn)
        have htk := totalP_take hn
        have htl := totalP_le l (k + 1)
        have hml : m ≤ totalP (l.take k) := by rw [hm.out]; exact Nat.le_trans (canon_len _) (namesT_len _)
        have hm2 : m + 1 + totalP n.kids ≤ 1073741824 := by omega
        have hkt : totalP n.kids ≤ 1073741824 := by omega
        have HTk := Lib.hid (namesT_take hn)
        have hB := hbel.out.size
        obtain ⟨txk, htx⟩ : ∃ t, tx k = t := ⟨_, rfl⟩
        obtain ⟨enk, hen⟩ : ∃ t, en k = t := ⟨_, rfl⟩
        rw [htx] at p0
        rw [hen] at p3
        obtain ⟨bx, hbx⟩ : ∃ bx, bx = Obj.cells #[.string txk, .string z, .slice Aa na ca, .bool enk, .slice A3 n.kids.length c3] 48 := ⟨_, rfl⟩
        have HX := Lib.hid (heap_alloc_new wr bx)
        have HOwn0 := Lib.hid (own_alloc hown.out bx)
        have HB0 := Lib.hid (hbel.out.alloc hB bx)
        have HKd2 := Lib.hid (HKd.out.keep (Keeps.alloc _ bx))
        rw [hbx] at HX HOwn0 HB0 HKd2
        clear hn hA e3 htk htl hml hbx htx hen eav hz
        by_cases hnn : n.name = []
        · have hnm : z.toList.isEmpty = true := by rw [hze, hnn]; rfl
          have HOne := Lib.hid (show canon (namesT (l.take k) ++ oneN n.name) = canon (namesT (l.take k)) by rw [canon_name, if_pos hnn])
          clear hze hzl
          go_wp2_with fail
          go_must (refine (HI.out n.kids _ _ HSz.out HKd2.out hkt).mono ?_)
          rintro e w2 ⟨A2, c2, rfl, own2, bel2⟩
          have HOwnA := Lib.hid (HOwn0.out.kept (grown_below (r := none) bel2) (by cases hx : (Value.slice Ao m co).ownBlock <;> simp))
          have HApart := Lib.hid (show Apart (.slice Ao m co) (.slice A2 (namesC n.kids).length c2) from fun g h1 h2 => by
            have h3 := HOwn0.out.lt g h1
            have h4 := own2.lt g h2
            omega)
          have HBelA := Lib.hid (HB0.out.trans (bel2.mono HB0.out.size))
          have hmA : m = (canon (namesT (l.take k) ++ oneN n.name)).length := by rw [HOne.out]; exact hm.out
          rw [← HOne.out] at HOwnA
          have hmb : m ≤ 536870912 + m := by omega
          obtain ⟨C, hC⟩ : ∃ C, namesC n.kids = C := ⟨_, rfl⟩
          rw [hC] at own2
          rw [hC] at HApart
          have hCl : C.length ≤ totalP n.kids := by rw [← hC]; exact namesC_len _
          have HC := Lib.hid hC; clear hC
          rw [HC.out]
          have HMA := Lib.hid hmA
          have HOC := Lib.hid own2
          have hbs := bel2.size
          clear own2 hmA bel2
          have hmk : (canon (namesT (l.take k) ++ oneN n.name)).length ≤ m + 1 := by
            rw [← HMA.out]; omega
          go_wp2_with fail
          go_loopw [3, 25] (fun t3 t wq => ∃ (j q : Nat) (Aq : Option Addr) (cq : Nat), j ≤ C.length ∧ t = .int .i64 j ∧ t3 = .slice Aq q cq ∧ Hid (q = (canon (namesT (l.take k) ++ oneN n.name ++ C.take j)).length) ∧ Hid (wq.ownsRow w.heap.size 9 1 (.slice Aq q cq) q (strCells (canon (namesT (l.take k) ++ oneN n.name ++ C.take j)))) ∧ Hid (∃ B2, wq.ownsRow B2 9 1 (.slice A2 C.length c2) C.length (strCells C)) ∧ Hid (Apart (.slice Aq q cq) (.slice A2 C.length c2)) ∧ Hid (Below w.heap.size w wq) ∧ q ≤ m + 1 + j) (fun _ t _ => C.length - (intOf t).toNat)
          case atStart => exact ⟨0, m, _, _, Nat.zero_le _, rfl, rfl, (show _ = _ by rw [List.take_zero, List.append_nil]; exact HMA.out), (show World.ownsRow _ _ _ _ _ _ _ by rw [List.take_zero, List.append_nil]; exact HOwnA.out), ⟨_, HOC.out⟩, HApart.out, HBelA.out, by have := HMA.out; omega⟩
          case round =>
            obtain ⟨j, q, Aq, cq, hj, rfl, rfl, hq, hoq, ⟨B2, hoc⟩, hap, hbq, hqm⟩ := hrel
            by_cases hjl : j < C.length
            · obtain ⟨x, hx⟩ : ∃ x, C[j]? = some x := ⟨_, List.getElem?_eq_getElem hjl⟩
              obtain ⟨gc, rfl, hgB, hgl⟩ : ∃ g, A2 = some ⟨g, 0, none⟩ ∧ B2 ≤ g ∧ True := by
                obtain ⟨A', c', hv, _, _, hA'⟩ := own_form hoc
                cases hv
                obtain ⟨g, h1, h2, _⟩ := hA' (by omega)
                exact ⟨g, h1, h2, trivial⟩
              have q0 := own_cell hoc (strCells_get hx)
              obtain ⟨z2, hz2⟩ : ∃ z : ByteArray, (⟨x.toArray⟩ : ByteArray) = z := ⟨_, rfl⟩
              rw [hz2] at q0
              have HIns := Lib.hid (show insS z2.data.toList (canon (namesT (l.take k) ++ oneN n.name ++ C.take j)) = canon (namesT (l.take k) ++ oneN n.name ++ C.take (j + 1)) by
                rw [← canon_take hx, ← hz2])
              have HOc := Lib.hid hoc
              clear hx hz2 hoc
              go_wp2_with (go_at_call 21; go_must (refine (insert_r w.heap.size _ Aq q cq z2 _ _ hq.out hoq.out hbq.out.size (by omega) HIns.out).mono ?_); rintro e w5 ⟨Ai5, mi5, ci5, rfl, hmi5, own5, hg5, hgg5⟩)
              have HOc5 := Lib.hid (HOc.out.kept hg5 hap.out.symm.or)
              have hsz5 := hg5.size
              go_roundw
              case rel =>
                refine ⟨j + 1, mi5, Ai5, ci5, by omega, by go_num, rfl, hmi5, own5, ⟨B2, HOc5.out⟩, (show Apart _ _ from fun g h1 h2 => ?_), hbq.out.trans (below_grown hg5 hbq.out.size (own_block_ge hoq.out)), ?_⟩
                · rcases hgg5 g h1 with h3 | h3
                  · exact hap.out g h3 h2
                  · have := HOc.out.lt g h2; omega
                · have h7 := ins_len z2.data.toList (canon (namesT (l.take k) ++ oneN n.name ++ C.take j))
                  rw [HIns.out, ← hmi5.out, ← hq.out] at h7
                  omega
              case measure => simp [intOf]; omega
            · obtain rfl : j = C.length := by omega
              have HE := Lib.hid (show canon (namesT (l.take k) ++ oneN n.name ++ C.take C.length) = canon (namesT (l.take (k + 1))) by
                rw [List.take_length, HTk.out, ← HC.out, canon_inner])
              rw [HE.out] at hq hoq
              go_wp2_with fail
              go_roundw
              case rel => exact ⟨k + 1, q, Aq, cq, by omega, by go_num, rfl, hq, hoq, hbq⟩
              case measure => simp [intOf]; omega

        · have hnm : z.toList.isEmpty = false := by rw [hze]; cases hq : n.name with | nil => exact absurd hq hnn | cons a b => rfl
          have HOne := Lib.hid (show insS z.data.toList (canon (namesT (l.take k))) = canon (namesT (l.take k) ++ oneN n.name) by rw [canon_name, if_neg hnn, hzl])
          clear hze hzl
          go_wp2_with (go_at_call 21; go_must (refine (insert_r w.heap.size _ Ao m co z _ _ hm.out HOwn0.out HB0.out.size (by omega) HOne.out).mono ?_); rintro e w1 ⟨Ai, mi, ci, rfl, hmi, own1, hg1, hgg⟩; have R4 := cell_of_row w1 wr.heap.size 4 _ _ (0, 0) ((hg1.block wr.heap.size (by simp) (fun e => by have := HOwn0.out.lt _ e.symm; have h2 := hown.out.lt _ e.symm; omega)).trans HX.out); simp only [List.getElem?_toArray, List.getElem?_cons_zero, List.getElem?_cons_succ] at R4)
          have HBel1 := Lib.hid (HB0.out.trans (below_grown hg1 HB0.out.size (own_block_ge HOwn0.out)))
          have HOwn1 := Lib.hid own1
          clear hg1 own1 hgg
          go_must (refine (HI.out n.kids _ _ HSz.out (HKd9.out.keep (Keeps.of_below HBel1.out)) hkt).mono ?_)
          rintro e w2 ⟨A2, c2, rfl, own2, bel2⟩
          have HOwnA := Lib.hid (HOwn1.out.kept (grown_below (r := none) bel2) (by cases hx : (Value.slice Ai mi ci).ownBlock <;> simp))
          have HApart := Lib.hid (show Apart (.slice Ai mi ci) (.slice A2 (namesC n.kids).length c2) from fun g h1 h2 => by
            have h3 := HOwn1.out.lt g h1
            have h4 := own2.lt g h2
            omega)
          have HBelA := Lib.hid (HBel1.out.trans (bel2.mono HBel1.out.size))
          have hmA : mi = (canon (namesT (l.take k) ++ oneN n.name)).length := hmi.out
          obtain ⟨C, hC⟩ : ∃ C, namesC n.kids = C := ⟨_, rfl⟩
          rw [hC] at own2
          rw [hC] at HApart
          have hCl : C.length ≤ totalP n.kids := by rw [← hC]; exact namesC_len _
          have HC := Lib.hid hC; clear hC
          rw [HC.out]
          have HMA := Lib.hid hmA
          have HOC := Lib.hid own2
          have hbs := bel2.size
          clear own2 hmA bel2
          have hmk : (canon (namesT (l.take k) ++ oneN n.name)).length ≤ m + 1 := by
            rw [← HOne.out]
            have h7 := ins_len z.data.toList (canon (namesT (l.take k)))
            rw [← hm.out] at h7
            exact h7
          go_wp2_with fail
          go_loopw [3, 25] (fun t3 t wq => ∃ (j q : Nat) (Aq : Option Addr) (cq : Nat), j ≤ C.length ∧ t = .int .i64 j ∧ t3 = .slice Aq q cq ∧ Hid (q = (canon (namesT (l.take k) ++ oneN n.name ++ C.take j)).length) ∧ Hid (wq.ownsRow w.heap.size 9 1 (.slice Aq q cq) q (strCells (canon (namesT (l.take k) ++ oneN n.name ++ C.take j)))) ∧ Hid (∃ B2, wq.ownsRow B2 9 1 (.slice A2 C.length c2) C.length (strCells C)) ∧ Hid (Apart (.slice Aq q cq) (.slice A2 C.length c2)) ∧ Hid (Below w.heap.size w wq) ∧ q ≤ m + 1 + j) (fun _ t _ => C.length - (intOf t).toNat)
          case atStart => exact ⟨0, mi, _, _, Nat.zero_le _, rfl, rfl, (show _ = _ by rw [List.take_zero, List.append_nil]; exact HMA.out), (show World.ownsRow _ _ _ _ _ _ _ by rw [List.take_zero, List.append_nil]; exact HOwnA.out), ⟨_, HOC.out⟩, HApart.out, HBelA.out, by have := HMA.out; omega⟩
          case round =>
            obtain ⟨j, q, Aq, cq, hj, rfl, rfl, hq, hoq, ⟨B2, hoc⟩, hap, hbq, hqm⟩ := hrel
            by_cases hjl : j < C.length
            · obtain ⟨x, hx⟩ : ∃ x, C[j]? = some x := ⟨_, List.getElem?_eq_getElem hjl⟩
              obtain ⟨gc, rfl, hgB, hgl⟩ : ∃ g, A2 = some ⟨g, 0, none⟩ ∧ B2 ≤ g ∧ True := by
                obtain ⟨A', c', hv, _, _, hA'⟩ := own_form hoc
                cases hv
                obtain ⟨g, h1, h2, _⟩ := hA' (by omega)
                exact ⟨g, h1, h2, trivial⟩
              have q0 := own_cell hoc (strCells_get hx)
              obtain ⟨z2, hz2⟩ : ∃ z : ByteArray, (⟨x.toArray⟩ : ByteArray) = z := ⟨_, rfl⟩
              rw [hz2] at q0
              have HIns := Lib.hid (show insS z2.data.toList (canon (namesT (l.take k) ++ oneN n.name ++ C.take j)) = canon (namesT (l.take k) ++ oneN n.name ++ C.take (j + 1)) by
                rw [← canon_take hx, ← hz2])
              have HOc := Lib.hid hoc
              clear hx hz2 hoc
              go_wp2_with (go_at_call 21; go_must (refine (insert_r w.heap.size _ Aq q cq z2 _ _ hq.out hoq.out hbq.out.size (by omega) HIns.out).mono ?_); rintro e w5 ⟨Ai5, mi5, ci5, rfl, hmi5, own5, hg5, hgg5⟩)
              have HOc5 := Lib.hid (HOc.out.kept hg5 hap.out.symm.or)
              have hsz5 := hg5.size
              go_roundw
              case rel =>
                refine ⟨j + 1, mi5, Ai5, ci5, by omega, by go_num, rfl, hmi5, own5, ⟨B2, HOc5.out⟩, (show Apart _ _ from fun g h1 h2 => ?_), hbq.out.trans (below_grown hg5 hbq.out.size (own_block_ge hoq.out)), ?_⟩
                · rcases hgg5 g h1 with h3 | h3
                  · exact hap.out g h3 h2
                  · have := HOc.out.lt g h2; omega
                · have h7 := ins_len z2.data.toList (canon (namesT (l.take k) ++ oneN n.name ++ C.take j))
                  rw [HIns.out, ← hmi5.out, ← hq.out] at h7
                  omega
              case measure => simp [intOf]; omega
            · obtain rfl : j = C.length := by omega
              have HE := Lib.hid (show canon (namesT (l.take k) ++ oneN n.name ++ C.take C.length) = canon (namesT (l.take (k + 1))) by
                rw [List.take_length, HTk.out, ← HC.out, canon_inner])
              rw [HE.out] at hq hoq
              go_wp2_with fail
              go_roundw
              case rel => exact ⟨k + 1, q, Aq, cq, by omega, by go_num, rfl, hq, hoq, hbq⟩
              case measure => simp [intOf]; omega

      · obtain rfl : k = l.length := by omega
        have HT := Lib.hid (show canon (namesT (l.take l.length)) = namesC l by rw [List.take_length]; rfl)
        go_wp2_with fail
        go_ret
        have hm2 := hm.out
        have ho2 := hown.out
        rw [HT.out] at hm2 ho2
        subst hm2
        exact ⟨_, _, rfl, ho2, hbel.out⟩

end Go.Proofs.Ytebhbgamdhjdkaa
