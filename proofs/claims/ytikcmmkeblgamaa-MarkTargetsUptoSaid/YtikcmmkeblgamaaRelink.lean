/-
  Addresses replaced: mark.relink (in place).
-/
import Derived.Test.YtikcmmkeblgamaaShift
import Derived.Test.YtikcmmkeblgamaaTargets
namespace Go.Proofs.Ytikcmmkeblgamaa
open Go.RowKit Go.Deep

/-- a document with other addresses -/
def relinkL : List Node → List ByteArray → List Node
  | [], _ => []
  | .mk k lv t d ti ks :: r, ts => .mk k lv t (if linkB k = true then ts.headD ⟨#[]⟩ else d) ti (relinkL ks (ts.drop (if linkB k = true then 1 else 0))) ::
      relinkL r (ts.drop ((if linkB k = true then 1 else 0) + (targetsL ks).length))

def relinkN (n : Node) (ts : List ByteArray) : Node := .mk n.kind n.level n.text (if linkB n.kind = true then ts.headD ⟨#[]⟩ else n.dest) n.title (relinkL n.kids (ts.drop (if linkB n.kind = true then 1 else 0)))

theorem targetsN_len (n : Node) : (targetsN n).length = (if linkB n.kind = true then 1 else 0) + (targetsL n.kids).length := by unfold targetsN; split <;> simp <;> omega
theorem relinkL_nil (ts : List ByteArray) : relinkL [] ts = [] := by rw [relinkL]
theorem relinkL_cons (n : Node) (r : List Node) (ts : List ByteArray) : relinkL (n :: r) ts = relinkN n ts :: relinkL r (ts.drop (targetsN n).length) := by
  rw [targetsN_len]
  cases n
  rw [relinkL]
  rfl
theorem relinkL_append (a b : List Node) : ∀ ts, relinkL (a ++ b) ts = relinkL a ts ++ relinkL b (ts.drop (targetsL a).length) := by
  induction a with
  | nil => intro ts; rw [relinkL_nil, targetsL_nil]; rfl
  | cons n r ih => intro ts; rw [List.cons_append, relinkL_cons, relinkL_cons, ih, targetsL_cons, List.length_append, List.drop_drop]; rfl
theorem relinkL_length : ∀ (l : List Node) (ts : List ByteArray), (relinkL l ts).length = l.length
  | [], ts => by rw [relinkL_nil]
  | n :: r, ts => by rw [relinkL_cons, List.length_cons, List.length_cons, relinkL_length r]
theorem relinkL_take {l : List Node} {k : Nat} {n : Node} (ts : List ByteArray) (h : l[k]? = some n) : relinkL (l.take (k + 1)) ts = relinkL (l.take k) ts ++ [relinkN n (ts.drop (targetsL (l.take k)).length)] := by
  obtain ⟨hk, rfl⟩ := List.getElem?_eq_some_iff.1 h
  rw [List.take_succ_eq_append_getElem hk, relinkL_append, relinkL_cons, relinkL_nil]

theorem relink_step {l : List Node} {ts : List ByteArray} {ys : List Node} {k : Nat} {n : Node} (h : ys = relinkL (l.take k) ts ++ l.drop k) (ha : l[k]? = some n) :
    ys[k]? = some n ∧ ys.set k (relinkN n (ts.drop (targetsL (l.take k)).length)) = relinkL (l.take (k + 1)) ts ++ l.drop (k + 1) := by
  rw [relinkL_take ts ha]
  obtain ⟨hk, rfl⟩ := List.getElem?_eq_some_iff.1 ha
  have hl : (relinkL (l.take k) ts).length = k := by rw [relinkL_length]; simp; omega
  subst h
  rw [List.drop_eq_getElem_cons hk]
  constructor
  · rw [List.getElem?_append_right (by omega), hl, Nat.sub_self, List.getElem?_cons_zero]
  · rw [List.set_append_right _ _ (by omega), hl, Nat.sub_self, List.set_cons_zero, List.append_assoc]; rfl

theorem relinkN_ok {n : Node} {ts : List ByteArray} (h : NodeOk n) (hs : ∀ s ∈ ts, s.size ≤ maxLen) : NodeOk (relinkN n ts) := by
  obtain ⟨a, b, c, d, e⟩ := h
  refine ⟨a, b, c, ?_, e⟩
  show (if linkB n.kind = true then ts.headD ⟨#[]⟩ else n.dest).size ≤ maxLen
  split
  · cases ts with
    | nil => exact Nat.zero_le _
    | cons t r => exact hs t (by simp)
  · exact d

theorem targets_at {l : List Node} {k : Nat} {n : Node} (h : l[k]? = some n) : (targetsL (l.take k)).length + (targetsN n).length ≤ (targetsL l).length := by
  have h1 := congrArg List.length (targetsL_take h)
  have h2 : targetsL l = targetsL (l.take (k + 1)) ++ targetsL (l.drop (k + 1)) := by rw [← targetsL_append, List.take_append_drop]
  have h3 := congrArg List.length h2
  rw [List.length_append] at h1 h3
  omega

/-- the tail of strings that came in -/
theorem OnesAt.tail {w : World} {b o m c : Nat} {x : Value} {xs : List Value} (h : OnesAt w (.slice (some ⟨b, o, none⟩) m c) (x :: xs)) : OnesAt w (.slice (some ⟨b, o + 1, none⟩) (m - 1) (c - 1)) xs := by
  obtain ⟨A, c', b', o', hv, hl, hm, hA, hcell⟩ := h
  cases hv
  have hA2 := hA (by simp)
  cases hA2
  simp only [List.length_cons, Nat.add_sub_cancel] at *
  exact ⟨_, _, b, o + 1, rfl, by omega, by omega, fun _ => rfl, fun i y hy => by rw [show o + 1 + i = o + (i + 1) by omega]; exact hcell (i + 1) y (by simpa using hy)⟩
theorem OnesAt.tail1 {w : World} {A : Option Addr} {m : Nat} {x : Value} {xs : List Value} (h : OnesAt w (.slice A m 1) (x :: xs)) : OnesAt w (.slice A 0 0) xs ∧ m = 1 ∧ xs = [] := by
  obtain ⟨A, c', b', o', hv, hl, hm, hA, hcell⟩ := h
  cases hv
  simp only [List.length_cons] at hl
  have : xs = [] := List.eq_nil_of_length_eq_zero (by omega)
  subst this
  exact ⟨⟨_, 0, 0, 0, rfl, Nat.le_refl _, by simp [maxLen], fun h => absurd rfl h, fun i y hy => by simp at hy⟩, rfl, rfl⟩

/-- a tree turned in place, and the strings that are left -/
def Relinked2 (w0 : World) (B : Nat) (P : Nat → Prop) (v : Value) (l : List Node) (ts : List ByteArray) (w : World) (e : Ending) (w' : World) : Prop :=
  ∃ A m c, e = .returned (.slice A m c) ∧ OnesAt w0 (.slice A m c) (strs ts) ∧ TreeAt w' B P v l ∧ Only P w w'

theorem ones_len {w : World} {A : Option Addr} {m c : Nat} {ts : List ByteArray} (h : OnesAt w (.slice A m c) (strs ts)) : m = ts.length ∧ m ≤ c ∧ c ≤ maxLen := by
  obtain ⟨A', c', b', o', hv, hl, hm, hA, hcell⟩ := h
  cases hv
  simp only [strs, List.length_map] at *
  exact ⟨trivial, hl, hm⟩

set_option maxRecDepth 100000 in
set_option maxHeartbeats 4000000 in
theorem relink_any (w0 : World) (N : Nat) : ∀ (l : List Node) (B : Nat) (P : Nat → Prop) (v : Value) (A : Option Addr) (m c : Nat) (ts : List ByteArray) (w : World), SizeOf.sizeOf l ≤ N → TreeAt w B P v l → total l ≤ 1073741824 →
    OnesAt w0 (.slice A m c) (strs ts) → (targetsL l).length ≤ ts.length → (∀ s ∈ ts, s.size ≤ maxLen) → Below w0.heap.size w0 w → (∀ b, P b → w0.heap.size ≤ b) →
    Calls Try.prog 47 #[v, .slice A m c] w (Relinked2 w0 B P v (relinkL l ts) (ts.drop (targetsL l).length) w) := by
  induction N with
  | zero =>
    intro l B P v A m c ts w hN
    cases l <;> simp at hN
  | succ N ih =>
    intro l B P v A m c ts w hN h ht hts htl hss hbel hPB
    obtain ⟨ps, hps0, hparts0⟩ := h.inv
    obtain ⟨Av, cv, rfl, hc1, hc2, hc3⟩ := own_form hparts0.own
    have hlen : ps.length = l.length := by rw [hps0]; simp
    have hll := total_len l
    have HN := Lib.hid hN; clear hN
    have HI := Lib.hid ih; clear ih
    have HPs := Lib.hid hps0; clear hps0
    have HParts := Lib.hid hparts0; clear hparts0
    have HA := Lib.hid hc3; clear hc3
    have hlen2 : ps.length ≤ 1073741824 := by omega
    have HLen := Lib.hid hlen; clear hlen
    have HTs := Lib.hid hts; clear hts
    have HSs := Lib.hid hss; clear hss
    have HB := Lib.hid hbel; clear hbel
    have HPB := Lib.hid hPB; clear hPB
    have HTl := Lib.hid htl; clear htl
    unfold maxLen at hc1
    clear h
    go_enter Try.func47, Try.ntmps47
    go_wp2_with fail
    go_loopw [1, 8] (fun t1 t wr => ∃ (k : Nat) (qs : List Part) (At : Option Addr) (mt ct : Nat), k ≤ ps.length ∧ t = .int .i64 k ∧ t1 = .slice At mt ct ∧ Hid (qs.map (·.n) = relinkL (l.take k) ts ++ l.drop k) ∧ Hid (Parts wr B P (.slice Av ps.length cv) qs) ∧ Hid (Only P w wr) ∧ Hid (OnesAt w0 (.slice At mt ct) (strs (ts.drop (targetsL (l.take k)).length)))) (fun _ t _ => ps.length - (intOf t).toNat)
    case atStart => exact ⟨0, ps, A, m, c, Nat.zero_le _, rfl, rfl, (show List.map _ _ = _ by rw [← HPs.out, List.take_zero, relinkL_nil]; rfl), HParts.out, Only.refl _ _, (show OnesAt _ _ _ by rw [List.take_zero, targetsL_nil]; exact HTs.out)⟩
    case round =>
      obtain ⟨k, qs, At, mt, ct, hk, rfl, rfl, hqs, hparts, hww, hones⟩ := hrel
      have hql : qs.length = ps.length := by have := congrArg List.length hqs.out; have h2 := HLen.out; simp [relinkL_length] at this; omega
      by_cases hlt : k < ps.length
      · obtain ⟨g, hA, hBg, hgl⟩ := HA.out (by omega)
        subst hA
        obtain ⟨n, hn⟩ : ∃ n, l[k]? = some n := ⟨_, List.getElem?_eq_getElem (by have := HLen.out; omega)⟩
        obtain ⟨hy1, hy2⟩ := relink_step hqs.out hn
        rw [List.getElem?_map, Option.map_eq_some_iff] at hy1
        obtain ⟨p, hp, hpn⟩ := hy1
        have hpn : p.n = n := hpn
        have hP := hparts.out
        rw [← hql] at hP
        have key : ∀ j, j < 6 → wr.cell? ⟨g, k * 6 + j, none⟩ = (nodeVals n p.kv)[j]? := by
          intro j hj
          rw [hP.own.cellAt (k * 6 + j) (by omega), flat_get hp j hj, hpn]
        have p0 := key 0 (by omega)
        have p3 := key 3 (by omega)
        have p5 := key 5 (by omega)
        have f3 := hP.own.frozenAt (k * 6 + 3)
        simp only [nodeVals, List.getElem?_cons_zero, List.getElem?_cons_succ, Nat.add_zero] at p0 p3 p5
        clear key
        have hT := hP.hk p (List.mem_of_getElem? hp)
        rw [hpn] at hT
        obtain ⟨A3, c3, e3⟩ := hT.slice
        rw [e3] at hT p5
        have bb := World.block_lt_of_cell? _ _ p5
        simp only at bb
        have hok : NodeOk n := by have := hP.hn p (List.mem_of_getElem? hp); rw [hpn] at this; exact this
        have HSz := Lib.hid (size_at HN.out hn)
        have htk := total_take hn
        have htl := total_le l (k + 1)
        have hkt : total n.kids ≤ 1073741824 := by omega
        obtain ⟨tk, htkd⟩ : ∃ tk, ts.drop (targetsL (l.take k)).length = tk := ⟨_, rfl⟩
        rw [htkd] at hones hy2
        have hta := targets_at hn
        have htn := targetsN_len n
        have hlen4 : (targetsN n).length ≤ tk.length := by rw [← htkd, List.length_drop]; have := HTl.out; omega
        have hss2 : ∀ s ∈ tk, s.size ≤ maxLen := fun s hs => HSs.out s (by rw [← htkd] at hs; exact List.mem_of_mem_drop hs)
        have HOk := Lib.hid (relinkN_ok (ts := tk) hok hss2); clear hok
        have HSs2 := Lib.hid hss2; clear hss2
        have HNext := Lib.hid (show ts.drop (targetsL (l.take (k + 1))).length = tk.drop (targetsN n).length by rw [targetsL_take hn, List.length_append, ← htkd, List.drop_drop])
        have HY2 := Lib.hid hy2; clear hy2
        have HPn := Lib.hid hpn; clear hpn
        have HP := Lib.hid hP; clear hP
        have Hp := Lib.hid hp; clear hp
        have HT := Lib.hid hT; clear hT
        have HE3 := Lib.hid e3; clear e3
        have HQl := Lib.hid hql; clear hql
        have HBr := Lib.hid (Only.below HB.out hww.out HPB.out)
        obtain ⟨hol1, hol2, hol3⟩ := ones_len hones.out
        have HOl := Lib.hid hol1
        unfold maxLen at hol3
        clear hn htk htl hta htkd
        have hx : n.kind = 17 ∨ n.kind = 18 ∨ (n.kind ≠ 17 ∧ n.kind ≠ 18) := by omega
        rcases hx with hx | hx | hx

        · have hlk : linkB n.kind = true := by unfold linkB; simp; omega
          have t17 : (n.kind == 17) = true := by simp; omega
          have t18 : (n.kind == 18) = false := by simp; omega
          rw [hlk] at htn
          simp only [if_true] at htn
          clear hx
          obtain ⟨t, tr, rfl⟩ : ∃ t tr, tk = t :: tr := by cases tk with | nil => simp only [List.length_nil] at hlen4; omega | cons a b => exact ⟨a, b, rfl⟩
          have HKidEq := Lib.hid (show (relinkN n (t :: tr)).kids = relinkL n.kids tr by show relinkL n.kids _ = _; rw [hlk]; rfl)
          have HVals := Lib.hid (show nodeVals (relinkN n (t :: tr)) p.kv = (nodeVals n p.kv).set 3 (.string t) by show [_, _, _, Value.string (if linkB n.kind = true then _ else _), _, _] = _; rw [hlk]; rfl)
          have HTail := Lib.hid (show (t :: tr).drop (targetsN n).length = tr.drop (targetsL n.kids).length by rw [htn, Nat.add_comm]; rfl)
          have HTn2 := Lib.hid (show (targetsL n.kids).length ≤ tr.length by simp only [List.length_cons] at hlen4; omega)
          have HSs3 := Lib.hid (fun s hs => HSs2.out s (List.mem_cons_of_mem _ hs))
          have hmt : 1 ≤ mt := by rw [HOl.out]; simp
          have hcellt : ∃ bt ot, At = some ⟨bt, ot, none⟩ ∧ w0.cell? ⟨bt, ot, none⟩ = some (.string t) := by
            obtain ⟨A', c', b', o', hv, _, _, hA9, hcell9⟩ := hones.out
            cases hv
            exact ⟨b', o', hA9 (by simp [strs]), hcell9 0 _ rfl⟩
          obtain ⟨bt, ot, hAt, hct⟩ := hcellt
          subst hAt
          have q0 := Keeps.of_below HBr.out _ _ hct
          have bt2 := World.block_lt_of_cell? _ _ q0
          simp only at bt2
          clear hct hlk htn hlen4 hol1
          have HO2 := Lib.hid (show (wr.setCell ⟨g, k * 6 + 3, none⟩ (.string t)).ownsRow B 75 6 (.slice (some ⟨g, 0, none⟩) qs.length cv) qs.length (flat (qs.set k ⟨relinkN n (t :: tr), p.kv, p.q⟩)) by
            rw [flat_set (p' := ⟨relinkN n (t :: tr), p.kv, p.q⟩) (j := 3) (u := .string t) Hp.out (by omega) (by rw [HPn.out]; exact HVals.out)]
            exact (HP.out.own.stored (k * 6 + 3) _).1)
          have H2 := Lib.hid (show Only (fun b => b = g) wr (wr.setCell ⟨g, k * 6 + 3, none⟩ (.string t)) from (Only.refl (fun b => b = g) wr).setCell (p := ⟨g, k * 6 + 3, none⟩) rfl _)
          have HT2 := Lib.hid (HT.out.keep fun b hb => H2.out.block b (fun e => (HP.out.hs p (List.mem_of_getElem? Hp.out) b hb).2 (by subst e; rfl)))
          have HPq := Lib.hid (fun b (hb : p.q b) => HPB.out b (HP.out.hs p (List.mem_of_getElem? Hp.out) b hb).1)
          have HBw := Lib.hid (HBr.out.setCell (p := ⟨g, k * 6 + 3, none⟩) (HPB.out g (HP.out.hP g rfl)) (.string t))
          by_cases hc1t : ct = 1
          · subst hc1t
            obtain ⟨on9, hm9, htr⟩ := hones.out.tail1 (x := .string t) (xs := strs tr)
            have HOn := Lib.hid on9; clear on9 htr
            subst hm9
            go_wp2_with fail
            go_must (refine (HI.out n.kids B p.q _ (some ⟨bt, ot, none⟩) 0 0 tr _ HSz.out HT2.out hkt HOn.out HTn2.out HSs3.out HBw.out HPq.out).mono ?_)
            rintro e w3 ⟨A7, m7, c7, rfl, on7, hT3, hO3⟩
            rw [← HE3.out] at hT3
            have HR := Lib.hid (HP.out.turned Hp.out HOk.out HO2.out H2.out (by rw [HKidEq.out]; exact hT3) hO3)
            have HW := Lib.hid ((hww.out.trans (H2.out.mono fun x hx => by subst hx; exact HP.out.hP _ rfl)).trans (hO3.mono fun x hx => (HP.out.hs p (List.mem_of_getElem? Hp.out) x hx).1))
            have HOn7 := Lib.hid on7
            clear hT3 hO3 on7
            go_wp2_with fail
            go_roundw
            case rel =>
              refine ⟨k + 1, qs.set k ⟨relinkN n (t :: tr), p.kv, p.q⟩, A7, m7, c7, by omega, by go_num, rfl, ?_, ?_, HW, ?_⟩
              · show List.map _ _ = _
                rw [List.map_set]
                exact HY2.out
              · have := HR.out
                rw [HQl.out] at this
                exact this
              · show OnesAt _ _ _
                rw [HNext.out, HTail.out]
                exact HOn7.out
            case measure => simp [intOf]; omega
          · have HOn := Lib.hid (hones.out.tail (x := .string t) (xs := strs tr))
            go_wp2_with fail
            go_must (refine (HI.out n.kids B p.q _ (some ⟨bt, ot + 1, none⟩) (mt - 1) (ct - 1) tr _ HSz.out HT2.out hkt HOn.out HTn2.out HSs3.out HBw.out HPq.out).mono ?_)
            rintro e w3 ⟨A7, m7, c7, rfl, on7, hT3, hO3⟩
            rw [← HE3.out] at hT3
            have HR := Lib.hid (HP.out.turned Hp.out HOk.out HO2.out H2.out (by rw [HKidEq.out]; exact hT3) hO3)
            have HW := Lib.hid ((hww.out.trans (H2.out.mono fun x hx => by subst hx; exact HP.out.hP _ rfl)).trans (hO3.mono fun x hx => (HP.out.hs p (List.mem_of_getElem? Hp.out) x hx).1))
            have HOn7 := Lib.hid on7
            clear hT3 hO3 on7
            go_wp2_with fail
            go_roundw
            case rel =>
              refine ⟨k + 1, qs.set k ⟨relinkN n (t :: tr), p.kv, p.q⟩, A7, m7, c7, by omega, by go_num, rfl, ?_, ?_, HW, ?_⟩
              · show List.map _ _ = _
                rw [List.map_set]
                exact HY2.out
              · have := HR.out
                rw [HQl.out] at this
                exact this
              · show OnesAt _ _ _
                rw [HNext.out, HTail.out]
                exact HOn7.out
            case measure => simp [intOf]; omega
        · have hlk : linkB n.kind = true := by unfold linkB; simp; omega
          have t17 : (n.kind == 17) = false := by simp; omega
          have t18 : (n.kind == 18) = true := by simp; omega
          rw [hlk] at htn
          simp only [if_true] at htn
          clear hx
          obtain ⟨t, tr, rfl⟩ : ∃ t tr, tk = t :: tr := by cases tk with | nil => simp only [List.length_nil] at hlen4; omega | cons a b => exact ⟨a, b, rfl⟩
          have HKidEq := Lib.hid (show (relinkN n (t :: tr)).kids = relinkL n.kids tr by show relinkL n.kids _ = _; rw [hlk]; rfl)
          have HVals := Lib.hid (show nodeVals (relinkN n (t :: tr)) p.kv = (nodeVals n p.kv).set 3 (.string t) by show [_, _, _, Value.string (if linkB n.kind = true then _ else _), _, _] = _; rw [hlk]; rfl)
          have HTail := Lib.hid (show (t :: tr).drop (targetsN n).length = tr.drop (targetsL n.kids).length by rw [htn, Nat.add_comm]; rfl)
          have HTn2 := Lib.hid (show (targetsL n.kids).length ≤ tr.length by simp only [List.length_cons] at hlen4; omega)
          have HSs3 := Lib.hid (fun s hs => HSs2.out s (List.mem_cons_of_mem _ hs))
          have hmt : 1 ≤ mt := by rw [HOl.out]; simp
          have hcellt : ∃ bt ot, At = some ⟨bt, ot, none⟩ ∧ w0.cell? ⟨bt, ot, none⟩ = some (.string t) := by
            obtain ⟨A', c', b', o', hv, _, _, hA9, hcell9⟩ := hones.out
            cases hv
            exact ⟨b', o', hA9 (by simp [strs]), hcell9 0 _ rfl⟩
          obtain ⟨bt, ot, hAt, hct⟩ := hcellt
          subst hAt
          have q0 := Keeps.of_below HBr.out _ _ hct
          have bt2 := World.block_lt_of_cell? _ _ q0
          simp only at bt2
          clear hct hlk htn hlen4 hol1
          have HO2 := Lib.hid (show (wr.setCell ⟨g, k * 6 + 3, none⟩ (.string t)).ownsRow B 75 6 (.slice (some ⟨g, 0, none⟩) qs.length cv) qs.length (flat (qs.set k ⟨relinkN n (t :: tr), p.kv, p.q⟩)) by
            rw [flat_set (p' := ⟨relinkN n (t :: tr), p.kv, p.q⟩) (j := 3) (u := .string t) Hp.out (by omega) (by rw [HPn.out]; exact HVals.out)]
            exact (HP.out.own.stored (k * 6 + 3) _).1)
          have H2 := Lib.hid (show Only (fun b => b = g) wr (wr.setCell ⟨g, k * 6 + 3, none⟩ (.string t)) from (Only.refl (fun b => b = g) wr).setCell (p := ⟨g, k * 6 + 3, none⟩) rfl _)
          have HT2 := Lib.hid (HT.out.keep fun b hb => H2.out.block b (fun e => (HP.out.hs p (List.mem_of_getElem? Hp.out) b hb).2 (by subst e; rfl)))
          have HPq := Lib.hid (fun b (hb : p.q b) => HPB.out b (HP.out.hs p (List.mem_of_getElem? Hp.out) b hb).1)
          have HBw := Lib.hid (HBr.out.setCell (p := ⟨g, k * 6 + 3, none⟩) (HPB.out g (HP.out.hP g rfl)) (.string t))
          by_cases hc1t : ct = 1
          · subst hc1t
            obtain ⟨on9, hm9, htr⟩ := hones.out.tail1 (x := .string t) (xs := strs tr)
            have HOn := Lib.hid on9; clear on9 htr
            subst hm9
            go_wp2_with fail
            go_must (refine (HI.out n.kids B p.q _ (some ⟨bt, ot, none⟩) 0 0 tr _ HSz.out HT2.out hkt HOn.out HTn2.out HSs3.out HBw.out HPq.out).mono ?_)
            rintro e w3 ⟨A7, m7, c7, rfl, on7, hT3, hO3⟩
            rw [← HE3.out] at hT3
            have HR := Lib.hid (HP.out.turned Hp.out HOk.out HO2.out H2.out (by rw [HKidEq.out]; exact hT3) hO3)
            have HW := Lib.hid ((hww.out.trans (H2.out.mono fun x hx => by subst hx; exact HP.out.hP _ rfl)).trans (hO3.mono fun x hx => (HP.out.hs p (List.mem_of_getElem? Hp.out) x hx).1))
            have HOn7 := Lib.hid on7
            clear hT3 hO3 on7
            go_wp2_with fail
            go_roundw
            case rel =>
              refine ⟨k + 1, qs.set k ⟨relinkN n (t :: tr), p.kv, p.q⟩, A7, m7, c7, by omega, by go_num, rfl, ?_, ?_, HW, ?_⟩
              · show List.map _ _ = _
                rw [List.map_set]
                exact HY2.out
              · have := HR.out
                rw [HQl.out] at this
                exact this
              · show OnesAt _ _ _
                rw [HNext.out, HTail.out]
                exact HOn7.out
            case measure => simp [intOf]; omega
          · have HOn := Lib.hid (hones.out.tail (x := .string t) (xs := strs tr))
            go_wp2_with fail
            go_must (refine (HI.out n.kids B p.q _ (some ⟨bt, ot + 1, none⟩) (mt - 1) (ct - 1) tr _ HSz.out HT2.out hkt HOn.out HTn2.out HSs3.out HBw.out HPq.out).mono ?_)
            rintro e w3 ⟨A7, m7, c7, rfl, on7, hT3, hO3⟩
            rw [← HE3.out] at hT3
            have HR := Lib.hid (HP.out.turned Hp.out HOk.out HO2.out H2.out (by rw [HKidEq.out]; exact hT3) hO3)
            have HW := Lib.hid ((hww.out.trans (H2.out.mono fun x hx => by subst hx; exact HP.out.hP _ rfl)).trans (hO3.mono fun x hx => (HP.out.hs p (List.mem_of_getElem? Hp.out) x hx).1))
            have HOn7 := Lib.hid on7
            clear hT3 hO3 on7
            go_wp2_with fail
            go_roundw
            case rel =>
              refine ⟨k + 1, qs.set k ⟨relinkN n (t :: tr), p.kv, p.q⟩, A7, m7, c7, by omega, by go_num, rfl, ?_, ?_, HW, ?_⟩
              · show List.map _ _ = _
                rw [List.map_set]
                exact HY2.out
              · have := HR.out
                rw [HQl.out] at this
                exact this
              · show OnesAt _ _ _
                rw [HNext.out, HTail.out]
                exact HOn7.out
            case measure => simp [intOf]; omega
        · have hlk : linkB n.kind = false := by unfold linkB; simp; omega
          have t17 : (n.kind == 17) = false := by simp; omega
          have t18 : (n.kind == 18) = false := by simp; omega
          rw [hlk] at htn
          simp only [if_false, Bool.false_eq_true] at htn
          clear hx
          have HKidEq := Lib.hid (show (relinkN n tk).kids = relinkL n.kids tk by show relinkL n.kids _ = _; rw [hlk]; rfl)
          have HVals := Lib.hid (show nodeVals (relinkN n tk) p.kv = nodeVals n p.kv by show [_, _, _, Value.string (if linkB n.kind = true then _ else _), _, _] = _; rw [hlk]; rfl)
          have HTail := Lib.hid (show tk.drop (targetsN n).length = tk.drop (targetsL n.kids).length by rw [htn, Nat.zero_add])
          have HTn2 := Lib.hid (show (targetsL n.kids).length ≤ tk.length by omega)
          have HSs3 := HSs2
          clear hlk htn hlen4 hol1
          have HO2 := Lib.hid (show wr.ownsRow B 75 6 (.slice (some ⟨g, 0, none⟩) qs.length cv) qs.length (flat (qs.set k ⟨relinkN n tk, p.kv, p.q⟩)) by
            rw [flat_same (p' := ⟨relinkN n tk, p.kv, p.q⟩) Hp.out (by rw [HPn.out]; exact HVals.out)]
            exact HP.out.own)
          have H2 := Lib.hid (Only.refl (fun b => b = g) wr)
          have HT2 := Lib.hid HT.out
          have HPq := Lib.hid (fun b (hb : p.q b) => HPB.out b (HP.out.hs p (List.mem_of_getElem? Hp.out) b hb).1)
          have HBw := HBr
          have HOn := hones
          go_wp2_with fail
          go_must (refine (HI.out n.kids B p.q _ At mt ct tk _ HSz.out HT2.out hkt HOn.out HTn2.out HSs3.out HBw.out HPq.out).mono ?_)
          rintro e w3 ⟨A7, m7, c7, rfl, on7, hT3, hO3⟩
          rw [← HE3.out] at hT3
          have HR := Lib.hid (HP.out.turned Hp.out HOk.out HO2.out H2.out (by rw [HKidEq.out]; exact hT3) hO3)
          have HW := Lib.hid ((hww.out.trans (H2.out.mono fun x hx => by subst hx; exact HP.out.hP _ rfl)).trans (hO3.mono fun x hx => (HP.out.hs p (List.mem_of_getElem? Hp.out) x hx).1))
          have HOn7 := Lib.hid on7
          clear hT3 hO3 on7
          go_wp2_with fail
          go_roundw
          case rel =>
            refine ⟨k + 1, qs.set k ⟨relinkN n tk, p.kv, p.q⟩, A7, m7, c7, by omega, by go_num, rfl, ?_, ?_, HW, ?_⟩
            · show List.map _ _ = _
              rw [List.map_set]
              exact HY2.out
            · have := HR.out
              rw [HQl.out] at this
              exact this
            · show OnesAt _ _ _
              rw [HNext.out, HTail.out]
              exact HOn7.out
          case measure => simp [intOf]; omega
      · have hke : l.take k = l := by rw [List.take_of_length_le (by have := HLen.out; omega)]
        have hones2 := hones.out
        rw [hke] at hones2
        have HOn := Lib.hid hones2; clear hones2
        have HF := Lib.hid (show List.map (·.n) qs = relinkL l ts by rw [hqs.out, hke, List.drop_eq_nil_of_le (by have := HLen.out; omega), List.append_nil])
        clear hke
        go_wp2_with fail
        go_ret
        refine ⟨At, mt, ct, rfl, HOn.out, ?_, hww.out⟩
        rw [← HF.out]
        exact hparts.out.tree

end Go.Proofs.Ytikcmmkeblgamaa
