/-
  TmplQuotes is proved, in its second form: for all values whose reading stays below the given bound, Quote answers as the reference's Quoted does, with its error.
-/
import Derived.Test.YtebhbgamdhjdkaaDoorQuotedRef
import Derived.Test.YtebhbgamdhjdkaaDoorLaw
namespace Go.Proofs.YtebhbgamdhjdkaaDoor
open Go.RowKit Go.ChangeShapes Go.WideShapes Go.ChangeAt Go.Deep

set_option maxRecDepth 100000 in
set_option maxHeartbeats 2000000 in
theorem quote_q (v : Val) (va : Value) (w : World) (hv : ValIn w AnyB va v) (ht : TabOk w) (hm : 160 * valW v ≤ 536870912) :
    Calls Tryd.prog 18 #[va] w (RPost (ownQ 0 v) w) := by
  obtain ⟨iv, kv, rfl, hok, hI, hK⟩ := hv
  obtain ⟨Ai, ci, bi, oi, ivf, kvf, rfl, _, _, _, _, _, _⟩ := id hI.inv
  obtain ⟨Ak, ck, bk, ok, rfl, _, _, _, _⟩ := id hK.inv
  have HBW := Lib.hid (show Below w.heap.size w (w.alloc (.cells #[.int .i64 v.kind, .bool v.flag, .int .i64 v.num, .string v.text, .slice Ai v.items.length ci, .slice Ak v.keys.length ck] 35)) from (Below.refl _ _).alloc (Nat.le_refl _) _)
  have HV := Lib.hid (show ValIn w AnyB (.agg #[.int .i64 v.kind, .bool v.flag, .int .i64 v.num, .string v.text, .slice Ai v.items.length ci, .slice Ak v.keys.length ck]) v from ⟨_, _, rfl, hok, hI, hK⟩)
  have HNu := Lib.hid (NumsOk.cons.2 ⟨hok.2.1, nums_of_in hI, by rw [NumsOk]; trivial⟩ : NumsOk [v])
  clear hok hI hK
  have HVb := Lib.hid (show ValIn (w.alloc (.cells #[.int .i64 v.kind, .bool v.flag, .int .i64 v.num, .string v.text, .slice Ai v.items.length ci, .slice Ak v.keys.length ck] 35)) AnyB (.agg #[.int .i64 v.kind, .bool v.flag, .int .i64 v.num, .string v.text, .slice Ai v.items.length ci, .slice Ak v.keys.length ck]) v from HV.out.keeps (Keeps.of_below HBW.out))
  have hcall := quoted_q (w.alloc (.cells #[.int .i64 v.kind, .bool v.flag, .int .i64 v.num, .string v.text, .slice Ai v.items.length ci, .slice Ak v.keys.length ck] 35)) (ht.keep HBW.out) _ v (.agg #[.int .i64 v.kind, .bool v.flag, .int .i64 v.num, .string v.text, .slice Ai v.items.length ci, .slice Ak v.keys.length ck]) [] none 0 0 0 (w.alloc (.cells #[.int .i64 v.kind, .bool v.flag, .int .i64 v.num, .string v.text, .slice Ai v.items.length ci, .slice Ak v.keys.length ck] 35)) (Nat.le_refl _) HVb.out (Below.refl _ _) (World.ownsRow_nil _ _ _ _) (by omega) (by omega)
  unfold valAgg
  obtain ⟨q, hq⟩ : ∃ q, ownQ 0 v = q := ⟨_, rfl⟩
  have hlen := ownQ_len (d := 0) HNu.out
  rw [hq] at hcall hlen
  rw [hq]
  clear hq
  go_enter Tryd.func18, Tryd.ntmps18
  go_wp2_with fail
  refine hcall.mono ?_
  clear hcall
  rintro e w1 ⟨A1, m1, c1, rfl, hb1, _, ho1⟩
  have HB1 := Lib.hid (HBW.out.trans (hb1.mono HBW.out.size))
  have HO1 := Lib.hid ho1
  clear hb1 ho1
  obtain ⟨q1, q2⟩ := q
  by_cases hz : q1 = 0
  · subst hz
    have HO2 := Lib.hid (HO1.out rfl)
    rw [List.nil_append] at HO2
    have hm1 := ownM_len HO2.out
    have hlen2 : q2.length + 4 ≤ 160 * valW v := hlen
    clear HO1 hlen
    have hcv := conv_row HO2.out
    go_wp2_with fail
    go_ret2
    exact ⟨_, rfl, fun _ => rfl, fun h => absurd rfl h, HB1.out⟩
  · have tz : (q1 != 0) = true := by simp [hz]
    have HZ := Lib.hid hz
    clear hz hlen
    go_wp2_with fail
    go_ret2
    exact ⟨_, rfl, fun h => absurd h HZ.out, fun _ => rfl, HB1.out⟩

set_option maxRecDepth 100000 in
set_option maxHeartbeats 2000000 in
theorem tmplQuotes_walk (v : Val) (va : Value) (w : World) (hv : ValIn w AnyB va v) (ht : TabOk w) (hm : 160 * valW v ≤ 536870912) :
    Calls Tryd.prog 6 #[va] w fun e w' => e = .returned (.bool true) ∧ Below w.heap.size w w' := by
  have HV0 := Lib.hid hv
  obtain ⟨iv, kv, rfl, hok, hI, hK⟩ := hv
  obtain ⟨Ai, ci, bi, oi, ivf, kvf, rfl, _, _, _, _, _, _⟩ := id hI.inv
  obtain ⟨Ak, ck, bk, ok, rfl, _, _, _, _⟩ := id hK.inv
  clear hok hI hK
  have HTab := Lib.hid ht; clear ht
  unfold valAgg at HV0
  unfold valAgg
  have HB0 := Lib.hid (show Below w.heap.size w (w.alloc (.cells #[.int .i64 v.kind, .bool v.flag, .int .i64 v.num, .string v.text, .slice Ai v.items.length ci, .slice Ak v.keys.length ck] 35)) from (Below.refl _ _).alloc (Nat.le_refl _) _)
  have HBox := Lib.hid (show CB (w.alloc (.cells #[.int .i64 v.kind, .bool v.flag, .int .i64 v.num, .string v.text, .slice Ai v.items.length ci, .slice Ak v.keys.length ck] 35)) w.heap.size 35 #[.int .i64 v.kind, .bool v.flag, .int .i64 v.num, .string v.text, .slice Ai v.items.length ci, .slice Ak v.keys.length ck] from CB.new w _ _)
  obtain ⟨q, hq⟩ : ∃ q, ownQ 0 v = q := ⟨_, rfl⟩
  have HQ := Lib.hid hq
  clear hq
  go_enter Tryd.func6, Tryd.ntmps6
  go_wp2_with fail
  refine (quote_q v (.agg #[.int .i64 v.kind, .bool v.flag, .int .i64 v.num, .string v.text, .slice Ai v.items.length ci, .slice Ak v.keys.length ck]) _ (HV0.out.keeps (Keeps.of_below HB0.out)) (HTab.out.keep HB0.out) hm).mono ?_
  rw [HQ.out]
  rintro e w1 ⟨s1, rfl, hs1, hs2, hb1⟩
  have HB1 := Lib.hid (HB0.out.trans (hb1.mono HB0.out.size))
  have HBx := Lib.hid (HBox.out.below hb1)
  have HS1 := Lib.hid hs1
  have HS2 := Lib.hid hs2
  clear hb1 hs1 hs2
  have bc0 := HBx.out.c 0
  have bc1 := HBx.out.c 1
  have bc2 := HBx.out.c 2
  have bc3 := HBx.out.c 3
  have bc4 := HBx.out.c 4
  have bc5 := HBx.out.c 5
  have bsh := HBx.out.sh
  have hnb : w.heap.size < w1.heap.size := HBx.out.lt
  simp only [List.getElem?_toArray, List.getElem?_cons_zero, List.getElem?_cons_succ] at bc0 bc1 bc2 bc3 bc4 bc5
  go_wp2_with fail
  have hcall := quotedRef_q _ v (.agg #[.int .i64 v.kind, .bool v.flag, .int .i64 v.num, .string v.text, .slice Ai v.items.length ci, .slice Ak v.keys.length ck]) 0 w1 (Nat.le_refl _) (HV0.out.keeps (Keeps.of_below HB1.out)) (HTab.out.keep HB1.out) hm (by omega)
  rw [HQ.out] at hcall
  refine hcall.mono ?_
  clear hcall
  rintro e w2 ⟨s2, rfl, hs3, hs4, hb2⟩
  obtain ⟨q1, q2⟩ := q
  obtain rfl : s2 = s1 := by
    by_cases hz : q1 = 0
    · exact bytes_ext ((hs3 hz).trans (HS1.out hz).symm)
    · exact (hs4 hz).trans (HS2.out hz).symm
  have HB2 := Lib.hid (HB1.out.trans (hb2.mono HB1.out.size))
  clear hs3 hs4 hb2 bc0 bc1 bc2 bc3 bc4 bc5 bsh hnb
  have e1 : (s2.toList == s2.toList) = true := by simp
  have e2 : (q1 == q1) = true := by simp
  go_wp2_with fail
  go_ret
  exact ⟨rfl, HB2.out⟩


end Go.Proofs.YtebhbgamdhjdkaaDoor
