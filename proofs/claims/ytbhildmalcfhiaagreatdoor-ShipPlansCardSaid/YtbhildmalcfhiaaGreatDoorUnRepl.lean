/-
  (*strings.genericReplacer).Replace over the trie of five names.
-/
import Derived.Test.YtbhildmalcfhiaaGreatDoorLookup
import Derived.Lib.AppendStr
import Derived.Handy
import Derived.Stop.Asserts
import Derived.StillTail
import Derived.StillTailTactics
import Derived.Deep.Cut
import Derived.Deep.CutRange
import Derived.Laws.BytesArg
namespace Go.Proofs.YtbhildmalcfhiaaGreatDoor
open Go.RowKit Go.Deep

/-- the writer's box: a slice of the call's own -/
def SWAt (w : World) (B bx : Nat) (l : List UInt8) : Prop := ∃ (A : Option Addr) (c : Nat), B ≤ bx ∧ CB w bx 322 #[.slice A l.length c] ∧ w.ownsRow B 5 1 (.slice A l.length c) l.length (byteCells l)
theorem SWAt.drewN {w : World} {B bx : Nat} {l : List UInt8} (h : SWAt w B bx l) (k : Nat) : SWAt (w.drewN k) B bx l := by
  obtain ⟨A, c, h1, h2, h3⟩ := h
  exact ⟨A, c, h1, h2.drewN k, own_drewN h3 k⟩
theorem SWAt.drew {w : World} {B bx : Nat} {l : List UInt8} (h : SWAt w B bx l) : SWAt w.drew B bx l := by
  obtain ⟨A, c, h1, h2, h3⟩ := h
  exact ⟨A, c, h1, h2.drew, own_drew h3⟩
theorem info_byteU : (Tryz.prog.info? 5).map (fun i => (i.zero, i.size, i.bytes)) = some (some (.int .u8 0), 1, 1) := by kernel_rfl
theorem byteCells_append (l r : List UInt8) : byteCells (l ++ r) = byteCells l ++ byteCells r := by simp [byteCells]
theorem own_notbox {w : World} {B bx n : Nat} {v : Value} {xs : List Value} {cs : Array Value} (h : w.ownsRow B 5 1 v n xs) (hc : CB w bx 322 cs) : some bx ≠ v.ownBlock := by
  intro e
  rcases h.2 with ⟨rfl, rfl⟩ | ⟨g, cap, cur, rfl, hB, hgg, _⟩
  · simp [Value.ownBlock] at e
  · have e2 : bx = g := by simpa [Value.ownBlock] using e
    subst e2
    have h7 : w.heap[bx]? = some (.cells cs 322 (0, 0)) := hc
    rw [hgg] at h7
    simp at h7

set_option maxRecDepth 100000 in
set_option maxHeartbeats 2000000 in
theorem swWrite_q (B bx : Nat) (l : List UInt8) (s : ByteArray) (w : World) (h : SWAt w B bx l) (hlen : l.length + s.size ≤ 1073741824) (hBw : B ≤ w.heap.size) :
    Calls Tryz.prog 290 #[.pointer (some ⟨bx, 0, none⟩), .string s] w fun e w' => e = .returned (.tuple #[.int .i64 s.size, .nilIface]) ∧ SWAt w' B bx (l ++ s.data.toList) ∧ Below B w w' := by
  obtain ⟨i0, hi, hz0, hz1, hz2⟩ := info_parts info_byteU
  obtain ⟨A, c, hB, hc, hown⟩ := h
  have c0 : w.cell? ⟨bx, 0, none⟩ = some (.slice A l.length c) := (hc.c 0).trans rfl
  have HOwn := Lib.hid hown; clear hown
  have HC := Lib.hid hc; clear hc
  go_enter Tryz.func290, Tryz.ntmps290
  go_wp2_with (at_builtin; go_must (refine Lib.wpList_append_own_string _ rfl _ _ 322 9 rfl B 5 i0 Tryz.underlying322 Tryz.underlying9 hi hz0 hz1 hz2 _ _ _ rfl HOwn.out s rfl ?c3 ?c4 ?c5 ?_))
  case c3 => unfold maxLen; omega
  case c4 => omega
  case c5 => exact hBw
  intro v' w2 hown' hgrow _
  have hb2 : CB w2 bx 322 #[.slice A l.length c] := HC.out.other hgrow (own_notbox HOwn.out HC.out)
  have d0 : w2.cell? ⟨bx, 0, none⟩ = some (.slice A l.length c) := (hb2.c 0).trans rfl
  have f0 := hb2.f 0
  have HO2 := Lib.hid hown'; clear hown'
  have HB2 := Lib.hid hb2; clear hb2
  have HG := Lib.hid ((Below.refl B w).grown hgrow hBw (fun k hk => (HOwn.out.lt k hk).1)); clear hgrow
  obtain ⟨A2, c2, rfl, hc1, hc2, hc3⟩ := own_form HO2.out
  clear hc1 hc2 hc3
  go_wp2_with fail
  go_ret2
  have hl : (l ++ s.data.toList).length = l.length + s.size := by rw [List.length_append, size_toList]
  refine ⟨rfl, ⟨A2, c2, hB, ?_, ?_⟩, HG.out.setCell (p := ⟨bx, 0, none⟩) hB _⟩
  · rw [hl]; exact HB2.out.put 0 _
  · rw [hl, byteCells_append]
    refine World.ownsRow.kept HO2.out (grown_setB w2 bx 0 _) (Or.inr fun e => own_notbox HO2.out HB2.out e.symm)

set_option maxRecDepth 100000 in
set_option maxHeartbeats 2000000 in
theorem getSW_q (p : Addr) (w : World) :
    Calls Tryz.prog 282 #[.iface 323 (.pointer (some p))] w fun e w' => e = .returned (.iface 323 (.pointer (some p))) ∧ w' = w := by
  have hta := fun (v : Value) (W : World) => run_typeAssert_hasB (P := Tryz.prog) (t := 323) (asserted := 327) Tryz.underlying327 (by kernel_rfl) v 325 W
  go_enter Tryz.func282, Tryz.ntmps282
  go_wp2_with fail
  go_ret
  exact ⟨rfl, rfl⟩

end Go.Proofs.YtbhildmalcfhiaaGreatDoor

namespace Go.Proofs.YtbhildmalcfhiaaGreatDoor
open Go.RowKit Go.Deep

/-- what was written, what waits, what is still to be read -/
def StU (S out : List UInt8) (last i : Nat) : Prop := unU S = out ++ (S.drop last).take (i - last) ++ unU (S.drop i)
theorem drop_cons' {S : List UInt8} {i : Nat} {c : UInt8} (h : S[i]? = some c) : S.drop i = c :: S.drop (i + 1) := by
  obtain ⟨hlt, rfl⟩ := List.getElem?_eq_some_iff.1 h
  exact List.drop_eq_getElem_cons hlt
theorem mid_more {S : List UInt8} {last i : Nat} {c : UInt8} (hl : last ≤ i) (h : S[i]? = some c) : (S.drop last).take (i + 1 - last) = (S.drop last).take (i - last) ++ [c] := by
  rw [show i + 1 - last = (i - last) + 1 by omega, List.take_add_one, List.getElem?_drop, show last + (i - last) = i by omega, h]; rfl
theorem StU.one {S out : List UInt8} {last i : Nat} {c : UInt8} (h : StU S out last i) (hl : last ≤ i) (hc : S[i]? = some c) (hs : stepU (S.drop i) = ([c], 1)) : StU S out last (i + 1) := by
  unfold StU at h ⊢
  rw [mid_more hl hc, h, unU_step (l := S.drop i) (by rw [drop_cons' hc]; simp), hs]
  simp only [List.drop_drop, List.append_assoc]
theorem StU.hit {S out v : List UInt8} {last i n : Nat} (h : StU S out last i) (hi : i < S.length) (hs : stepU (S.drop i) = (v, n)) : StU S (out ++ (S.drop last).take (i - last) ++ v) (i + n) (i + n) := by
  unfold StU at h ⊢
  have hne : S.drop i ≠ [] := by
    intro e
    have := congrArg List.length e
    rw [List.length_drop] at this
    simp at this; omega
  rw [h, unU_step hne, hs]
  simp only [List.drop_drop, Nat.sub_self, List.take_zero, List.append_nil, List.append_assoc]
theorem StU.last {S out : List UInt8} {last i : Nat} (h : StU S out last i) (hi : i = S.length) : StU S out last (i + 1) := by
  unfold StU at h ⊢
  subst hi
  rw [h]
  congr 1
  · congr 1
    rw [List.take_of_length_le (by rw [List.length_drop]; omega), List.take_of_length_le (by rw [List.length_drop]; omega)]
  · rw [List.drop_eq_nil_of_le (Nat.le_refl _), List.drop_eq_nil_of_le (by omega)]
theorem StU.fin {S out : List UInt8} {last i : Nat} (h : StU S out last i) (hi : i = S.length + 1) : unU S = out ++ S.drop last := by
  unfold StU at h
  subst hi
  have e1 : S.drop (S.length + 1) = [] := List.drop_eq_nil_of_le (by omega)
  rw [h, e1, unU_nil, List.append_nil, List.take_of_length_le (by rw [List.length_drop]; omega)]
theorem look_bounds {y v : List UInt8} {n : Nat} (h : y.head? = some 38) (hl : lookU y = (v, n, true)) : stepU y = (v, n) ∧ 1 ≤ n ∧ n ≤ y.length ∧ v.length ≤ n := by
  have h1 := look_step h
  rw [hl] at h1
  simp only [if_true] at h1
  have h2 := tryU_size y 5
  have h3 := tryU_le y (by intro e; rw [e] at h; cases h) 5
  have h4 := tryU_out y 5
  have h5 : tryU y 5 = (v, n) := h1
  rw [h5] at h2 h3 h4
  exact ⟨h1, h2.1, h3, Nat.le_trans h4 h2.1⟩
theorem look_miss {y v : List UInt8} {n : Nat} (h : y.head? = some 38) (hl : lookU y = (v, n, false)) : stepU y = ([38], 1) := by
  have h1 := look_step h
  rw [hl] at h1
  simpa using h1
theorem mapU_one {c : UInt8} (h : mapU c = 1) : c = 38 := by
  unfold mapU at h
  by_cases h35 : c = 35
  · rw [if_pos h35] at h; omega
  rw [if_neg h35] at h
  by_cases h38 : c = 38
  · rw [if_pos h38] at h; exact h38
  rw [if_neg h38] at h
  by_cases h51 : c = 51
  · rw [if_pos h51] at h; omega
  rw [if_neg h51] at h
  by_cases h57 : c = 57
  · rw [if_pos h57] at h; omega
  rw [if_neg h57] at h
  by_cases h59 : c = 59
  · rw [if_pos h59] at h; omega
  rw [if_neg h59] at h
  by_cases h97 : c = 97
  · rw [if_pos h97] at h; omega
  rw [if_neg h97] at h
  by_cases h103 : c = 103
  · rw [if_pos h103] at h; omega
  rw [if_neg h103] at h
  by_cases h108 : c = 108
  · rw [if_pos h108] at h; omega
  rw [if_neg h108] at h
  by_cases h109 : c = 109
  · rw [if_pos h109] at h; omega
  rw [if_neg h109] at h
  by_cases h111 : c = 111
  · rw [if_pos h111] at h; omega
  rw [if_neg h111] at h
  by_cases h112 : c = 112
  · rw [if_pos h112] at h; omega
  rw [if_neg h112] at h
  by_cases h113 : c = 113
  · rw [if_pos h113] at h; omega
  rw [if_neg h113] at h
  by_cases h116 : c = 116
  · rw [if_pos h116] at h; omega
  rw [if_neg h116] at h
  by_cases h117 : c = 117
  · rw [if_pos h117] at h; omega
  rw [if_neg h117] at h
  exact absurd h (by decide)
theorem mapU_38 : mapU 38 = 1 := by decide
theorem mid_list {s : ByteArray} {a b : Nat} : (s.extract a b).data.toList = (s.data.toList.drop a).take (b - a) := by
  rw [ByteArray.data_extract, Array.toList_extract]
theorem nil_ahead (n : Nat) (p : Addr) (W : World) : (nilAhead (n + 1) 323 (.pointer (some p)) "WriteString").run Tryz.prog W = .ok (some false) W := by kernel_rfl
theorem look_ret {y vs : ByteArray} {v : List UInt8} {n : Nat} {b : Bool} {w w' : World} {e : Ending} (h : LookRes y w e w') (hl : lookU y.data.toList = (v, n, b)) (hv : (⟨v.toArray⟩ : ByteArray) = vs) : e = .returned (.tuple #[.string vs, .int .i64 n, .bool b]) ∧ ∃ n, w' = w.drewN n := by
  obtain ⟨h1, h2⟩ := h
  rw [hl] at h1
  subst hv
  exact ⟨h1, h2⟩
def WriteRes (w0 : World) (bx : Nat) (s : ByteArray) (e : Ending) (w' : World) : Prop := (∃ n, e = .returned (.tuple #[.int .i64 n, .nilIface])) ∧ SWAt w' w0.heap.size bx (unU s.data.toList) ∧ Below w0.heap.size w0 w'

set_option maxRecDepth 100000 in
set_option maxHeartbeats 8000000 in
theorem replWrite_q (w0 : World) (b tb na ta : Nat) (nd lf : Nat → Nat) (bx : Nat) (s : ByteArray) (w : World) (hT : TrieAt w0 b tb na ta nd lf) (hb : Below w0.heap.size w0 w) (hw : SWAt w w0.heap.size bx []) (hs : s.size ≤ 2097152) :
    Calls Tryz.prog 281 #[.pointer (some ⟨b, 0, none⟩), .iface 323 (.pointer (some ⟨bx, 0, none⟩)), .string s] w (WriteRes w0 bx s) := by
  have hmf : ∀ (fn : Fn) (first cap : Array Value) (w : World), (Instr.makeFunc fn first cap).run Tryz.prog w = .ok (.func fn first cap) w := fun _ _ _ _ => rfl
  have hnot : ∀ (x : Bool) (w : World), (Op.unary .not (.bool x)).run Tryz.prog w = .ok (.bool (!x)) w := fun _ _ => rfl
  have hna := nil_ahead
  have HT := Lib.hid hT
  have HB := Lib.hid hb
  have HW := Lib.hid hw
  clear hT hb hw
  go_enter Tryz.func281, Tryz.ntmps281
  go_wp2_with (go_at_call 282; go_must (refine (getSW_q ⟨bx, 0, none⟩ _).mono ?_); rintro e w3 ⟨rfl, hw3⟩; obtain rfl := hw3.symm)
  go_loopw [6, 7, 9, 10, 11, 12] (fun t6 t7 t9 t10 t11 t12 wr => ∃ (i last : Nat) (n : Int) (out : List UInt8), i ≤ s.size + 1 ∧ last ≤ i ∧ last ≤ s.size ∧ out.length ≤ last ∧ 0 ≤ n ∧ n ≤ last ∧ t6 = .int .i64 n ∧ t7 = .nilIface ∧ t9 = .int .i64 last ∧ t11 = .bool false ∧ t12 = .int .i64 i
      ∧ Hid (StU s.data.toList out last i) ∧ Hid (SWAt wr w0.heap.size bx out) ∧ Hid (Below w0.heap.size w0 wr)) (fun _ _ _ _ _ t _ => s.size + 1 - (intOf t).toNat)
  case atStart => exact ⟨0, 0, 0, [], Nat.zero_le _, Nat.le_refl _, Nat.zero_le _, Nat.le_refl _, by omega, by omega, rfl, rfl, rfl, rfl, rfl, Lib.hid (by unfold StU; simp), HW, HB⟩
  case round =>
    clear HW HB
    obtain ⟨i, last, n, out, hi, hli, hls, hol, hn0, hnl, rfl, rfl, rfl, rfl, rfl, HS, HW, HB⟩ := hrel
    have HR := Lib.hid (HT.out.keep (Keeps.of_below HB.out))
    have HSz := Lib.hid HB.out.size
    have hI3 : (last : Int) ≤ (s.size : Int) := by omega
    rcases (by omega : i = s.size + 1 ∨ i = s.size ∨ i < s.size) with rfl | rfl | hlt
    · have HF := Lib.hid (HS.out.fin (by rw [size_toList]))
      by_cases hl : last = s.size
      · subst hl
        go_wp2_with fail
        go_ret2
        refine ⟨⟨_, rfl⟩, ?_, HB.out⟩
        rw [HF.out, List.drop_eq_nil_of_le (by rw [size_toList]; omega), List.append_nil]
        exact HW.out
      · obtain ⟨z, hz⟩ : ∃ z, s.extract last s.size = z := ⟨_, rfl⟩
        have hzl : z.data.toList = s.data.toList.drop last := by rw [← hz, drop_list]
        have hzs : z.size = s.size - last := by rw [← hz, ByteArray.size_extract]; omega
        have HZ := Lib.hid hzl
        have hli2 : ((last : Int) == (s.size : Int)) = false := by simp; omega
        clear hzl
        go_wp2_with fail
        have HW' := Lib.hid (show SWAt wr.drew w0.heap.size bx out from HW.out.drew)
        go_region_with (go_at_call 290; go_must (refine (swWrite_q w0.heap.size bx out _ _ HW'.out (by omega) HSz.out).mono ?_); rintro e w3 ⟨rfl, hw3, hb3⟩; have HW3 := Lib.hid hw3; clear hw3; have HB3 := Lib.hid hb3; clear hb3)
        all_goals
          go_wp2_with fail
          go_ret2
          refine ⟨⟨_, rfl⟩, ?_, HB.out.drew.trans HB3.out⟩
          rw [HF.out, ← HZ.out]
          exact HW3.out
    · have HS2 := Lib.hid (HS.out.last (by rw [size_toList]))
      have hye : s.extract s.size s.size = ⟨#[]⟩ := by
        apply bytes_ext
        rw [drop_list, List.drop_eq_nil_of_le (by rw [size_toList]; omega)]
      have hI9 : (s.size : Int) ≤ (s.size : Int) := Int.le_refl _
      go_wp2_with (go_at_call 283; go_must (refine (lookup_q b tb na ta nd lf ⟨#[]⟩ _ HR.out (fun h => absurd h (by decide)) (by decide)).mono ?_); rintro e w3 hlk; obtain ⟨rfl, q, rfl⟩ := look_ret (v := []) (n := 0) (b := false) (vs := ⟨#[]⟩) hlk rfl rfl)
      go_roundw
      case rel => exact ⟨s.size + 1, last, n, out, Nat.le_refl _, by omega, hls, hol, hn0, hnl, rfl, rfl, rfl, rfl, by first | rfl | go_num, HS2, HW.out.drewN q, Below.drewN' HB.out q⟩
      case measure => simp only [intOf]; omega
    · obtain ⟨c, hc⟩ : ∃ c, s[i]'hlt = c := ⟨_, rfl⟩
      have hcl : s.data.toList[i]? = some c := by rw [← hc]; exact List.getElem?_eq_getElem (by rw [size_toList]; exact hlt)
      have HC := Lib.hid hcl
      clear hcl
      have r1 := HR.out.r1
      have r4 := HR.out.r4
      have r5 := HR.out.r5
      have hmap := HR.out.map c
      have hc256 : c.toNat < 256 := c.toNat_lt
      have hc256i : (c.toNat : Int) < 256 := by omega
      have hli2 : ((i : Int) != (s.size : Int)) = true := by simp; omega
      have hli3 : ((i : Int) == (s.size : Int)) = false := by simp; omega
      have hI1 : (i : Int) < (s.size : Int) := by omega
      have hI2 : (i : Int) ≤ (s.size : Int) := by omega
      obtain ⟨m, hm⟩ : ∃ m, mapU c = m := ⟨_, rfl⟩
      have hm14 : m ≤ 14 := by rw [← hm]; exact mapU_le c
      rw [hm] at hmap
      have HM := Lib.hid hm
      clear hm
      have tm2 : IntKind.i64.wrap (m : Int) = (m : Int) := IntWalk.i64_in _ (by omega)
      by_cases hmm : m = 14
      · have tm : ((m : Int) == 14) = true := by simp; omega
        have HS2 := Lib.hid (HS.out.one hli HC.out (by
          rw [drop_cons' HC.out]
          exact stepU_other (by rintro rfl; have := HM.out; rw [mapU_38] at this; omega)))
        clear hmm
        go_wp2_with fail
        go_quiet (fail)
        go_wp2_with fail
        go_roundw
        case rel => exact ⟨i + 1, last, n, out, by omega, by omega, hls, hol, hn0, hnl, rfl, rfl, rfl, rfl, by first | rfl | go_num, HS2, HW.out.drewN nq, Below.drewN' HB.out nq⟩
        case measure => simp only [intOf]; omega
      · have tm : ((m : Int) == 14) = false := by simp; omega
        have hmi : (m : Int) < 14 := by omega
        have hmn : m < 14 := by omega
        have htab := HR.out.tab m hmn
        by_cases hm1 : m = 1
        · have hc38 : c = 38 := mapU_one (HM.out.trans hm1)
          rw [if_pos hm1] at htab
          obtain rfl := hm1
          obtain ⟨y, hy⟩ : ∃ y, s.extract i s.size = y := ⟨_, rfl⟩
          have hyl : y.data.toList = s.data.toList.drop i := by rw [← hy, drop_list]
          have hys : y.size ≤ 1073741824 := by rw [← hy, ByteArray.size_extract]; omega
          have hyh : y.data.toList.head? = some 38 := by rw [hyl, drop_cons' HC.out, hc38]; rfl
          obtain ⟨v, k, bm, hlk⟩ : ∃ v k bm, lookU y.data.toList = (v, k, bm) := ⟨_, _, _, rfl⟩
          obtain ⟨vs, hvs⟩ : ∃ vs : ByteArray, ⟨v.toArray⟩ = vs := ⟨_, rfl⟩
          have HYh := Lib.hid (fun _ : 0 < y.size => hyh)
          have HYs := Lib.hid hys
          have HLk := Lib.hid hlk
          have HVs := Lib.hid hvs
          cases bm with
          | false =>
            have HS2 := Lib.hid (HS.out.one hli HC.out (by have h9 := look_miss hyh hlk; rw [hyl] at h9; rw [h9, hc38]))
            clear hmm hyl hys hyh hlk hvs hc38
            go_wp2_with fail
            go_quiet (fail)
            go_wp2_with (go_at_call 283; go_must (refine (lookup_q b tb na ta nd lf y _ (HR.out.keep (Keeps.drewN _ _)) HYh.out HYs.out).mono ?_); rintro e w3 hlk; obtain ⟨rfl, q, rfl⟩ := look_ret hlk HLk.out HVs.out)
            go_roundw
            case rel => exact ⟨i + 1, last, n, out, by omega, by omega, hls, hol, hn0, hnl, rfl, rfl, rfl, rfl, by first | rfl | go_num, HS2, HW.out.drewN (nq + q), Below.drewN' HB.out (nq + q)⟩
            case measure => simp only [intOf]; omega
          | true =>
            obtain ⟨hst, hk1, hk2, hk3⟩ := look_bounds hyh hlk
            rw [hyl] at hst
            have hyl2 : y.data.toList.length = s.size - i := by rw [hyl, List.length_drop, size_toList]
            have hkk : ((k : Int) == 0) = false := by simp; omega
            obtain ⟨z, hz⟩ : ∃ z, s.extract last i = z := ⟨_, rfl⟩
            have hzl : z.data.toList = (s.data.toList.drop last).take (i - last) := by rw [← hz, mid_list]
            have hzs : z.size = i - last := by rw [← hz, ByteArray.size_extract]; omega
            have hvl : vs.data.toList = v := by rw [← hvs]
            have hvz : vs.size = v.length := by rw [← hvl, size_toList]
            have HS2 := Lib.hid (HS.out.hit (by rw [size_toList]; exact hlt) hst)
            rw [← hzl, ← hvl] at HS2
            have hki : i + k ≤ s.size := by omega
            have hI4 : (last : Int) ≤ (i : Int) := by omega
            have hlz : (out ++ z.data.toList).length = out.length + z.size := by rw [List.length_append, size_toList]
            have hlz2 : (out ++ z.data.toList ++ vs.data.toList).length = out.length + z.size + vs.size := by rw [List.length_append, hlz, size_toList]
            have HLz := Lib.hid hlz
            have HLz2 := Lib.hid hlz2
            have HZs := Lib.hid hzs
            have hvk : vs.size ≤ k := by omega
            have HVz := Lib.hid hvz
            clear hvz
            clear hzs hmm hc38 hyl hys hyh hlk hvs hst hzl hvl hyl2 hlz hlz2
            go_wp2_with fail
            go_quiet (fail)
            go_wp2_with (go_at_call 283; go_must (refine (lookup_q b tb na ta nd lf y _ (HR.out.keep (Keeps.drewN _ _)) HYh.out HYs.out).mono ?_); rintro e w3 hlk; obtain ⟨rfl, q, rfl⟩ := look_ret hlk HLk.out HVs.out)
            have HW' := Lib.hid (HW.out.drewN (nq + q + 1))
            have HB' := Lib.hid (Below.drewN' HB.out (nq + q + 1))
            go_cut [7, 10] from 19 to 112 (fun t7 t10 wx => t7 = .nilIface ∧ t10 = .int .i64 z.size ∧ Hid (SWAt wx w0.heap.size bx (out ++ z.data.toList)) ∧ Hid (Below w0.heap.size w0 wx))
            case first =>
              go_region_with (go_at_call 290; go_must (refine (swWrite_q w0.heap.size bx out z _ HW'.out (by have := HZs.out; omega) HB'.out.size).mono ?_); rintro e w4 ⟨rfl, hw4, hb4⟩; have HW4 := Lib.hid hw4; clear hw4; have HB4 := Lib.hid hb4; clear hb4)
              all_goals
                (go_wp2_with fail
                 go_meet
                 exact ⟨rfl, rfl, HW4.out, HB'.out.trans HB4.out⟩)
            case rest =>
              obtain ⟨rfl, rfl, HW5, HB5⟩ := hcut
              go_wp2_with (go_at_call 290; go_must (refine (swWrite_q w0.heap.size bx _ vs _ HW5.out (by have := HZs.out; rw [HLz.out]; omega) HB5.out.size).mono ?_); rintro e w6 ⟨rfl, hw6, hb6⟩; have HW6 := Lib.hid hw6; clear hw6; have HB6 := Lib.hid hb6; clear hb6)
              go_roundw
              case rel => exact ⟨i + k, i + k, n + z.size + vs.size, out ++ z.data.toList ++ vs.data.toList, by omega, Nat.le_refl _, hki, by have := HZs.out; rw [HLz2.out]; omega, by omega, by have := HZs.out; omega, by have h7 := HZs.out; have h8 := HVz.out; rw [IntWalk.wrap64_in (n + (z.size : Int)) (by omega), IntWalk.wrap64_in _ (by omega)], rfl, by first | rfl | go_num, rfl, by first | rfl | go_num, HS2, HW6.out, HB5.out.trans HB6.out⟩
              case measure => simp only [intOf]; omega
        · rw [if_neg hm1] at htab
          have HS2 := Lib.hid (HS.out.one hli HC.out (by
            rw [drop_cons' HC.out]
            exact stepU_other (by rintro rfl; have := HM.out; rw [mapU_38] at this; omega)))
          clear hmm hm1
          go_wp2_with fail
          go_quiet (fail)
          go_wp2_with fail
          go_roundw
          case rel => exact ⟨i + 1, last, n, out, by omega, by omega, hls, hol, hn0, hnl, rfl, rfl, rfl, rfl, by first | rfl | go_num, HS2, HW.out.drewN nq, Below.drewN' HB.out nq⟩
          case measure => simp only [intOf]; omega

end Go.Proofs.YtbhildmalcfhiaaGreatDoor

namespace Go.Proofs.YtbhildmalcfhiaaGreatDoor
open Go.RowKit Go.Deep

theorem row_lenU {B : Nat} {w : World} {v : Value} {m : Nat} {bs : List UInt8} (h : w.ownsRow B 5 1 v m (byteCells bs)) : bs.length = m := by
  have := h.1
  simpa [byteCells] using this
theorem conv_rowU {w : World} {B : Nat} {A : Option Addr} {m c : Nat} {bs : List UInt8} (h : w.ownsRow B 5 1 (.slice A m c) m (byteCells bs)) :
    (convert 322 9 (.slice A m c)).run Tryz.prog w = .ok (.string ⟨bs.toArray⟩) w := by
  have hl := row_lenU h
  subst hl
  cases A with
  | none =>
    obtain ⟨A', c', hv, _, _, hA⟩ := own_form h
    cases hv
    have h0 : bs = [] := by
      cases bs with
      | nil => rfl
      | cons a r =>
        obtain ⟨g, hg, _⟩ := hA (by simp)
        cases hg
    subst h0
    exact run_convert_bytes_nil (P := Tryz.prog) w 322 5 Tryz.underlying322 Tryz.underlying5 _ _ _ Tryz.underlying9
  | some a =>
    refine run_convert_bytes_back w 322 9 5 a c bs Tryz.underlying322 Tryz.underlying5 Tryz.underlying9 (fun j hj => ?_)
    obtain ⟨A', c', hv, _, _, hA⟩ := own_form h
    cases hv
    obtain ⟨g, hg, _, _⟩ := hA (by omega)
    cases hg
    have hadd : (⟨g, 0, none⟩ : Addr).add j = ⟨g, j, none⟩ := by unfold Addr.add; split <;> simp_all
    rw [hadd]
    exact own_cell h (byteCells_get (List.getElem?_eq_getElem hj))

set_option maxRecDepth 100000 in
set_option maxHeartbeats 4000000 in
theorem replU_q (b tb na ta : Nat) (nd lf : Nat → Nat) (s : ByteArray) (w : World) (hT : TrieAt w b tb na ta nd lf) (hs : s.size ≤ 2097152) :
    Calls Tryz.prog 280 #[.pointer (some ⟨b, 0, none⟩), .string s] w fun e w' => e = .returned (.string ⟨(unU s.data.toList).toArray⟩) ∧ Below w.heap.size w w' := by
  obtain ⟨i0, hi, hz0, hz1, hz2⟩ := info_parts info_byteU
  have HT := Lib.hid hT; clear hT
  go_enter Tryz.func280, Tryz.ntmps280
  go_wp2_with (at_make; go_must (refine wpList_make_own _ rfl _ _ 322 rfl w.heap.size 5 i0 (.int .u8 0) 1 Tryz.underlying322 hi hz0 hz1 .i64 .i64 _ s.size rfl rfl (by omega) (by rw [hz2]; omega) (by unfold maxLen; omega) (Nat.le_refl _) ?_); intro w2 own2 hg2; have HO2 := Lib.hid own2; have HG2 := Lib.hid hg2; clear own2 hg2)
  have HB2 := Lib.hid ((Below.refl w.heap.size w).grown HG2.out (Nat.le_refl _) (fun k hk => by cases hk))
  obtain ⟨bx, hbx⟩ : ∃ bx, w2.heap.size = bx := ⟨_, rfl⟩
  obtain ⟨w3, hw3⟩ : ∃ w3, w2.alloc (.cells #[.slice (some ⟨w.heap.size, 0, none⟩) 0 s.size] 322) = w3 := ⟨_, rfl⟩
  have hSW : SWAt w3 w.heap.size bx [] := by
    refine ⟨some ⟨w.heap.size, 0, none⟩, s.size, by rw [← hbx]; exact HB2.out.size, ?_, ?_⟩
    · rw [← hw3, ← hbx]; exact CB.new _ _ _
    · rw [← hw3]; exact own_alloc HO2.out _
  have HSW := Lib.hid hSW; clear hSW
  have HB3 := Lib.hid (show Below w.heap.size w w3 by rw [← hw3]; exact HB2.out.alloc HB2.out.size _)
  rw [hw3, hbx]
  clear hw3 hbx
  go_wp2_with (go_at_call 281; go_must (refine (replWrite_q w b tb na ta nd lf bx s w3 HT.out HB3.out HSW.out hs).mono ?_); rintro e w4 ⟨⟨n4, rfl⟩, ⟨A, c, hBx, hc4, ho4⟩, hb4⟩; have c0 : w4.cell? ⟨bx, 0, none⟩ = some (.slice A (unU s.data.toList).length c) := (hc4.c 0).trans rfl; have hcv := conv_rowU ho4; have HB4 := Lib.hid hb4; clear hb4 hc4 ho4)
  go_ret
  exact ⟨rfl, HB4.out⟩

end Go.Proofs.YtbhildmalcfhiaaGreatDoor
