/-
  References by paths and by places: they give the same closures.
-/
import Derived.Test.YtbhildmalcfhiaaGreatDoorPlNext
import Derived.Test.YtbhildmalcfhiaaGreatDoorPlRefs
import Derived.Test.YtbhildmalcfhiaaGreatDoorPlRefers
namespace Go.Proofs.YtbhildmalcfhiaaGreatDoor
open Go.RowKit Go.Deep

/-- y lies in the directory x -/
def inDir (x y : List UInt8) : Bool := Lib.hasPrefix y (x ++ [47])
theorem inDir_lt : ∀ {x y : List UInt8}, inDir x y = true → x < y
  | [], [], h => by simp [inDir, Lib.hasPrefix] at h
  | [], b :: y, _ => List.nil_lt_cons _ _
  | a :: x, [], h => by simp [inDir, Lib.hasPrefix] at h
  | a :: x, b :: y, h => by
    simp only [inDir, Lib.hasPrefix, List.cons_append, List.isPrefixOf, Bool.and_eq_true, beq_iff_eq] at h
    obtain ⟨rfl, h2⟩ := h
    have := inDir_lt (x := x) (y := y) h2
    exact List.cons_lt_cons_self.2 this
theorem outsFrom_flat {l : List OutV} : ∀ (f k : Nat), l.length - k = f → outsFrom l f k = 0 → ∀ (j i : Nat) (x y : OutV), k ≤ j → j < i → l[j]? = some x → l[i]? = some y → inDir x.path.data.toList y.path.data.toList = false
  | 0, k, hf, _, j, i, x, y, hj, hi, hx, hy => absurd (List.getElem?_eq_some_iff.1 hy).1 (by omega)
  | f + 1, k, hf, h, j, i, x, y, hj, hi, hx, hy => by
    have hk : k < l.length := by omega
    have hz : l[k]? = some l[k] := List.getElem?_eq_getElem hk
    rw [outsFrom, hz] at h
    simp only at h
    by_cases h1 : pathB l[k].path = false
    · rw [if_pos h1] at h; cases h
    rw [if_neg h1] at h
    by_cases h2 : prevBad l l[k].path k = true
    · rw [if_pos h2] at h; cases h
    rw [if_neg h2] at h
    by_cases h3 : (l.drop (k + 1)).any (under l[k]) = true
    · rw [if_pos h3] at h; cases h
    rw [if_neg h3] at h
    by_cases h4 : 200000 < l[k].body.size
    · rw [if_pos h4] at h; cases h
    rw [if_neg h4] at h
    rcases Nat.lt_or_ge k j with h5 | h5
    · exact outsFrom_flat f (k + 1) (by omega) h j i x y h5 hi hx hy
    · obtain rfl : k = j := by omega
      rw [hz] at hx
      cases hx
      rw [Bool.not_eq_true, List.any_eq_false] at h3
      have h6 := h3 y (List.mem_iff_getElem?.2 ⟨i - (k + 1), by rw [List.getElem?_drop, show k + 1 + (i - (k + 1)) = i by omega]; exact hy⟩)
      rw [Bool.not_eq_true] at h6
      exact h6
/-- outputs without an error: no path lies in another -/
theorem outs_flat {l : List OutV} (h : outsE l = 0) {x y : OutV} (hx : x ∈ l) (hy : y ∈ l) : inDir x.path.data.toList y.path.data.toList = false := by
  obtain ⟨j, hj⟩ := List.mem_iff_getElem?.1 hx
  obtain ⟨i, hi⟩ := List.mem_iff_getElem?.1 hy
  cases hh : inDir x.path.data.toList y.path.data.toList with
  | false => rfl
  | true =>
    have hlt := inDir_lt hh
    have hr := outs_rise h
    have h0 := h
    unfold outsE at h0
    split at h0
    · cases h0
    rcases Nat.lt_trichotomy j i with h1 | h1 | h1
    · rw [outsFrom_flat l.length 0 (by omega) h0 j i x y (Nat.zero_le _) h1 hj hi] at hh; cases hh
    · subst h1
      rw [hj] at hi; cases hi
      exact absurd hlt (List.lt_irrefl _)
    · have h2 := List.pairwise_iff_getElem.1 hr i j (List.getElem?_eq_some_iff.1 hi).1 (List.getElem?_eq_some_iff.1 hj).1 h1
      rw [(List.getElem?_eq_some_iff.1 hi).2, (List.getElem?_eq_some_iff.1 hj).2] at h2
      exact absurd (List.lt_trans h2 hlt) (List.lt_irrefl _)
theorem outs_riseP {l : List OutV} (h : outsE l = 0) : RiseP l := fun a b hab hb => by
  have h2 := List.pairwise_iff_getElem.1 (outs_rise h) a b (by omega) hb hab
  have ha : l[a]? = some l[a] := List.getElem?_eq_getElem (by omega)
  have hb2 : l[b]? = some l[b] := List.getElem?_eq_getElem hb
  rw [pathK, pathK, pathA_at ha, pathA_at hb2]
  exact h2

/-- those of a that are not in b -/
def onlyA (a b : List OutV) : List OutV := a.filter fun x => decide (outAtI b x.path.data.toList < 0)
def manyN (a b : List OutV) : Nat := b.length + (onlyA a b).length
def nestB (a b : List OutV) : Bool := a.any fun x => b.any fun y => inDir x.path.data.toList y.path.data.toList || inDir y.path.data.toList x.path.data.toList
def sitesE (a b : List OutV) : Int := if 480 < manyN a b then 4 else if nestB a b = true then 6 else 0
theorem outAtI_neg {l : List OutV} {s : List UInt8} : outAtI l s < 0 ↔ ∀ o ∈ l, o.path.data.toList ≠ s := by
  unfold outAtI
  cases hh : outAtN l s with
  | none =>
    rw [outAtN, List.findIdx?_eq_none_iff] at hh
    simp only [Int.reduceNeg, Int.reduceLT, true_iff]
    intro o ho e
    have := hh o ho
    simp [e] at this
  | some i =>
    rw [outAtN, List.findIdx?_eq_some_iff_getElem] at hh
    obtain ⟨h1, h2, _⟩ := hh
    simp only [Int.not_lt.2 (Int.natCast_nonneg i), false_iff]
    intro h
    exact h _ (List.getElem_mem h1) (by simpa using h2)
/-- the paths of both, each once -/
def unionL (a b : List OutV) : List (List UInt8) := b.map (·.path.data.toList) ++ (onlyA a b).map (·.path.data.toList)
theorem unionL_len (a b : List OutV) : (unionL a b).length = manyN a b := by simp [unionL, manyN]
theorem unionL_mem {a b : List OutV} {s : List UInt8} : s ∈ unionL a b ↔ ∃ o, (o ∈ a ∨ o ∈ b) ∧ o.path.data.toList = s := by
  unfold unionL
  rw [List.mem_append]
  constructor
  · rintro (h | h)
    · obtain ⟨o, ho, rfl⟩ := List.mem_map.1 h; exact ⟨o, Or.inr ho, rfl⟩
    · obtain ⟨o, ho, rfl⟩ := List.mem_map.1 h; exact ⟨o, Or.inl (List.mem_filter.1 ho).1, rfl⟩
  · rintro ⟨o, ho, rfl⟩
    rcases ho with ho | ho
    · by_cases hb : ∃ y ∈ b, y.path.data.toList = o.path.data.toList
      · obtain ⟨y, hy, e⟩ := hb; exact Or.inl (List.mem_map.2 ⟨y, hy, e⟩)
      · refine Or.inr (List.mem_map.2 ⟨o, List.mem_filter.2 ⟨ho, ?_⟩, rfl⟩)
        rw [decide_eq_true_eq, outAtI_neg]
        exact fun y hy e => hb ⟨y, hy, e⟩
    · exact Or.inl (List.mem_map.2 ⟨o, ho, rfl⟩)
theorem unionL_nodup {a b : List OutV} (ha : outsE a = 0) (hb : outsE b = 0) : (unionL a b).Nodup := by
  have one : ∀ {l : List OutV}, l.Pairwise (fun x y => x.path.data.toList ≠ y.path.data.toList) → (l.map (·.path.data.toList)).Nodup := fun h => by
    rw [List.nodup_iff_pairwise_ne, List.pairwise_map]; exact h
  unfold unionL
  rw [List.nodup_append]
  refine ⟨one (outs_apart hb), one ((outs_apart ha).filter _), fun x hx y hy e => ?_⟩
  obtain ⟨o, ho, rfl⟩ := List.mem_map.1 hx
  obtain ⟨p, hp, rfl⟩ := List.mem_map.1 hy
  have := (List.mem_filter.1 hp).2
  rw [decide_eq_true_eq, outAtI_neg] at this
  exact this o ho e
/-- some path lies in another -/
theorem nest_union {a b : List OutV} (ha : outsE a = 0) (hb : outsE b = 0) : nestB a b = true ↔ ∃ p ∈ unionL a b, ∃ q ∈ unionL a b, inDir p q = true := by
  constructor
  · intro h
    obtain ⟨x, hx, h⟩ := List.any_eq_true.1 h
    obtain ⟨y, hy, h⟩ := List.any_eq_true.1 h
    rw [Bool.or_eq_true] at h
    have h1 : x.path.data.toList ∈ unionL a b := unionL_mem.2 ⟨x, Or.inl hx, rfl⟩
    have h2 : y.path.data.toList ∈ unionL a b := unionL_mem.2 ⟨y, Or.inr hy, rfl⟩
    rcases h with h | h
    · exact ⟨_, h1, _, h2, h⟩
    · exact ⟨_, h2, _, h1, h⟩
  · rintro ⟨p, hp, q, hq, h⟩
    obtain ⟨x, hx, rfl⟩ := unionL_mem.1 hp
    obtain ⟨y, hy, rfl⟩ := unionL_mem.1 hq
    refine List.any_eq_true.2 ?_
    rcases hx with hx | hx <;> rcases hy with hy | hy
    · rw [outs_flat ha hx hy] at h; cases h
    · exact ⟨x, hx, List.any_eq_true.2 ⟨y, hy, by rw [h]; rfl⟩⟩
    · exact ⟨y, hy, List.any_eq_true.2 ⟨x, hx, by rw [h, Bool.or_true]⟩⟩
    · rw [outs_flat hb hx hy] at h; cases h
/-- the set of both sites' paths -/
def unionF (a b : List OutV) (j : Nat) : List UInt8 → Option Bool := fun s => if pathsF a s = some true then some true else pathsF (b.take j) s
theorem unionF_zero (a b : List OutV) : unionF a b 0 = pathsF a := by
  funext s
  unfold unionF pathsF
  by_cases h : (a.any fun o => o.path.data.toList == s) = true
  · simp [h]
  · simp [h]
theorem unionF_take {a b : List OutV} {j : Nat} {o : OutV} (h : b[j]? = some o) : unionF a b (j + 1) = putF (unionF a b j) o.path.data.toList true := by
  funext s
  rw [unionF, pathsF_take h, putF, putF, unionF]
  by_cases h1 : s = o.path.data.toList
  · simp [h1]
  · simp [h1]
theorem unionF_mem (a b : List OutV) (s : List UInt8) : (unionF a b b.length s).isSome = true ↔ s ∈ unionL a b := by
  rw [unionL_mem, unionF, List.take_length]
  unfold pathsF
  constructor
  · intro h
    by_cases h1 : (a.any fun o => o.path.data.toList == s) = true
    · obtain ⟨o, ho, e⟩ := List.any_eq_true.1 h1
      exact ⟨o, Or.inl ho, by simpa using e⟩
    · rw [if_neg (by simp [h1])] at h
      by_cases h2 : (b.any fun o => o.path.data.toList == s) = true
      · obtain ⟨o, ho, e⟩ := List.any_eq_true.1 h2
        exact ⟨o, Or.inr ho, by simpa using e⟩
      · rw [if_neg h2] at h; cases h
  · rintro ⟨o, ho | ho, rfl⟩
    · have h1 : (a.any fun x => x.path.data.toList == o.path.data.toList) = true := List.any_eq_true.2 ⟨o, ho, by simp⟩
      rw [if_pos (by rw [if_pos h1])]; rfl
    · have h1 : (b.any fun x => x.path.data.toList == o.path.data.toList) = true := List.any_eq_true.2 ⟨o, ho, by simp⟩
      split
      · rfl
      · rfl

end Go.Proofs.YtbhildmalcfhiaaGreatDoor

namespace Go.Proofs.YtbhildmalcfhiaaGreatDoor
open Go.RowKit Go.Deep

theorem inDir_pre {p q z : ByteArray} {v : Bool} (hz : p ++ (⟨#[47]⟩ : ByteArray) = z) (h : inDir p.data.toList q.data.toList = v) : Lib.hasPrefix q.data.toList z.data.toList = v := by
  rw [← hz, ByteArray.data_append, Array.toList_append]; exact h
theorem sitesE_large {a b : List OutV} (h : 480 < manyN a b) : sitesE a b = 4 := by rw [sitesE, if_pos h]
theorem sitesE_nest {a b : List OutV} (h : ¬ 480 < manyN a b) (h2 : nestB a b = true) : sitesE a b = 6 := by rw [sitesE, if_neg h, if_pos h2]
theorem sitesE_ok {a b : List OutV} (h : ¬ 480 < manyN a b) (h2 : ¬ nestB a b = true) : sitesE a b = 0 := by rw [sitesE, if_neg h, if_neg h2]

set_option maxRecDepth 100000 in
set_option maxHeartbeats 8000000 in
theorem sitesFault_q (a b : List OutV) (va vb : Value) (n : Int) (w : World) (h : OutsAt w va a) (h2 : OutsAt w vb b) (ha : outsE a = 0) (hb : outsE b = 0) (hza : ∀ x ∈ a, x.path.size ≤ 200) (hzb : ∀ x ∈ b, x.path.size ≤ 200) (hn : sitesE a b = n) :
    Calls Tryz.prog 36 #[va, vb] w fun e w' => e = .returned (.int .i64 n) ∧ Below w.heap.size w w' := by
  have HA := Lib.hid (paths_q a va w h (fun x hx => by have := hza x hx; omega))
  have HLb := Lib.hid h2
  obtain ⟨Ab, cb, bb, ob, rfl, hlc, hlcm, hAb, hcell⟩ := h2
  have HC := Lib.hid hcell; have HAb := Lib.hid hAb; have HZb := Lib.hid hzb
  have HUn := Lib.hid (unionL_nodup ha hb)
  have HNe := Lib.hid (nest_union ha hb)
  have HNn := Lib.hid hn
  have HZu := Lib.hid (show ∀ s ∈ unionL a b, s.length ≤ 200 from fun s hs => by
    obtain ⟨o, ho, rfl⟩ := unionL_mem.1 hs
    rw [size_toList]
    rcases ho with ho | ho
    · exact hza o ho
    · exact hzb o ho)
  have hla := outsE_len ha
  have hlb := outsE_len hb
  obtain ⟨la, hla2⟩ : ∃ x, a.length = x := ⟨_, rfl⟩
  rw [hla2] at hla
  have HLa := Lib.hid hla2
  unfold maxLen at hlcm
  clear hcell hAb hza hzb ha hb hn h hla2
  obtain ⟨K, hK⟩ : ∃ K, w.heap.size = K := ⟨_, rfl⟩
  have HK := Lib.hid hK
  go_enter Tryz.func36, Tryz.ntmps36
  go_wp2_with (go_at_call 38; go_loud (refine HA.out.mono ?_; rintro e w1 ⟨bm, rfl, hm, hbm, hb1⟩; rw [hK] at hb1 hbm; rw [HLa.out] at hm; have HM1 := Lib.hid hm; have HBm := Lib.hid hbm; have HB1 := Lib.hid hb1; clear hm hbm hb1))
  have HM1' := Lib.hid (show BMap Tryz.prog 9 4 w1 bm (la + 0) (unionF a b 0) by rw [unionF_zero]; exact HM1.out)
  clear HA HM1 hK
  go_loopw [14] (fun t14 wr => ∃ j : Nat, j ≤ b.length ∧ t14 = .int .i64 j ∧ Hid (BMap Tryz.prog 9 4 wr bm (la + j) (unionF a b j)) ∧ Hid (Below K w wr)) (fun t _ => b.length - (intOf t).toNat)
  case atStart => exact ⟨0, Nat.zero_le _, rfl, HM1', HB1⟩
  case round =>
    clear HM1' HB1
    obtain ⟨j, hj, rfl, HM, HB⟩ := hrel
    obtain ⟨wo, rfl⟩ : ∃ wo : World, wo = wr := ⟨_, rfl⟩
    by_cases hlt : j < b.length
    · obtain ⟨x, hx⟩ : ∃ x, b[j]? = some x := ⟨_, List.getElem?_eq_getElem hlt⟩
      obtain rfl : Ab = some ⟨bb, ob, none⟩ := HAb.out (by intro h0; rw [h0] at hlt; simp at hlt)
      have kc := (HC.out j x hx).keep (Keeps.of_below (by have := HB.out; rw [← HK.out] at this; exact this))
      have k0 := kc.c0
      have k1 := kc.c1
      have HZ1 := Lib.hid (HZb.out x (List.mem_of_getElem? hx))
      have HS := Lib.hid (unionF_take (a := a) hx)
      have hlt2 : (j : Int) < (b.length : Int) := by omega
      clear hx kc
      go_wp2_with (at_mapUpdate; go_must (refine wpList_storeR rfl _ _ _ 77 rfl Tryz.underlying9 Tryz.underlying77 (HM.out.alloc _) (by unfold maxLen; omega) rfl x.path (by have := HZ1.out; unfold maxLen; omega) _ true rfl rfl (plainElem_bool Tryz.underlying4 true) ?_); intro w2 hm1 ht1; have HM2 := Lib.hid hm1; have HT2 := Lib.hid ht1; clear hm1 ht1)
      go_roundw
      case rel => exact ⟨j + 1, by omega, by go_num, Lib.hid (by rw [HS.out]; exact HM2.out), Lib.hid ((HB.out.alloc (by have := HM.out.lt; have := HBm.out; omega) _).trans (turned_below HT2.out HBm.out (by have := HM.out.lt; have := HBm.out; rw [World.size_alloc]; omega)))⟩
      case measure => simp [intOf]; omega
    · obtain rfl : j = b.length := by omega
      have hlt2 : ¬ (b.length : Int) < (b.length : Int) := by omega
      obtain ⟨f, hf⟩ : ∃ f, unionF a b b.length = f := ⟨_, rfl⟩
      have HFm := Lib.hid (show ∀ s, (f s).isSome = true ↔ s ∈ unionL a b from fun s => by rw [← hf]; exact unionF_mem a b s)
      rw [hf] at HM
      clear hf
      obtain ⟨M, hM⟩ : ∃ M, manyN a b = M := ⟨_, rfl⟩
      have HMn := Lib.hid hM
      have hlen : ∀ ty, (Builtin.len_ #[77] ty #[.map (some bm)]).run Tryz.prog wo = .ok (.int .i64 (M : Nat)) wo := fun ty => by
        have := HM.out.count Tryz.underlying9 Tryz.underlying77 HUn.out HFm.out ty
        rw [unionL_len, hM] at this
        exact this
      by_cases h1 : 480 < M
      · have h1i : (480 : Int) < (M : Int) := by omega
        have HV := Lib.hid (show n = 4 by rw [← HNn.out]; exact sitesE_large (by rw [hM]; exact h1))
        clear hM
        go_wp2_with fail
        go_ret
        exact ⟨by rw [HV.out]; rfl, by rw [HK.out]; exact HB.out⟩
      · have h1i : ¬ (480 : Int) < (M : Int) := by omega
        clear hM
        have hKo : K ≤ wo.heap.size := by have := HM.out.lt; have := HBm.out; omega
        go_wp2_with (at_range; go_loud (refine wpList_rangeB rfl _ 77 rfl Tryz.underlying9 Tryz.underlying77 rfl HM.out ?_; intro w5 cnt0 hrg0 hcnt hg0 hs0; have HRg0 := Lib.hid hrg0; have HB0 := Lib.hid (HB.out.grown hg0 hKo (fun j hj => by cases hj)); have HS0 := Lib.hid hs0; clear hrg0 hg0 hs0))
        obtain ⟨r, hr⟩ : ∃ r, wo.heap.size = r := ⟨_, rfl⟩
        rw [hr] at HRg0 HS0
        rw [hr]
        try go_frame
        have hrK : K ≤ r := by omega
        have hbmr : bm < r := by have := HM.out.lt; omega
        clear hr hlen hcnt
        go_loopw [] (fun wr => ∃ (lR : List UInt8 → Bool) (cnt : Nat), Hid (RngB Tryz.prog 9 4 wr bm r (la + b.length) f lR cnt) ∧ Hid (∀ p ∈ unionL a b, lR p = false → ∀ q ∈ unionL a b, inDir p q = false) ∧ Hid (Below K w wr) ∧ r < wr.heap.size) (fun wr => wr.rangeLeft bm r)
        case atStart => exact ⟨_, cnt0, HRg0, (fun p hp h => by have := (HFm.out p).2 hp; rw [this] at h; cases h), HB0, by have := HS0.out; omega⟩
        case round =>
          clear HRg0 HB0 HS0
          obtain ⟨lR, cnt, HRg, HVi, HBr, hrw⟩ := hrel
          obtain ⟨wp_, rfl⟩ : ∃ wo : World, wo = wr := ⟨_, rfl⟩
          go_wp2_with (at_next; go_must (refine wpList_nextB rfl _ rfl Tryz.underlying9 Tryz.underlying4 r cnt lR rfl HRg.out ?_ ?_))
          · intro hc0 hl0
            have HV := Lib.hid (show n = 0 by
              rw [← HNn.out]
              refine sitesE_ok (by rw [HMn.out]; exact h1) (fun h9 => ?_)
              obtain ⟨p, hp, q, hq, h8⟩ := HNe.out.1 h9
              rw [HVi.out p hp (hl0 p) q hq] at h8; cases h8)
            clear hl0 hc0
            go_wp2_with fail
            go_ret
            exact ⟨by rw [HV.out]; rfl, by rw [HK.out]; exact HBr.out⟩
          · intro x
            refine ⟨fun w1 cnt1 hx hlx hf hrg hlt hgr hs6 hen => ?_, fun w1 cnt1 hx hlx hf hrg hlt hgr hs6 hen => ?_⟩
            all_goals
              have HXm := Lib.hid ((HFm.out _).1 (by rw [hf]; rfl))
              have hxz : x.size ≤ 200 := by have := HZu.out _ HXm.out; rw [size_toList] at this; exact this
              have HRg1 := Lib.hid hrg
              have HLtt := Lib.hid hlt
              have HB1 := Lib.hid (HBr.out.grown hgr (by omega) (fun j hj => by have : j = r := (Option.some.inj hj).symm; omega))
              have hrw1 : r < w1.heap.size := by rw [hs6]; exact hrw
              clear hrg hlt hgr hs6 hx hlx hf HBr
              obtain ⟨z, hz⟩ : ∃ z, x ++ (⟨#[47]⟩ : ByteArray) = z := ⟨_, rfl⟩
              have hq1 : x.size + 1 ≤ 9223372036854775807 := by omega
              have HZz := Lib.hid hz
              have hK1 : K ≤ w1.heap.size := by omega
              go_wp2_with (at_range; go_loud (refine wpList_rangeB rfl _ 77 rfl Tryz.underlying9 Tryz.underlying77 rfl HRg1.out.owns ?_; intro w5 cnt0 hrg0 hcnt hg0 hs0; have HRi0 := Lib.hid hrg0; have HRo0 := Lib.hid (HRg1.out.kept hg0 (by simp) (by simp)); have HB0 := Lib.hid (HB1.out.grown hg0 hK1 (fun j hj => by cases hj)); have HS0 := Lib.hid hs0; clear hrg0 hg0 hs0))
              obtain ⟨s, hs⟩ : ∃ s, w1.heap.size = s := ⟨_, rfl⟩
              rw [hs] at HRi0 HS0
              rw [hs]
              try go_frame
              have hrs : r < s := by omega
              clear hs hcnt
              go_loopw [] (fun wr => ∃ (lI : List UInt8 → Bool) (cntI : Nat), Hid (RngB Tryz.prog 9 4 wr bm s (la + b.length) f lI cntI) ∧ Hid (RngB Tryz.prog 9 4 wr bm r (la + b.length) f (fun s => lR s && !(s == x.data.toList)) cnt1) ∧ Hid (∀ q ∈ unionL a b, lI q = false → inDir x.data.toList q = false) ∧ Hid (Below K w wr) ∧ s < wr.heap.size) (fun wr => wr.rangeLeft bm s)
              case atStart => exact ⟨_, cnt0, HRi0, HRo0, (fun p hp h => by have := (HFm.out p).2 hp; rw [this] at h; cases h), HB0, by have := HS0.out; omega⟩
              case round =>
                clear HRi0 HRo0 HB0 HS0 HRg1 HB1
                obtain ⟨lI, cntI, HRi, HRo, HVj, HBi, hsw⟩ := hrel
                obtain ⟨wi, rfl⟩ : ∃ wo : World, wo = wr := ⟨_, rfl⟩
                go_wp2_with (at_next; go_must (refine wpList_nextB rfl _ rfl Tryz.underlying9 Tryz.underlying4 s cntI lI rfl HRi.out ?_ ?_))
                · intro hc0 hl0
                  have HV2 := Lib.hid (show ∀ p ∈ unionL a b, (lR p && !(p == x.data.toList)) = false → ∀ q ∈ unionL a b, inDir p q = false from fun p hp h9 q hq => by
                    rw [Bool.and_eq_false_iff, Bool.not_eq_false', beq_iff_eq] at h9
                    rcases h9 with h9 | h9
                    · exact HVi.out p hp h9 q hq
                    · rw [h9]; exact HVj.out q hq (hl0 q))
                  clear hl0 hc0 hen
                  go_wp2_with fail
                  go_roundw
                  case rel => exact ⟨_, cnt1, HRo, HV2, HBi, by omega⟩
                  case measure => rw [HRo.out.left_eq, HRg.out.left_eq]; exact HLtt.out
                · intro y
                  refine ⟨fun w3 cnt3 hy hly hf3 hrg3 hlt3 hgr3 hs3 hen3 => ?_, fun w3 cnt3 hy hly hf3 hrg3 hlt3 hgr3 hs3 hen3 => ?_⟩
                  all_goals
                    have HYm := Lib.hid ((HFm.out _).1 (by rw [hf3]; rfl))
                    have HR3 := Lib.hid hrg3
                    have HL3 := Lib.hid hlt3
                    have HB3 := Lib.hid (HBi.out.grown hgr3 (by omega) (fun j hj => by have : j = s := (Option.some.inj hj).symm; omega))
                    have HRo3 := Lib.hid (HRo.out.kept hgr3 (fun e => by have h8 := Option.some.inj e; omega) (fun e => by have h8 := Option.some.inj e; omega))
                    have hsw3 : s < w3.heap.size := by rw [hs3]; exact hsw
                    clear hrg3 hlt3 hgr3 hs3 hy hly hf3 hen
                    obtain ⟨v, hv⟩ : ∃ v, inDir x.data.toList y.data.toList = v := ⟨_, rfl⟩
                    have HPr := Lib.hid (inDir_pre HZz.out hv)
                    have HVv := Lib.hid hv
                    clear hv
                    cases v with
                    | true =>
                      have HV := Lib.hid (show n = 6 by
                        rw [← HNn.out]
                        exact sitesE_nest (by rw [HMn.out]; exact h1) (HNe.out.2 ⟨_, HXm.out, _, HYm.out, HVv.out⟩))
                      go_wp2_with (go_at_call 28; go_loud (refine (hasPrefix_v y z true _ HPr.out).mono ?_; rintro e w9 ⟨rfl, hw9⟩; subst w9))
                      go_ret
                      exact ⟨by rw [HV.out]; rfl, by rw [HK.out]; exact HB3.out⟩
                    | false =>
                      have HV3 := Lib.hid (show ∀ q ∈ unionL a b, (lI q && !(q == y.data.toList)) = false → inDir x.data.toList q = false from fun q hq h9 => by
                        rw [Bool.and_eq_false_iff, Bool.not_eq_false', beq_iff_eq] at h9
                        rcases h9 with h9 | h9
                        · exact HVj.out q hq h9
                        · rw [h9]; exact HVv.out)
                      go_wp2_with (go_at_call 28; go_loud (refine (hasPrefix_v y z false _ HPr.out).mono ?_; rintro e w9 ⟨rfl, hw9⟩; subst w9))
                      go_roundw
                      case rel => exact ⟨_, cnt3, HR3, HRo3, HV3, HB3, hsw3⟩
                      case measure => rw [HR3.out.left_eq, HRi.out.left_eq]; exact HL3.out

end Go.Proofs.YtbhildmalcfhiaaGreatDoor

namespace Go.Proofs.YtbhildmalcfhiaaGreatDoor
open Go.RowKit Go.Deep

/-- the error of a plan -/
def planE (a b : List OutV) : Int := if outsE a ≠ 0 then outsE a else if outsE b ≠ 0 then outsE b else if pagesE b ≠ 0 then pagesE b else sitesE a b
theorem planE_a {a b : List OutV} (h : outsE a ≠ 0) : planE a b = outsE a := by rw [planE, if_pos h]
theorem planE_b {a b : List OutV} (ha : outsE a = 0) (h : outsE b ≠ 0) : planE a b = outsE b := by rw [planE, if_neg (by simp [ha]), if_pos h]
theorem planE_p {a b : List OutV} (ha : outsE a = 0) (hb : outsE b = 0) (h : pagesE b ≠ 0) : planE a b = pagesE b := by rw [planE, if_neg (by simp [ha]), if_neg (by simp [hb]), if_pos h]
theorem planE_s {a b : List OutV} (ha : outsE a = 0) (hb : outsE b = 0) (h : pagesE b = 0) : planE a b = sitesE a b := by rw [planE, if_neg (by simp [ha]), if_neg (by simp [hb]), if_neg (by simp [h])]
theorem onlyA_take {a b : List OutV} {j : Nat} {x : OutV} (h : a[j]? = some x) : (onlyA (a.take (j + 1)) b).length = (onlyA (a.take j) b).length + (if outAtI b x.path.data.toList < 0 then 1 else 0) := by
  obtain ⟨hj, rfl⟩ := List.getElem?_eq_some_iff.1 h
  rw [onlyA, onlyA, List.take_succ_eq_append_getElem hj, List.filter_append, List.length_append]
  by_cases h1 : outAtI b a[j].path.data.toList < 0 <;> simp [h1]
theorem onlyA_len (a b : List OutV) : (onlyA a b).length ≤ a.length := List.length_filter_le _ _
/-- no path of b lies in or above x -/
def noneB (x : OutV) (b : List OutV) : Prop := ∀ y ∈ b, inDir x.path.data.toList y.path.data.toList = false ∧ inDir y.path.data.toList x.path.data.toList = false
theorem nestB_no {a b : List OutV} (h : ∀ x ∈ a, noneB x b) : ¬ nestB a b = true := fun h9 => by
  obtain ⟨x, hx, h9⟩ := List.any_eq_true.1 h9
  obtain ⟨y, hy, h9⟩ := List.any_eq_true.1 h9
  have := h x hx y hy
  rw [this.1, this.2] at h9; cases h9
theorem nestB_yes {a b : List OutV} {x y : OutV} (hx : x ∈ a) (hy : y ∈ b) (h : inDir x.path.data.toList y.path.data.toList = true ∨ inDir y.path.data.toList x.path.data.toList = true) : nestB a b = true :=
  List.any_eq_true.2 ⟨x, hx, List.any_eq_true.2 ⟨y, hy, by rcases h with h | h <;> rw [h] <;> simp⟩⟩

set_option maxRecDepth 100000 in
set_option maxHeartbeats 8000000 in
theorem planError_q (a b : List OutV) (va vb : Value) (n : Int) (w : World) (h : OutsAt w va a) (h2 : OutsAt w vb b) (hm : MaxT w.heap.size w) (hn : planE a b = n) :
    Calls Tryz.prog 17 #[va, vb] w fun e w' => e = .returned (.int .i64 n) ∧ Below w.heap.size w w' := by
  have HA := Lib.hid h; have HB := Lib.hid h2; have HM := Lib.hid hm
  obtain ⟨ea, hea⟩ : ∃ e, outsE a = e := ⟨_, rfl⟩
  have HEa := Lib.hid (fun w h hm => outsError_q a va ea w h hm hea)
  have HG := Lib.hid (Below.refl w.heap.size w)
  by_cases h0 : ea = 0
  · subst h0
    obtain ⟨eb, heb⟩ : ∃ e, outsE b = e := ⟨_, rfl⟩
    have HEb := Lib.hid (fun w h hm => outsError_q b vb eb w h hm heb)
    by_cases h1 : eb = 0
    · subst h1
      obtain ⟨ep, hep⟩ : ∃ e, pagesE b = e := ⟨_, rfl⟩
      have hlb := outsE_len heb
      have hla := outsE_len hea
      have hz9 : ∀ x ∈ b, x.path.size ≤ 1048576 := fun x hx => by have := path_size (outs_paths heb x hx); omega
      have HLk := Lib.hid (fun w h hm => by have := linksOfR_q b vb w h hm hz9 hlb; rw [hep] at this; exact this)
      clear hz9
      by_cases h2 : ep = 0
      · subst h2
        have HV := Lib.hid (show sitesE a b = n by rw [← hn, planE_s hea heb hep])
        have HZa := Lib.hid (fun x hx => path_size (outs_paths hea x hx))
        have HZb := Lib.hid (fun x hx => path_size (outs_paths heb x hx))
        obtain ⟨Aa, ca, ba, oa, rfl, hca, hcam, hAa, hcella⟩ := h
        obtain ⟨Ab, cb, bb, ob, rfl, hcb, hcbm, hAb, hcellb⟩ := h2
        have HCa := Lib.hid hcella; have HCb := Lib.hid hcellb; have HAa := Lib.hid hAa; have HAb := Lib.hid hAb
        obtain ⟨la, hla2⟩ : ∃ x, a.length = x := ⟨_, rfl⟩
        obtain ⟨lb, hlb2⟩ : ∃ x, b.length = x := ⟨_, rfl⟩
        rw [hla2] at hla hca HA HEa
        rw [hlb2] at hlb hcb HB HEb HLk
        rw [hla2, hlb2]
        have HLa := Lib.hid hla2
        have HLb := Lib.hid hlb2
        unfold maxLen at hcam hcbm
        clear hn hea heb hep hcella hcellb hAa hAb hm hla2 hlb2
        go_enter Tryz.func17, Tryz.ntmps17
        go_upto_region 4 with (go_at_call 10; go_loud (refine (HEa.out _ (HA.out.keep (Keeps.of_below HG.out)) (HM.out.at_.keep (Keeps.of_below HG.out))).mono ?_; rintro e w1 ⟨rfl, hb⟩; replace HG := Lib.hid (HG.out.trans (hb.mono HG.out.size)); clear hb))
        clear HEa
        go_upto_region 7 with (go_at_call 10; go_loud (refine (HEb.out _ (HB.out.keep (Keeps.of_below HG.out)) (HM.out.at_.keep (Keeps.of_below HG.out))).mono ?_; rintro e w1 ⟨rfl, hb⟩; replace HG := Lib.hid (HG.out.trans (hb.mono HG.out.size)); clear hb))
        clear HEb
        go_wp2_with (go_at_call 11; go_loud (refine (HLk.out _ (HB.out.keep (Keeps.of_below HG.out)) ((HM.out.keep HG.out).up HG.out.size)).mono ?_; rintro e w2 ⟨A9, c9, rfl, _, hb⟩; replace HG := Lib.hid (HG.out.trans (hb.mono HG.out.size)); clear hb))
        clear HLk
        go_loopw [9, 38] (fun t9 t38 wr => ∃ (j m : Nat), j ≤ la ∧ t38 = .int .i64 j ∧ t9 = .int .i64 (m : Int) ∧ m ≤ 960 ∧ Hid (m = lb + (onlyA (a.take j) b).length) ∧ Hid (Below w.heap.size w wr)) (fun _ t _ => la - (intOf t).toNat)
        case atStart => exact ⟨0, lb, Nat.zero_le _, rfl, rfl, by omega, rfl, HG⟩
        case round =>
          clear HG
          obtain ⟨j, m, hj, rfl, rfl, hm9, HMm, HG⟩ := hrel
          obtain ⟨wo, rfl⟩ : ∃ wo : World, wo = wr := ⟨_, rfl⟩
          have hwo := HG.out.size
          by_cases hlt : j < la
          · obtain ⟨x, hx⟩ : ∃ x, a[j]? = some x := ⟨_, List.getElem?_eq_getElem (by rw [HLa.out]; exact hlt)⟩
            obtain rfl := HAa.out (by intro h0; rw [h0] at hx; simp at hx)
            have kc := (HCa.out j x hx).keep (Keeps.of_below HG.out)
            have k0 := kc.c0
            have k1 := kc.c1
            have HO2 := Lib.hid (onlyA_take (b := b) hx)
            have hon := onlyA_len (a.take (j + 1)) b
            rw [List.length_take] at hon
            have hlt2 : (j : Int) < (la : Int) := by omega
            obtain ⟨v, hv⟩ : ∃ v, outAtI b x.path.data.toList = v := ⟨_, rfl⟩
            have HOa := Lib.hid (fun w h => outAt_q b (.slice Ab lb cb) x.path v w h hv)
            rw [hv] at HO2
            clear hv hx kc
            by_cases hv0 : v < 0
            · rw [if_pos hv0] at HO2
              have hm1 : m + 1 ≤ 960 := by have := HMm.out; have := HO2.out; omega
              go_wp2_with (go_at_call 42; go_loud (refine (HOa.out _ (HB.out.keep (Keeps.of_below (HG.out.alloc hwo _)))).mono ?_; rintro e w2 ⟨rfl, hb⟩; have HG2 := Lib.hid ((HG.out.alloc hwo _).trans (hb.mono (by simp; omega))); clear hb))
              go_roundw
              case rel => exact ⟨j + 1, m + 1, by omega, by go_num, rfl, hm1, Lib.hid (by rw [HO2.out, HMm.out]; omega), HG2⟩
              case measure => simp [intOf]; omega
            · rw [if_neg hv0] at HO2
              go_wp2_with (go_at_call 42; go_loud (refine (HOa.out _ (HB.out.keep (Keeps.of_below (HG.out.alloc hwo _)))).mono ?_; rintro e w2 ⟨rfl, hb⟩; have HG2 := Lib.hid ((HG.out.alloc hwo _).trans (hb.mono (by simp; omega))); clear hb))
              go_roundw
              case rel => exact ⟨j + 1, m, by omega, by go_num, rfl, hm9, Lib.hid (by rw [HO2.out, HMm.out]; omega), HG2⟩
              case measure => simp [intOf]; omega
          · have hje : j = la := by omega
            have hlt2 : ¬ (j : Int) < (la : Int) := by omega
            have HMn := Lib.hid (show manyN a b = m by rw [HMm.out, manyN, HLb.out, List.take_of_length_le (by rw [HLa.out]; omega)])
            clear hje
            by_cases h4 : 480 < m
            · have h4i : (480 : Int) < (m : Int) := by omega
              have HN := Lib.hid (show n = 4 by rw [← HV.out]; exact sitesE_large (by rw [HMn.out]; exact h4))
              go_wp2_with fail
              go_ret
              exact ⟨by rw [HN.out]; rfl, HG.out⟩
            · have h4i : ¬ (480 : Int) < (m : Int) := by omega
              go_wp2_with fail
              go_loopw [54] (fun t54 wr => ∃ j : Nat, j ≤ la ∧ t54 = .int .i64 j ∧ Hid (∀ (i : Nat) (x : OutV), i < j → a[i]? = some x → noneB x b) ∧ Hid (Below w.heap.size w wr)) (fun t _ => la - (intOf t).toNat)
              case atStart => exact ⟨0, Nat.zero_le _, rfl, (fun i x hi => absurd hi (by omega)), HG⟩
              case round =>
                clear HG HMm hwo
                clear wo
                obtain ⟨j, hj, rfl, HNo, HG⟩ := hrel
                obtain ⟨wo, rfl⟩ : ∃ wo : World, wo = wr := ⟨_, rfl⟩
                have hwo := HG.out.size
                by_cases hlt : j < la
                · obtain ⟨x, hx⟩ : ∃ x, a[j]? = some x := ⟨_, List.getElem?_eq_getElem (by rw [HLa.out]; exact hlt)⟩
                  obtain rfl := HAa.out (by intro h0; rw [h0] at hx; simp at hx)
                  have kc := (HCa.out j x hx).keep (Keeps.of_below HG.out)
                  have k0 := kc.c0
                  have k1 := kc.c1
                  have hlt2 : (j : Int) < (la : Int) := by omega
                  have HXm := Lib.hid (List.mem_of_getElem? hx)
                  have hxz := HZa.out x HXm.out
                  have HXj := Lib.hid hx
                  have HT0 := Lib.hid (CB.new wo #[.string x.path, .string x.body] 62)
                  have HG0 := Lib.hid (HG.out.alloc hwo (.cells #[.string x.path, .string x.body] 62))
                  obtain ⟨T, hT⟩ : ∃ T, wo.heap.size = T := ⟨_, rfl⟩
                  rw [hT] at HT0
                  clear hx kc
                  go_wp2_with fail
                  clear hT
                  go_loopw [60] (fun t60 wr => ∃ k : Nat, k ≤ lb ∧ t60 = .int .i64 k ∧ Hid (∀ (i : Nat) (y : OutV), i < k → b[i]? = some y → inDir x.path.data.toList y.path.data.toList = false ∧ inDir y.path.data.toList x.path.data.toList = false) ∧ Hid (CB wr T 62 #[.string x.path, .string x.body]) ∧ Hid (Below w.heap.size w wr)) (fun t _ => lb - (intOf t).toNat)
                  case atStart => exact ⟨0, Nat.zero_le _, rfl, (fun i y hi => absurd hi (by omega)), HT0, HG0⟩
                  case round =>
                    clear HT0 HG0 HG hwo k0 k1
                    obtain ⟨k, hk, rfl, HNi, HT, HG⟩ := hrel
                    obtain ⟨wx, rfl⟩ : ∃ wo : World, wo = wr := ⟨_, rfl⟩
                    have hwx := HG.out.size
                    by_cases hkt : k < lb
                    · obtain ⟨y, hy⟩ : ∃ y, b[k]? = some y := ⟨_, List.getElem?_eq_getElem (by rw [HLb.out]; exact hkt)⟩
                      obtain rfl := HAb.out (by intro h0; rw [h0] at hy; simp at hy)
                      have kc := (HCb.out k y hy).keep (Keeps.of_below HG.out)
                      have k0 := kc.c0
                      have k1 := kc.c1
                      have hkt2 : (k : Int) < (lb : Int) := by omega
                      have HYm := Lib.hid (List.mem_of_getElem? hy)
                      have hyz := HZb.out y HYm.out
                      have HYk := Lib.hid hy
                      have c0 : wx.cell? ⟨T, 0, none⟩ = some (.string x.path) := HT.out.c 0
                      have hTl := HT.out.lt
                      obtain ⟨z1, hz1⟩ : ∃ z, x.path ++ (⟨#[47]⟩ : ByteArray) = z := ⟨_, rfl⟩
                      obtain ⟨z2, hz2⟩ : ∃ z, y.path ++ (⟨#[47]⟩ : ByteArray) = z := ⟨_, rfl⟩
                      have hq1 : x.path.size + 1 ≤ 9223372036854775807 := by omega
                      have hq2 : y.path.size + 1 ≤ 9223372036854775807 := by omega
                      obtain ⟨v1, hv1⟩ : ∃ v, inDir x.path.data.toList y.path.data.toList = v := ⟨_, rfl⟩
                      obtain ⟨v2, hv2⟩ : ∃ v, inDir y.path.data.toList x.path.data.toList = v := ⟨_, rfl⟩
                      have HP1 := Lib.hid (inDir_pre hz1 hv1)
                      have HP2 := Lib.hid (inDir_pre hz2 hv2)
                      have HV1 := Lib.hid hv1; have HV2 := Lib.hid hv2
                      have HGx := Lib.hid (HG.out.alloc hwx (.cells #[.string y.path, .string y.body] 62))
                      clear hv1 hv2 hy kc
                      cases v1 with
                      | true =>
                        have HN := Lib.hid (show n = 6 by rw [← HV.out]; exact sitesE_nest (by rw [HMn.out]; exact h4) (nestB_yes HXm.out HYm.out (Or.inl HV1.out)))
                        go_wp2_with (go_at_call 28; go_loud (refine (hasPrefix_v y.path z1 true _ HP1.out).mono ?_; rintro e w9 ⟨rfl, hw9⟩; subst w9))
                        go_ret
                        exact ⟨by rw [HN.out]; rfl, HGx.out⟩
                      | false =>
                        cases v2 with
                        | true =>
                          have HN := Lib.hid (show n = 6 by rw [← HV.out]; exact sitesE_nest (by rw [HMn.out]; exact h4) (nestB_yes HXm.out HYm.out (Or.inr HV2.out)))
                          have HBoth := Lib.hid (fun (p q : ByteArray) (v : Bool) (w : World) (hv : Lib.hasPrefix p.data.toList q.data.toList = v) => hasPrefix_v p q v w hv)
                          go_wp2_with (first | (go_at_call 28; go_loud (refine (by first | with_reducible exact hasPrefix_v y.path z1 false _ HP1.out | with_reducible exact hasPrefix_v x.path z2 true _ HP2.out : Calls _ _ _ _ _).mono ?_; rintro e w9 ⟨rfl, hw9⟩; subst w9)))
                          go_ret
                          exact ⟨by rw [HN.out]; rfl, HGx.out⟩
                        | false =>
                          have HNi2 := Lib.hid (show ∀ (i : Nat) (y : OutV), i < k + 1 → b[i]? = some y → inDir x.path.data.toList y.path.data.toList = false ∧ inDir y.path.data.toList x.path.data.toList = false from fun i y9 hi hy9 => by
                            by_cases e : i = k
                            · subst e; rw [HYk.out] at hy9; cases hy9; exact ⟨HV1.out, HV2.out⟩
                            · exact HNi.out i y9 (by omega) hy9)
                          go_wp2_with (first | (go_at_call 28; go_loud (refine (by first | with_reducible exact hasPrefix_v y.path z1 false _ HP1.out | with_reducible exact hasPrefix_v x.path z2 false _ HP2.out : Calls _ _ _ _ _).mono ?_; rintro e w9 ⟨rfl, hw9⟩; subst w9)))
                          go_roundw
                          case rel => exact ⟨k + 1, by omega, by go_num, HNi2, HT.out.alloc _, HGx⟩
                          case measure => simp [intOf]; omega
                    · have HNo2 := Lib.hid (show ∀ (i : Nat) (x : OutV), i < j + 1 → a[i]? = some x → noneB x b from fun i x9 hi hx9 => by
                        by_cases e : i = j
                        · subst e
                          rw [HXj.out] at hx9; cases hx9
                          intro y9 hy9
                          obtain ⟨i9, hi9⟩ := List.mem_iff_getElem?.1 hy9
                          exact HNi.out i9 y9 (by have := (List.getElem?_eq_some_iff.1 hi9).1; have := HLb.out; omega) hi9
                        · exact HNo.out i x9 (by omega) hx9)
                      have hkt2 : ¬ (k : Int) < (lb : Int) := by omega
                      go_wp2_with fail
                      go_roundw
                      case rel => exact ⟨j + 1, by omega, by go_num, HNo2, HG⟩
                      case measure => simp [intOf]; omega
                · have hlt2 : ¬ (j : Int) < (la : Int) := by omega
                  have HN := Lib.hid (show n = 0 by
                    rw [← HV.out]
                    refine sitesE_ok (by rw [HMn.out]; exact h4) (nestB_no fun x hx => ?_)
                    obtain ⟨i9, hi9⟩ := List.mem_iff_getElem?.1 hx
                    exact HNo.out i9 x (by have := (List.getElem?_eq_some_iff.1 hi9).1; have := HLa.out; omega) hi9)
                  go_wp2_with fail
                  go_ret
                  exact ⟨by rw [HN.out]; rfl, HG.out⟩
      · have HN := Lib.hid (show n = ep by rw [← hn, planE_p hea heb (by rw [hep]; exact h2), hep])
        have e0 : (ep == 0) = false := beq_eq_false_iff_ne.2 h2
        have e1 : (ep != 0) = true := by rw [bne, e0]; rfl
        clear hn hea heb hep h2 hm
        go_enter Tryz.func17, Tryz.ntmps17
        go_upto_region 4 with (go_at_call 10; go_loud (refine (HEa.out _ (HA.out.keep (Keeps.of_below HG.out)) (HM.out.at_.keep (Keeps.of_below HG.out))).mono ?_; rintro e w1 ⟨rfl, hb⟩; replace HG := Lib.hid (HG.out.trans (hb.mono HG.out.size)); clear hb))
        clear HEa
        go_upto_region 7 with (go_at_call 10; go_loud (refine (HEb.out _ (HB.out.keep (Keeps.of_below HG.out)) (HM.out.at_.keep (Keeps.of_below HG.out))).mono ?_; rintro e w1 ⟨rfl, hb⟩; replace HG := Lib.hid (HG.out.trans (hb.mono HG.out.size)); clear hb))
        clear HEb
        go_wp2_with (go_at_call 11; go_loud (refine (HLk.out _ (HB.out.keep (Keeps.of_below HG.out)) ((HM.out.keep HG.out).up HG.out.size)).mono ?_; rintro e w2 ⟨A9, c9, rfl, _, hb⟩; replace HG := Lib.hid (HG.out.trans (hb.mono HG.out.size)); clear hb))
        go_ret
        exact ⟨by rw [HN.out]; rfl, HG.out⟩
    · have HN := Lib.hid (show n = eb by rw [← hn, planE_b hea (by rw [heb]; exact h1), heb])
      have e0 : (eb == 0) = false := beq_eq_false_iff_ne.2 h1
      have e1 : (eb != 0) = true := by rw [bne, e0]; rfl
      clear hn hea heb h1 hm h h2
      go_enter Tryz.func17, Tryz.ntmps17
      go_upto_region 4 with (go_at_call 10; go_loud (refine (HEa.out _ (HA.out.keep (Keeps.of_below HG.out)) (HM.out.at_.keep (Keeps.of_below HG.out))).mono ?_; rintro e w1 ⟨rfl, hb⟩; replace HG := Lib.hid (HG.out.trans (hb.mono HG.out.size)); clear hb))
      clear HEa
      go_wp2_with (go_at_call 10; go_loud (refine (HEb.out _ (HB.out.keep (Keeps.of_below HG.out)) (HM.out.at_.keep (Keeps.of_below HG.out))).mono ?_; rintro e w1 ⟨rfl, hb⟩; replace HG := Lib.hid (HG.out.trans (hb.mono HG.out.size)); clear hb))
      go_ret
      exact ⟨by rw [HN.out]; rfl, HG.out⟩
  · have HN := Lib.hid (show n = ea by rw [← hn, planE_a (by rw [hea]; exact h0), hea])
    have e0 : (ea == 0) = false := beq_eq_false_iff_ne.2 h0
    have e1 : (ea != 0) = true := by rw [bne, e0]; rfl
    clear hn hea h0 hm h h2
    go_enter Tryz.func17, Tryz.ntmps17
    go_wp2_with (go_at_call 10; go_loud (refine (HEa.out _ (HA.out.keep (Keeps.of_below HG.out)) (HM.out.at_.keep (Keeps.of_below HG.out))).mono ?_; rintro e w1 ⟨rfl, hb⟩; replace HG := Lib.hid (HG.out.trans (hb.mono HG.out.size)); clear hb))
    go_ret
    exact ⟨by rw [HN.out]; rfl, HG.out⟩

end Go.Proofs.YtbhildmalcfhiaaGreatDoor

namespace Go.Proofs.YtbhildmalcfhiaaGreatDoor
open Go.RowKit Go.Deep

/-- what an output of the new site is: 0: as it was; 1: a file; 2: a changed page; 3: a new page -/
def kindP (a : List OutV) (x : OutV) : Nat := match bodyP a x.path.data.toList with
  | none => if pageB x.path = true then 3 else 1
  | some y => if str0 y = x.body then 0 else if pageB x.path = true then 2 else 1
theorem kindP_none {a : List OutV} {x : OutV} (h : bodyP a x.path.data.toList = none) : kindP a x = if pageB x.path = true then 3 else 1 := by rw [kindP, h]
theorem kindP_same {a : List OutV} {x : OutV} {y : List UInt8} (h : bodyP a x.path.data.toList = some y) (h2 : str0 y = x.body) : kindP a x = 0 := by rw [kindP, h]; simp [h2]
theorem kindP_diff {a : List OutV} {x : OutV} {y : List UInt8} (h : bodyP a x.path.data.toList = some y) (h2 : str0 y ≠ x.body) : kindP a x = if pageB x.path = true then 2 else 1 := by rw [kindP, h]; simp [h2]
/-- the first j of a kind -/
def upK (a b : List OutV) (k j : Nat) : List OutV := (b.take j).filter fun x => kindP a x == k
theorem upK_yes {a b : List OutV} {k j : Nat} {x : OutV} (h : b[j]? = some x) (hk : kindP a x = k) : upK a b k (j + 1) = upK a b k j ++ [x] := by
  obtain ⟨hj, rfl⟩ := List.getElem?_eq_some_iff.1 h
  rw [upK, upK, List.take_succ_eq_append_getElem hj, List.filter_append]
  simp [hk]
theorem upK_no {a b : List OutV} {k j : Nat} {x : OutV} (h : b[j]? = some x) (hk : kindP a x ≠ k) : upK a b k (j + 1) = upK a b k j := by
  obtain ⟨hj, rfl⟩ := List.getElem?_eq_some_iff.1 h
  rw [upK, upK, List.take_succ_eq_append_getElem hj, List.filter_append]
  simp [hk]
/-- the new pages, as an array that is filled -/
def freshUp (a b : List OutV) (j : Nat) : List Bool := ((b.take j).map fun x => kindP a x == 3) ++ List.replicate (b.length - j) false
theorem freshUp_zero (a b : List OutV) : freshUp a b 0 = List.replicate b.length false := by simp [freshUp]
theorem freshUp_len {a b : List OutV} {j : Nat} (h : j ≤ b.length) : (freshUp a b j).length = b.length := by simp [freshUp]; omega
theorem freshUp_no {a b : List OutV} {j : Nat} {x : OutV} (h : b[j]? = some x) (hk : kindP a x ≠ 3) : freshUp a b (j + 1) = freshUp a b j := by
  obtain ⟨hj, rfl⟩ := List.getElem?_eq_some_iff.1 h
  rw [freshUp, freshUp, List.take_succ_eq_append_getElem hj, List.map_append, List.append_assoc]
  congr 1
  rw [show b.length - j = (b.length - (j + 1)) + 1 by omega, List.replicate_succ]
  simp [hk]
theorem freshUp_yes {a b : List OutV} {j : Nat} {x : OutV} (h : b[j]? = some x) (hk : kindP a x = 3) : freshUp a b (j + 1) = (freshUp a b j).set j true := by
  obtain ⟨hj, rfl⟩ := List.getElem?_eq_some_iff.1 h
  rw [freshUp, freshUp, List.take_succ_eq_append_getElem hj, List.map_append, List.append_assoc]
  rw [show b.length - j = (b.length - (j + 1)) + 1 by omega, List.replicate_succ, List.set_append_right _ _ (by simp; omega)]
  congr 1
  simp [hk]
  rw [show j - min j b.length = 0 by omega]
  rfl
def freshL (a b : List OutV) : List Bool := b.map fun x => kindP a x == 3
theorem freshUp_all (a b : List OutV) : freshUp a b b.length = freshL a b := by simp [freshUp, freshL]
/-- the places of the changed pages -/
def chI (a b : List OutV) (j : Nat) : List Nat := (List.range j).filter fun i => (b[i]?).map (kindP a) == some 2
theorem chI_yes {a b : List OutV} {j : Nat} {x : OutV} (h : b[j]? = some x) (hk : kindP a x = 2) : chI a b (j + 1) = chI a b j ++ [j] := by
  rw [chI, chI, List.range_succ, List.filter_append]; simp [h, hk]
theorem chI_no {a b : List OutV} {j : Nat} {x : OutV} (h : b[j]? = some x) (hk : kindP a x ≠ 2) : chI a b (j + 1) = chI a b j := by
  rw [chI, chI, List.range_succ, List.filter_append]; simp [h, hk]
theorem chI_pick (a b : List OutV) : ∀ j, j ≤ b.length → (chI a b j).filterMap (b[·]?) = upK a b 2 j
  | 0, _ => rfl
  | j + 1, h => by
    have ih := chI_pick a b j (by omega)
    have hx : b[j]? = some b[j] := List.getElem?_eq_getElem (by omega)
    by_cases hk : kindP a b[j] = 2
    · rw [chI_yes hx hk, upK_yes hx hk, List.filterMap_append, ih]; simp [hx]
    · rw [chI_no hx hk, upK_no hx hk, ih]
theorem chI_lt {a b : List OutV} {j i : Nat} (h : i ∈ chI a b j) : i < j := by
  rw [chI, List.mem_filter, List.mem_range] at h; exact h.1
/-- the steps of the changed pages -/
def chS (b : List OutV) (is : List Nat) : List StepR := is.filterMap fun i => (b[i]?).map fun x => ⟨false, [x]⟩
theorem chS_take {b : List OutV} {is : List Nat} {p i : Nat} {x : OutV} (h : is[p]? = some i) (hx : b[i]? = some x) : chS b (is.take (p + 1)) = chS b (is.take p) ++ [⟨false, [x]⟩] := by
  obtain ⟨hp, rfl⟩ := List.getElem?_eq_some_iff.1 h
  rw [chS, chS, List.take_succ_eq_append_getElem hp, List.filterMap_append]
  simp [hx]
theorem chS_all (a b : List OutV) : chS b (chI a b b.length) = (upK a b 2 b.length).map (fun x => ⟨false, [x]⟩) := by
  rw [← chI_pick a b b.length (Nat.le_refl _), List.map_filterMap]; rfl
/-- the outputs that go -/
def goneG (a b : List OutV) (p : Bool) (j : Nat) : List OutV := ((a.take j).filter fun x => decide (outAtI b x.path.data.toList < 0) && (pageB x.path == p)).map fun x => ⟨x.path, ⟨#[]⟩⟩
theorem goneG_yes {a b : List OutV} {p : Bool} {j : Nat} {x : OutV} (h : a[j]? = some x) (h1 : outAtI b x.path.data.toList < 0) (h2 : pageB x.path = p) : goneG a b p (j + 1) = goneG a b p j ++ [⟨x.path, ⟨#[]⟩⟩] := by
  obtain ⟨hj, rfl⟩ := List.getElem?_eq_some_iff.1 h
  rw [goneG, goneG, List.take_succ_eq_append_getElem hj, List.filter_append, List.map_append]
  simp [h1, h2]
theorem goneG_no {a b : List OutV} {p : Bool} {j : Nat} {x : OutV} (h : a[j]? = some x) (h1 : ¬ outAtI b x.path.data.toList < 0 ∨ pageB x.path ≠ p) : goneG a b p (j + 1) = goneG a b p j := by
  obtain ⟨hj, rfl⟩ := List.getElem?_eq_some_iff.1 h
  rw [goneG, goneG, List.take_succ_eq_append_getElem hj, List.filter_append, List.map_append]
  rcases h1 with h1 | h1
  · simp [h1]
  · simp [h1]
/-- a step, if there is anything in it -/
def oneS (r : Bool) (l : List OutV) : List StepR := if l.length = 0 then [] else [⟨r, l⟩]
theorem oneS_no {r : Bool} {l : List OutV} (h : l.length = 0) : oneS r l = [] := by rw [oneS, if_pos h]
theorem oneS_yes {r : Bool} {l : List OutV} (h : ¬ l.length = 0) : oneS r l = [⟨r, l⟩] := by rw [oneS, if_neg h]
/-- the steps of a plan -/
def planL (a b : List OutV) (Cs : List (List Nat)) : List StepR :=
  oneS false (upK a b 1 b.length) ++ stepsOf b Cs ++ (upK a b 2 b.length).map (fun x => ⟨false, [x]⟩) ++ oneS true (goneG a b true a.length) ++ oneS true (goneG a b false a.length)
theorem StepsOwn.join {w w' : World} {B : Nat} {v u : Value} {L M : List (StepR × Value)} {A : Option Addr} {c : Nat} (h : StepsOwn w B v L) (hu : StepsOwn w B u M) (ho : w'.ownsRow B 86 2 (.slice A (L.length + M.length) c) (L.length + M.length) (stepsC L ++ stepsC M)) (hg : w.grownBy w' v.ownBlock) :
    StepsOwn w' B (.slice A (L ++ M).length c) (L ++ M) := by
  have keep : ∀ {u : Value} {n : Nat} {xs : List Value}, w.ownsRow B 62 2 u n xs → w'.ownsRow B 62 2 u n xs := fun hu =>
    own_keepX hu (GrownX.of_grown (p := fun x => v.ownBlock = some x) hg (fun _ e => e)) (fun b hb hpb => by
      obtain ⟨cs, hc⟩ := own_type hu hb
      obtain ⟨cs2, hc2⟩ := own_type h.row hpb
      have h9 := hc.symm.trans hc2
      simp at h9)
  refine ⟨by rw [List.length_append, show stepsC (L ++ M) = stepsC L ++ stepsC M by simp [stepsC]]; exact ho, fun y hy => ?_⟩
  rcases List.mem_append.1 hy with hy | hy
  · exact keep (h.file y hy)
  · exact keep (hu.file y hy)
theorem stepsC_one (L : List (StepR × Value)) {w : World} {B : Nat} {v : Value} (h : StepsOwn w B v L) : ∀ y ∈ stepsC L, y.oneCell' = true := by
  intro y hy
  obtain ⟨x, hx, hy⟩ := List.mem_flatMap.1 hy
  simp only [stepRow, List.mem_cons, List.not_mem_nil, or_false] at hy
  rcases hy with rfl | rfl
  · rfl
  · obtain ⟨A, c, hv, _⟩ := own_form (h.file x hx)
    rw [hv]; rfl
theorem own_fresh2 (w : World) (e : TypeId) (x y : Value) : (w.alloc (.cells #[x, y] e)).ownsRow w.heap.size e 2 (.slice (some ⟨w.heap.size, 0, none⟩) 1 1) 1 [x, y] :=
  ⟨rfl, Or.inr ⟨w.heap.size, 1, #[x, y], rfl, Nat.le_refl _, CB.new _ _ _, Nat.le_refl _, by simp [maxLen], rfl, rfl⟩⟩

end Go.Proofs.YtbhildmalcfhiaaGreatDoor

namespace Go.Proofs.YtbhildmalcfhiaaGreatDoor
open Go.RowKit Go.ChangeShapes Go.WideShapes Go.Deep

def PlanOfPost (a b : List OutV) (w : World) (e : Ending) (w' : World) : Prop :=
  ∃ (v : Value) (L : List (StepR × Value)) (Cs : List (List Nat)), e = .returned v ∧ StepsOwn w' w.heap.size v L ∧ L.map (·.1) = planL a b Cs ∧ StepsC (fun k => rowOf b (allLinks b) k) (fun k => (freshL a b).getD k false) Cs ∧ L.length ≤ 1500 ∧ Below w.heap.size w w'

set_option maxRecDepth 100000 in
set_option maxHeartbeats 16000000 in
theorem planOf_q (a b : List OutV) (va vb : Value) (w : World) (h : OutsAt w va a) (h2 : OutsAt w vb b) (hm : MaxT w.heap.size w) (ha : outsE a = 0) (hb : outsE b = 0) (hp : pagesE b = 0) :
    Calls Tryz.prog 19 #[va, vb] w (PlanOfPost a b w) := by
  have hla := outsE_len ha
  have hlb := outsE_len hb
  have HZa := Lib.hid (outs_paths ha); have HZb := Lib.hid (outs_paths hb); have HPb := Lib.hid hp
  have HA := Lib.hid h; have HB := Lib.hid h2; have HM := Lib.hid hm
  obtain ⟨Aa, ca, ba, oa, rfl, hca, hcam, hAa, hcella⟩ := h
  obtain ⟨Ab, cb, bb, ob, rfl, hcb, hcbm, hAb, hcellb⟩ := h2
  have HCa := Lib.hid hcella; have HCb := Lib.hid hcellb; have HAa := Lib.hid hAa; have HAb := Lib.hid hAb
  obtain ⟨la, hla2⟩ : ∃ x, a.length = x := ⟨_, rfl⟩
  obtain ⟨lb, hlb2⟩ : ∃ x, b.length = x := ⟨_, rfl⟩
  rw [hla2] at hla hca HA
  rw [hlb2] at hlb hcb HB
  rw [hla2, hlb2]
  have HLa := Lib.hid hla2
  have HLb := Lib.hid hlb2
  unfold maxLen at hcam hcbm
  obtain ⟨K, hK⟩ : ∃ K, w.heap.size = K := ⟨_, rfl⟩
  have HK := Lib.hid hK
  obtain ⟨i0, hi0, hz0, hz1, hz2⟩ := info_parts info_boolC
  clear hcella hcellb hAa hAb hm hla2 hlb2 ha hb hp
  go_enter Tryz.func19, Tryz.ntmps19
  go_upto_region 3 with (at_make; go_must (refine wpList_make_full _ rfl _ _ 90 rfl K 4 i0 (.bool false) 1 Tryz.underlying90 hi0 hz0 hz1 .i64 .i64 _ _ lb rfl rfl rfl rfl (by rw [hz2]; omega) (by unfold maxLen; omega) (by omega) ?_); intro w6 own6 hg6; rw [hK] at own6; rw [hK]; have HO6 := Lib.hid own6; have HG := Lib.hid (show Below K w w6 from (Below.refl K w).grown hg6 (by omega) (fun k hk => by cases hk)); clear own6 hg6)
  have HF0 := Lib.hid (show CB w6 K 4 (boC (freshUp a b 0)) by
    have := own_blockB HO6.out
    rw [Nat.mul_one, show (madeCells (Value.bool false).cells lb).toList = (boC (List.replicate lb false)).toList from by rw [← boC_zero]; rfl] at this
    rw [freshUp_zero, HLb.out]
    exact this)
  have hKw0 : K ≤ w6.heap.size := by have := HG.out.size; omega
  have HKa := Lib.hid (show ∀ wr, Below K w wr → OutsAt wr (.slice Aa la ca) a from fun wr hb => by rw [← hK] at hb; exact HA.out.keep (Keeps.of_below hb))
  have HKb := Lib.hid (show ∀ wr, Below K w wr → OutsAt wr (.slice Ab lb cb) b from fun wr hb => by rw [← hK] at hb; exact HB.out.keep (Keeps.of_below hb))
  have HKe := Lib.hid (show ∀ wr, Below K w wr → Keeps w wr from fun wr hb => by rw [← hK] at hb; exact Keeps.of_below hb)
  clear HO6 hi0 hz0 hz1 hz2 hK
  go_wp2_with fail
  go_loopw [5, 9, 26] (fun t5 t9 t26 wr => ∃ (j : Nat) (Af Ac : Option Addr) (qf cf qc cc : Nat), j ≤ lb ∧ t26 = .int .i64 j ∧ t5 = .slice Af qf cf ∧ t9 = .slice Ac qc cc ∧ qf ≤ j ∧ qc ≤ j ∧ Hid ((upK a b 1 j).length = qf) ∧ Hid ((chI a b j).length = qc) ∧ Hid (wr.ownsRow K 62 2 (.slice Af qf cf) qf (outsC (upK a b 1 j))) ∧ Hid (wr.ownsRow K 3 1 (.slice Ac qc cc) qc (intsV (chI a b j))) ∧ Hid (CB wr K 4 (boC (freshUp a b j))) ∧ Hid (Below K w wr) ∧ K ≤ wr.heap.size) (fun _ _ t _ => lb - (intOf t).toNat)
  case atStart => exact ⟨0, none, none, 0, 0, 0, 0, Nat.zero_le _, rfl, rfl, rfl, Nat.le_refl _, Nat.le_refl _, rfl, rfl, World.ownsRow_nil _ _ _ _, World.ownsRow_nil _ _ _ _, HF0, HG, hKw0⟩
  case round =>
    clear HF0 HG hKw0
    obtain ⟨j, Af, Ac, qf, cf, qc, cc, hj, rfl, rfl, rfl, hqf, hqc, HLf, HLc, HFi, HCh, HFr, HG, hKw⟩ := hrel
    obtain ⟨wo, rfl⟩ : ∃ wo : World, wo = wr := ⟨_, rfl⟩
    by_cases hlt : j < lb
    · obtain ⟨x, hx⟩ : ∃ x, b[j]? = some x := ⟨_, List.getElem?_eq_getElem (by rw [HLb.out]; exact hlt)⟩
      obtain rfl := HAb.out (by intro h0; rw [h0] at hx; simp at hx)
      have kc := (HCb.out j x hx).keep (HKe.out _ HG.out)
      have k0 := kc.c0
      have k1 := kc.c1
      have hlt2 : (j : Int) < (lb : Int) := by omega
      have HUy := Lib.hid (fun k hk => upK_yes (a := a) (k := k) hx hk); have HUn := Lib.hid (fun k hk => upK_no (a := a) (k := k) hx hk)
      have HCy := Lib.hid (fun hk => chI_yes (a := a) hx hk); have HCn := Lib.hid (fun hk => chI_no (a := a) hx hk)
      have HFy := Lib.hid (fun hk => freshUp_yes (a := a) hx hk); have HFn := Lib.hid (fun hk => freshUp_no (a := a) hx hk)
      have hxz := path_size (HZb.out x (List.mem_of_getElem? hx))
      have HKd := Lib.hid (fun h => kindP_none (a := a) (x := x) h)
      have HKs := Lib.hid (fun y h h2 => kindP_same (a := a) (x := x) (y := y) h h2)
      have HKf := Lib.hid (fun y h h2 => kindP_diff (a := a) (x := x) (y := y) h h2)
      have HFl := Lib.hid (freshUp_len (a := a) (b := b) (j := j) (by rw [HLb.out]; exact hj))
      have HBo0 := Lib.hid (fun w h => bodyOf_q a (.slice Aa la ca) x.path w h)
      clear hx kc
      obtain ⟨kd, hkd⟩ : ∃ k, kindP a x = k := ⟨_, rfl⟩
      obtain ⟨pg, hpg⟩ : ∃ v, pageB x.path = v := ⟨_, rfl⟩
      obtain ⟨xp, xb⟩ := x
      simp only at k0 k1 hxz HKd HKs HKf HBo0 hpg
      rw [hkd] at HUy HUn HCy HCn HFy HFn HKd HKs HKf
      rw [hpg] at HKd HKf
      have HPg := Lib.hid (fun w => isPageR_q xp xb pg w (by omega) hpg)
      have HT := Lib.hid (CB.new wo #[.string xp, .string xb] 62)
      have hao := (Below.refl wo.heap.size wo).alloc (Nat.le_refl _) (.cells #[.string xp, .string xb] 62)
      obtain ⟨T, hT⟩ : ∃ T, wo.heap.size = T := ⟨_, rfl⟩
      rw [hT] at HT
      replace HG := Lib.hid (HG.out.trans (hao.mono hKw))
      replace HFi := Lib.hid (own_stay HFi.out hao); replace HCh := Lib.hid (own_stay HCh.out hao); replace HFr := Lib.hid (HFr.out.below hao)
      replace hKw := Nat.le_trans hKw hao.size
      clear hkd hpg hao
      cases hbo : bodyP a xp.data.toList with
      | none =>
        have HBo := Lib.hid (fun w h => by have := HBo0.out w h; rw [hbo] at this; exact (this.mono fun e w' h9 => (⟨h9.1, h9.2⟩ : e = .returned (.tuple #[.string ⟨#[]⟩, .bool false]) ∧ Below w.heap.size w w')))
        have hk9 := HKd.out hbo
        cases pg with
        | true =>
          obtain rfl : kd = 3 := hk9
          have E1 := HUn.out 1 (by decide); have E2 := HCn.out (by decide); have E3 := HFy.out rfl
          have HE1 := Lib.hid E1; have HE2 := Lib.hid E2; have HE3 := Lib.hid E3
          clear E1 E2 E3 HBo0 HUy HUn HCy HCn HFy HFn HKd HKs HKf hbo
          obtain ⟨fj, hfj⟩ : ∃ f, (freshUp a b j)[j]? = some f := ⟨_, List.getElem?_eq_getElem (by rw [HFl.out, HLb.out]; exact hlt)⟩
          have HFj := Lib.hid hfj
          clear hfj
          go_wp2_with (first | (go_at_call 44; go_loud (refine (HBo.out _ (HKa.out _ HG.out)).mono ?_; rintro e w6 ⟨rfl, hb⟩; replace HG := Lib.hid (HG.out.trans (hb.mono hKw)); replace HFi := Lib.hid (own_stay HFi.out hb); replace HCh := Lib.hid (own_stay HCh.out hb); replace HFr := Lib.hid (HFr.out.below hb); replace HT := Lib.hid (HT.out.below hb); replace hKw := Nat.le_trans hKw hb.size; clear hb; have t0 : w6.cell? ⟨T, 0, none⟩ = some (.string xp) := HT.out.c 0; have t1 : w6.cell? ⟨T, 1, none⟩ = some (.string xb) := HT.out.c 1)) | (go_at_call 29; go_loud (refine (HPg.out _).mono ?_; rintro e w6 ⟨rfl, hb⟩; replace HG := Lib.hid (HG.out.trans (hb.mono hKw)); replace HFi := Lib.hid (own_stay HFi.out hb); replace HCh := Lib.hid (own_stay HCh.out hb); replace HFr := Lib.hid (HFr.out.below hb); replace HT := Lib.hid (HT.out.below hb); replace hKw := Nat.le_trans hKw hb.size; clear hb; have t0 : w6.cell? ⟨T, 0, none⟩ = some (.string xp) := HT.out.c 0; have t1 : w6.cell? ⟨T, 1, none⟩ = some (.string xb) := HT.out.c 1; have f0 : w6.cell? ⟨K, j, none⟩ = some (.bool fj) := (by rw [HFr.out.c j]; exact boC_get HFj.out); have f0f := HFr.out.f j)))
          go_roundw
          case rel => exact ⟨j + 1, Af, Ac, qf, cf, qc, cc, by omega, by go_num, rfl, rfl, by omega, by omega, Lib.hid (by rw [HE1.out]; exact HLf.out), Lib.hid (by rw [HE2.out]; exact HLc.out), Lib.hid (by rw [HE1.out]; exact own_keepX HFi.out (GrownX.one0 _ K _ _) (fun g hg e => by subst e; obtain ⟨cs, hc⟩ := own_type HFi.out hg; have h9 := hc.symm.trans HFr.out; simp at h9)), Lib.hid (by rw [HE2.out]; exact own_keepX HCh.out (GrownX.one0 _ K _ _) (fun g hg e => by subst e; obtain ⟨cs, hc⟩ := own_type HCh.out hg; have h9 := hc.symm.trans HFr.out; simp at h9)), Lib.hid (by rw [HE3.out, ← boC_set]; exact HFr.out.put j _), Lib.hid (HG.out.setCell (Nat.le_refl _) _), by have := (grown_setB w6 K j (.bool true)).size; omega⟩
          case measure => simp [intOf]; omega
        | false =>
          obtain rfl : kd = 1 := hk9
          have E1 := HUy.out 1 rfl; have E2 := HCn.out (by decide); have E3 := HFn.out (by decide)
          have HE1 := Lib.hid E1; have HE2 := Lib.hid E2; have HE3 := Lib.hid E3
          clear E1 E2 E3 HBo0 HUy HUn HCy HCn HFy HFn HKd HKs HKf hbo
          go_wp2_with (first | (go_at_call 44; go_loud (refine (HBo.out _ (HKa.out _ HG.out)).mono ?_; rintro e w6 ⟨rfl, hb⟩; replace HG := Lib.hid (HG.out.trans (hb.mono hKw)); replace HFi := Lib.hid (own_stay HFi.out hb); replace HCh := Lib.hid (own_stay HCh.out hb); replace HFr := Lib.hid (HFr.out.below hb); replace HT := Lib.hid (HT.out.below hb); replace hKw := Nat.le_trans hKw hb.size; clear hb; have t0 : w6.cell? ⟨T, 0, none⟩ = some (.string xp) := HT.out.c 0; have t1 : w6.cell? ⟨T, 1, none⟩ = some (.string xb) := HT.out.c 1)) | (go_at_call 29; go_loud (refine (HPg.out _).mono ?_; rintro e w6 ⟨rfl, hb⟩; replace HG := Lib.hid (HG.out.trans (hb.mono hKw)); replace HFi := Lib.hid (own_stay HFi.out hb); replace HCh := Lib.hid (own_stay HCh.out hb); replace HFr := Lib.hid (HFr.out.below hb); replace HT := Lib.hid (HT.out.below hb); replace hKw := Nat.le_trans hKw hb.size; clear hb; have t0 : w6.cell? ⟨T, 0, none⟩ = some (.string xp) := HT.out.c 0; have t1 : w6.cell? ⟨T, 1, none⟩ = some (.string xb) := HT.out.c 1)) | (at_builtin; go_loud (have hh := own_alloc HFi.out (.cells #[.string xp, .string xb] 62); have k1 : (qf + 1) * 32 ≤ 140737488355328 := (by omega); have k2 : qf + 1 ≤ maxLen := (by unfold maxLen; omega); have k3 : K ≤ (World.alloc w6 (.cells #[.string xp, .string xb] 62)).heap.size := (by simp; omega); have k4 := cell_new w6 [.string xp, .string xb] 62 (World.heap w6).size rfl; go_must (refine wpList_push _ rfl (.tmp 53) (.tmp 55) 22 rfl K 62 _ 2 32 Tryz.underlying22 info_out rfl (by omega) (.slice Af qf cf) qf _ rfl hh [.string xp, .string xb] rfl _ (by first | rfl | simp) k4 (by intro u hu; simp at hu; rcases hu with rfl | rfl <;> rfl) k1 k2 k3 ?_); clear k1 k2 k3 k4; intro g9 c9 w9 own9 hg9 hgg9 hb9; have HF9 := Lib.hid own9; have HC9 := Lib.hid (own_keepT (own_alloc HCh.out (.cells #[.string xp, .string xb] 62)) hh hg9 (by decide)); have HR9 := Lib.hid (CB.grown (HFr.out.alloc (.cells #[.string xp, .string xb] 62)) hh hg9 (by decide)); have HG9 := Lib.hid ((HG.out.alloc hKw (.cells #[.string xp, .string xb] 62)).trans hb9); clear hh own9 hg9 hgg9 hb9)))
          go_roundw
          case rel => exact ⟨j + 1, _, Ac, qf + 1, _, qc, cc, by omega, by go_num, rfl, rfl, by omega, by omega, Lib.hid (by rw [HE1.out, List.length_append, HLf.out]; rfl), Lib.hid (by rw [HE2.out]; exact HLc.out), Lib.hid (by rw [HE1.out, outsC_snoc]; exact HF9.out), Lib.hid (by rw [HE2.out]; exact HC9.out), Lib.hid (by rw [HE3.out]; exact HR9.out), HG9, by have := HG9.out.size; have := HK.out; omega⟩
          case measure => simp [intOf]; omega
      | some y =>
        have HBo := Lib.hid (fun w h => by have := HBo0.out w h; rw [hbo] at this; exact (this.mono fun e w' h9 => (⟨h9.1, h9.2⟩ : e = .returned (.tuple #[.string (str0 y), .bool true]) ∧ Below w.heap.size w w')))
        by_cases hs : str0 y = xb
        · obtain rfl : kd = 0 := HKs.out y hbo hs
          have E1 := HUn.out 1 (by decide); have E2 := HCn.out (by decide); have E3 := HFn.out (by decide)
          have HE1 := Lib.hid E1; have HE2 := Lib.hid E2; have HE3 := Lib.hid E3
          rw [hs] at HBo
          clear E1 E2 E3 HBo0 HUy HUn HCy HCn HFy HFn HKd HKs HKf hbo hs
          go_wp2_with (go_at_call 44; go_loud (refine (HBo.out _ (HKa.out _ HG.out)).mono ?_; rintro e w6 ⟨rfl, hb⟩; replace HG := Lib.hid (HG.out.trans (hb.mono hKw)); replace HFi := Lib.hid (own_stay HFi.out hb); replace HCh := Lib.hid (own_stay HCh.out hb); replace HFr := Lib.hid (HFr.out.below hb); replace HT := Lib.hid (HT.out.below hb); replace hKw := Nat.le_trans hKw hb.size; clear hb; have t0 : w6.cell? ⟨T, 0, none⟩ = some (.string xp) := HT.out.c 0; have t1 : w6.cell? ⟨T, 1, none⟩ = some (.string xb) := HT.out.c 1))
          go_roundw
          case rel => exact ⟨j + 1, Af, Ac, qf, cf, qc, cc, by omega, by go_num, rfl, rfl, by omega, by omega, Lib.hid (by rw [HE1.out]; exact HLf.out), Lib.hid (by rw [HE2.out]; exact HLc.out), Lib.hid (by rw [HE1.out]; exact HFi.out), Lib.hid (by rw [HE2.out]; exact HCh.out), Lib.hid (by rw [HE3.out]; exact HFr.out), HG, hKw⟩
          case measure => simp [intOf]; omega
        · have hk9 := HKf.out y hbo hs
          obtain ⟨z, hz⟩ : ∃ z, str0 y = z := ⟨_, rfl⟩
          rw [hz] at HBo hs
          have hne := str_ne hs
          cases pg with
          | true =>
            obtain rfl : kd = 2 := hk9
            have E1 := HUn.out 1 (by decide); have E2 := HCy.out rfl; have E3 := HFn.out (by decide)
            have HE1 := Lib.hid E1; have HE2 := Lib.hid E2; have HE3 := Lib.hid E3
            clear E1 E2 E3 HBo0 HUy HUn HCy HCn HFy HFn HKd HKs HKf hbo hs hz
            go_wp2_with (first | (go_at_call 44; go_loud (refine (HBo.out _ (HKa.out _ HG.out)).mono ?_; rintro e w6 ⟨rfl, hb⟩; replace HG := Lib.hid (HG.out.trans (hb.mono hKw)); replace HFi := Lib.hid (own_stay HFi.out hb); replace HCh := Lib.hid (own_stay HCh.out hb); replace HFr := Lib.hid (HFr.out.below hb); replace HT := Lib.hid (HT.out.below hb); replace hKw := Nat.le_trans hKw hb.size; clear hb; have t0 : w6.cell? ⟨T, 0, none⟩ = some (.string xp) := HT.out.c 0; have t1 : w6.cell? ⟨T, 1, none⟩ = some (.string xb) := HT.out.c 1)) | (go_at_call 29; go_loud (refine (HPg.out _).mono ?_; rintro e w6 ⟨rfl, hb⟩; replace HG := Lib.hid (HG.out.trans (hb.mono hKw)); replace HFi := Lib.hid (own_stay HFi.out hb); replace HCh := Lib.hid (own_stay HCh.out hb); replace HFr := Lib.hid (HFr.out.below hb); replace HT := Lib.hid (HT.out.below hb); replace hKw := Nat.le_trans hKw hb.size; clear hb; have t0 : w6.cell? ⟨T, 0, none⟩ = some (.string xp) := HT.out.c 0; have t1 : w6.cell? ⟨T, 1, none⟩ = some (.string xb) := HT.out.c 1)) | (at_builtin; go_loud (have hh := own_alloc HCh.out (.cells #[.int .i64 (j : Int)] 3); have k1 : (qc + 1) * 8 ≤ 140737488355328 := (by omega); have k2 : qc + 1 ≤ maxLen := (by unfold maxLen; omega); have k3 : K ≤ (World.alloc w6 (.cells #[.int .i64 (j : Int)] 3)).heap.size := (by simp; omega); have k4 := cell_new w6 [.int .i64 (j : Int)] 3 (World.heap w6).size rfl; go_must (refine wpList_push _ rfl (.tmp 59) (.tmp 61) 91 rfl K 3 _ 1 8 Tryz.underlying91 info_intR rfl (by omega) (.slice Ac qc cc) qc _ rfl hh [.int .i64 (j : Int)] rfl _ (by first | rfl | simp) k4 (one_int _ _) k1 k2 k3 ?_); clear k1 k2 k3 k4; intro g9 c9 w9 own9 hg9 hgg9 hb9; have HC9 := Lib.hid own9; have HF9 := Lib.hid (own_keepT (own_alloc HFi.out (.cells #[.int .i64 (j : Int)] 3)) hh hg9 (by decide)); have HR9 := Lib.hid (CB.grown (HFr.out.alloc (.cells #[.int .i64 (j : Int)] 3)) hh hg9 (by decide)); have HG9 := Lib.hid ((HG.out.alloc hKw (.cells #[.int .i64 (j : Int)] 3)).trans hb9); clear hh own9 hg9 hgg9 hb9)))
            go_roundw
            case rel => exact ⟨j + 1, Af, _, qf, cf, qc + 1, _, by omega, by go_num, rfl, rfl, by omega, by omega, Lib.hid (by rw [HE1.out]; exact HLf.out), Lib.hid (by rw [HE2.out, List.length_append, HLc.out]; rfl), Lib.hid (by rw [HE1.out]; exact HF9.out), Lib.hid (by rw [HE2.out, intsV_snoc]; exact HC9.out), Lib.hid (by rw [HE3.out]; exact HR9.out), HG9, by have := HG9.out.size; have := HK.out; omega⟩
            case measure => simp [intOf]; omega
          | false =>
            obtain rfl : kd = 1 := hk9
            have E1 := HUy.out 1 rfl; have E2 := HCn.out (by decide); have E3 := HFn.out (by decide)
            have HE1 := Lib.hid E1; have HE2 := Lib.hid E2; have HE3 := Lib.hid E3
            clear E1 E2 E3 HBo0 HUy HUn HCy HCn HFy HFn HKd HKs HKf hbo hs hz
            go_wp2_with (first | (go_at_call 44; go_loud (refine (HBo.out _ (HKa.out _ HG.out)).mono ?_; rintro e w6 ⟨rfl, hb⟩; replace HG := Lib.hid (HG.out.trans (hb.mono hKw)); replace HFi := Lib.hid (own_stay HFi.out hb); replace HCh := Lib.hid (own_stay HCh.out hb); replace HFr := Lib.hid (HFr.out.below hb); replace HT := Lib.hid (HT.out.below hb); replace hKw := Nat.le_trans hKw hb.size; clear hb; have t0 : w6.cell? ⟨T, 0, none⟩ = some (.string xp) := HT.out.c 0; have t1 : w6.cell? ⟨T, 1, none⟩ = some (.string xb) := HT.out.c 1)) | (go_at_call 29; go_loud (refine (HPg.out _).mono ?_; rintro e w6 ⟨rfl, hb⟩; replace HG := Lib.hid (HG.out.trans (hb.mono hKw)); replace HFi := Lib.hid (own_stay HFi.out hb); replace HCh := Lib.hid (own_stay HCh.out hb); replace HFr := Lib.hid (HFr.out.below hb); replace HT := Lib.hid (HT.out.below hb); replace hKw := Nat.le_trans hKw hb.size; clear hb; have t0 : w6.cell? ⟨T, 0, none⟩ = some (.string xp) := HT.out.c 0; have t1 : w6.cell? ⟨T, 1, none⟩ = some (.string xb) := HT.out.c 1)) | (at_builtin; go_loud (have hh := own_alloc HFi.out (.cells #[.string xp, .string xb] 62); have k1 : (qf + 1) * 32 ≤ 140737488355328 := (by omega); have k2 : qf + 1 ≤ maxLen := (by unfold maxLen; omega); have k3 : K ≤ (World.alloc w6 (.cells #[.string xp, .string xb] 62)).heap.size := (by simp; omega); have k4 := cell_new w6 [.string xp, .string xb] 62 (World.heap w6).size rfl; go_must (refine wpList_push _ rfl (.tmp 53) (.tmp 55) 22 rfl K 62 _ 2 32 Tryz.underlying22 info_out rfl (by omega) (.slice Af qf cf) qf _ rfl hh [.string xp, .string xb] rfl _ (by first | rfl | simp) k4 (by intro u hu; simp at hu; rcases hu with rfl | rfl <;> rfl) k1 k2 k3 ?_); clear k1 k2 k3 k4; intro g9 c9 w9 own9 hg9 hgg9 hb9; have HF9 := Lib.hid own9; have HC9 := Lib.hid (own_keepT (own_alloc HCh.out (.cells #[.string xp, .string xb] 62)) hh hg9 (by decide)); have HR9 := Lib.hid (CB.grown (HFr.out.alloc (.cells #[.string xp, .string xb] 62)) hh hg9 (by decide)); have HG9 := Lib.hid ((HG.out.alloc hKw (.cells #[.string xp, .string xb] 62)).trans hb9); clear hh own9 hg9 hgg9 hb9)))
            go_roundw
            case rel => exact ⟨j + 1, _, Ac, qf + 1, _, qc, cc, by omega, by go_num, rfl, rfl, by omega, by omega, Lib.hid (by rw [HE1.out, List.length_append, HLf.out]; rfl), Lib.hid (by rw [HE2.out]; exact HLc.out), Lib.hid (by rw [HE1.out, outsC_snoc]; exact HF9.out), Lib.hid (by rw [HE2.out]; exact HC9.out), Lib.hid (by rw [HE3.out]; exact HR9.out), HG9, by have := HG9.out.size; have := HK.out; omega⟩
            case measure => simp [intOf]; omega
    · obtain rfl : j = lb := by omega
      have hlt2 : ¬ (j : Int) < (j : Int) := by omega
      have HFr2 := Lib.hid (show CB wo K 4 (boC (freshL a b)) by have := HFr.out; rw [← freshUp_all, HLb.out]; exact this)
      clear HFr
      obtain ⟨M2, hM2⟩ : ∃ M, wo.heap.size = M := ⟨_, rfl⟩
      have HM2 := Lib.hid hM2
      have hKM : K ≤ M2 := by omega
      go_wp2_with fail
      clear hM2
      go_loopw [6, 7, 66] (fun t6 t7 t66 wr => ∃ (i : Nat) (A1 A2 : Option Addr) (q1 c1 q2 c2 : Nat), i ≤ la ∧ t66 = .int .i64 i ∧ t6 = .slice A1 q1 c1 ∧ t7 = .slice A2 q2 c2 ∧ q1 ≤ i ∧ q2 ≤ i ∧ Hid ((goneG a b true i).length = q1) ∧ Hid ((goneG a b false i).length = q2) ∧ Hid (wr.ownsRow M2 62 2 (.slice A1 q1 c1) q1 (outsC (goneG a b true i))) ∧ Hid (wr.ownsRow M2 62 2 (.slice A2 q2 c2) q2 (outsC (goneG a b false i))) ∧ Hid (Apart (.slice A1 q1 c1) (.slice A2 q2 c2)) ∧ Hid (Below M2 wo wr) ∧ M2 ≤ wr.heap.size) (fun _ _ t _ => la - (intOf t).toNat)
      case atStart => exact ⟨0, none, none, 0, 0, 0, 0, Nat.zero_le _, rfl, rfl, rfl, Nat.le_refl _, Nat.le_refl _, rfl, rfl, World.ownsRow_nil _ _ _ _, World.ownsRow_nil _ _ _ _, Apart.nil _ _, Below.refl _ _, by have := HM2.out; omega⟩
      case round =>
        obtain ⟨i, A1, A2, q1, c1, q2, c2, hi, rfl, rfl, rfl, hq1, hq2, HL1, HL2, HG1, HG2, HAp, HBM, hMw⟩ := hrel
        obtain ⟨wy, rfl⟩ : ∃ wo : World, wo = wr := ⟨_, rfl⟩
        have HGy := Lib.hid (HG.out.trans (HBM.out.mono hKM))
        by_cases hit : i < la
        · obtain ⟨x, hx⟩ : ∃ x, a[i]? = some x := ⟨_, List.getElem?_eq_getElem (by rw [HLa.out]; exact hit)⟩
          obtain rfl := HAa.out (by intro h0; rw [h0] at hx; simp at hx)
          have kc := (HCa.out i x hx).keep (HKe.out _ HGy.out)
          have k0 := kc.c0
          have k1 := kc.c1
          have hit2 : (i : Int) < (la : Int) := by omega
          have HY := Lib.hid (fun p h1 h2 => goneG_yes (b := b) (p := p) hx h1 h2); have HN := Lib.hid (fun p h1 => goneG_no (b := b) (p := p) hx h1)
          have hxz := path_size (HZa.out x (List.mem_of_getElem? hx))
          clear hx kc
          obtain ⟨xp, xb⟩ := x
          simp only at k0 k1 hxz HY HN
          obtain ⟨v, hv⟩ : ∃ v, outAtI b xp.data.toList = v := ⟨_, rfl⟩
          obtain ⟨pg, hpg⟩ : ∃ v, pageB xp = v := ⟨_, rfl⟩
          rw [hv] at HY HN
          rw [hpg] at HY HN
          have HOa := Lib.hid (fun w h => outAt_q b (.slice Ab j cb) xp v w h hv)
          have HPg := Lib.hid (fun w => isPageR_q xp xb pg w (by omega) hpg)
          have HT := Lib.hid (CB.new wy #[.string xp, .string xb] 62)
          have hao := (Below.refl wy.heap.size wy).alloc (Nat.le_refl _) (.cells #[.string xp, .string xb] 62)
          obtain ⟨T, hT⟩ : ∃ T, wy.heap.size = T := ⟨_, rfl⟩
          rw [hT] at HT
          replace HBM := Lib.hid (HBM.out.trans (hao.mono hMw))
          replace HG1 := Lib.hid (own_stay HG1.out hao); replace HG2 := Lib.hid (own_stay HG2.out hao)
          replace hMw := Nat.le_trans hMw hao.size
          clear hv hpg hao HGy
          by_cases hv0 : 0 ≤ v
          · have E1 := HN.out true (Or.inl (by omega)); have E2 := HN.out false (Or.inl (by omega))
            have HE1 := Lib.hid E1; have HE2 := Lib.hid E2
            clear E1 E2 HY HN
            go_wp2_with (go_at_call 42; go_loud (refine (HOa.out _ (HKb.out _ (HG.out.trans (HBM.out.mono hKM)))).mono ?_; rintro e w6 ⟨rfl, hb⟩; replace HBM := Lib.hid (HBM.out.trans (hb.mono hMw)); replace HG1 := Lib.hid (own_stay HG1.out hb); replace HG2 := Lib.hid (own_stay HG2.out hb); replace HT := Lib.hid (HT.out.below hb); replace hMw := Nat.le_trans hMw hb.size; clear hb; have t0 : w6.cell? ⟨T, 0, none⟩ = some (.string xp) := HT.out.c 0; have t1 : w6.cell? ⟨T, 1, none⟩ = some (.string xb) := HT.out.c 1))
            go_roundw
            case rel => exact ⟨i + 1, A1, A2, q1, c1, q2, c2, by omega, by go_num, rfl, rfl, by omega, by omega, Lib.hid (by rw [HE1.out]; exact HL1.out), Lib.hid (by rw [HE2.out]; exact HL2.out), Lib.hid (by rw [HE1.out]; exact HG1.out), Lib.hid (by rw [HE2.out]; exact HG2.out), HAp, HBM, hMw⟩
            case measure => simp [intOf]; omega
          · cases pg with
            | true =>
              have E1 := HY.out true (by omega) rfl; have E2 := HN.out false (Or.inr (by decide))
              have HE1 := Lib.hid E1; have HE2 := Lib.hid E2
              clear E1 E2 HY HN
              go_wp2_with (first | (go_at_call 42; go_loud (refine (HOa.out _ (HKb.out _ (HG.out.trans (HBM.out.mono hKM)))).mono ?_; rintro e w6 ⟨rfl, hb⟩; replace HBM := Lib.hid (HBM.out.trans (hb.mono hMw)); replace HG1 := Lib.hid (own_stay HG1.out hb); replace HG2 := Lib.hid (own_stay HG2.out hb); replace HT := Lib.hid (HT.out.below hb); replace hMw := Nat.le_trans hMw hb.size; clear hb; have t0 : w6.cell? ⟨T, 0, none⟩ = some (.string xp) := HT.out.c 0; have t1 : w6.cell? ⟨T, 1, none⟩ = some (.string xb) := HT.out.c 1)) | (go_at_call 29; go_loud (refine (HPg.out _).mono ?_; rintro e w6 ⟨rfl, hb⟩; replace HBM := Lib.hid (HBM.out.trans (hb.mono hMw)); replace HG1 := Lib.hid (own_stay HG1.out hb); replace HG2 := Lib.hid (own_stay HG2.out hb); replace HT := Lib.hid (HT.out.below hb); replace hMw := Nat.le_trans hMw hb.size; clear hb; have t0 : w6.cell? ⟨T, 0, none⟩ = some (.string xp) := HT.out.c 0; have t1 : w6.cell? ⟨T, 1, none⟩ = some (.string xb) := HT.out.c 1)) | (at_builtin; go_loud (have hh := own_alloc HG1.out (.cells #[.string xp, .string ⟨#[]⟩] 62); have k1 : (q1 + 1) * 32 ≤ 140737488355328 := (by omega); have k2 : q1 + 1 ≤ maxLen := (by unfold maxLen; omega); have k3 : M2 ≤ (World.alloc w6 (.cells #[.string xp, .string ⟨#[]⟩] 62)).heap.size := (by simp; omega); have k4 := cell_new w6 [.string xp, .string ⟨#[]⟩] 62 (World.heap w6).size rfl; go_must (refine wpList_push _ rfl (.tmp 77) (.tmp 81) 22 rfl M2 62 _ 2 32 Tryz.underlying22 info_out rfl (by omega) (.slice A1 q1 c1) q1 _ rfl hh [.string xp, .string ⟨#[]⟩] rfl _ (by first | rfl | simp) k4 (by intro u hu; simp at hu; rcases hu with rfl | rfl <;> rfl) k1 k2 k3 ?_); clear k1 k2 k3 k4; intro g9 c9 w9 own9 hg9 hgg9 hb9; have HX9 := Lib.hid own9; have HY9 := Lib.hid (own_other (own_alloc HG2.out (.cells #[.string xp, .string ⟨#[]⟩] 62)) hh hg9 (Apart.or (Apart.symm (HAp.out)))); have HA9 := Lib.hid (Apart.push (v := .slice A2 q2 c2) (n := q1 + 1) (cap := c9) HAp.out (hgg9) (fun k hk => by have := own_lt HG2.out k hk; simp; omega)); have HB9 := Lib.hid ((HBM.out.alloc hMw (.cells #[.string xp, .string ⟨#[]⟩] 62)).trans hb9); clear hh own9 hg9 hgg9 hb9)))
              go_roundw
              case rel => exact ⟨i + 1, _, A2, q1 + 1, _, q2, c2, by omega, by go_num, rfl, rfl, by omega, by omega, Lib.hid (by rw [HE1.out, List.length_append, HL1.out]; rfl), Lib.hid (by rw [HE2.out]; exact HL2.out), Lib.hid (by rw [HE1.out, outsC_snoc]; exact HX9.out), Lib.hid (by rw [HE2.out]; exact HY9.out), HA9, HB9, by have := HB9.out.size; have := HM2.out; omega⟩
              case measure => simp [intOf]; omega
            | false =>
              have E1 := HN.out true (Or.inr (by decide)); have E2 := HY.out false (by omega) rfl
              have HE1 := Lib.hid E1; have HE2 := Lib.hid E2
              clear E1 E2 HY HN
              go_wp2_with (first | (go_at_call 42; go_loud (refine (HOa.out _ (HKb.out _ (HG.out.trans (HBM.out.mono hKM)))).mono ?_; rintro e w6 ⟨rfl, hb⟩; replace HBM := Lib.hid (HBM.out.trans (hb.mono hMw)); replace HG1 := Lib.hid (own_stay HG1.out hb); replace HG2 := Lib.hid (own_stay HG2.out hb); replace HT := Lib.hid (HT.out.below hb); replace hMw := Nat.le_trans hMw hb.size; clear hb; have t0 : w6.cell? ⟨T, 0, none⟩ = some (.string xp) := HT.out.c 0; have t1 : w6.cell? ⟨T, 1, none⟩ = some (.string xb) := HT.out.c 1)) | (go_at_call 29; go_loud (refine (HPg.out _).mono ?_; rintro e w6 ⟨rfl, hb⟩; replace HBM := Lib.hid (HBM.out.trans (hb.mono hMw)); replace HG1 := Lib.hid (own_stay HG1.out hb); replace HG2 := Lib.hid (own_stay HG2.out hb); replace HT := Lib.hid (HT.out.below hb); replace hMw := Nat.le_trans hMw hb.size; clear hb; have t0 : w6.cell? ⟨T, 0, none⟩ = some (.string xp) := HT.out.c 0; have t1 : w6.cell? ⟨T, 1, none⟩ = some (.string xb) := HT.out.c 1)) | (at_builtin; go_loud (have hh := own_alloc HG2.out (.cells #[.string xp, .string ⟨#[]⟩] 62); have k1 : (q2 + 1) * 32 ≤ 140737488355328 := (by omega); have k2 : q2 + 1 ≤ maxLen := (by unfold maxLen; omega); have k3 : M2 ≤ (World.alloc w6 (.cells #[.string xp, .string ⟨#[]⟩] 62)).heap.size := (by simp; omega); have k4 := cell_new w6 [.string xp, .string ⟨#[]⟩] 62 (World.heap w6).size rfl; go_must (refine wpList_push _ rfl (.tmp 83) (.tmp 87) 22 rfl M2 62 _ 2 32 Tryz.underlying22 info_out rfl (by omega) (.slice A2 q2 c2) q2 _ rfl hh [.string xp, .string ⟨#[]⟩] rfl _ (by first | rfl | simp) k4 (by intro u hu; simp at hu; rcases hu with rfl | rfl <;> rfl) k1 k2 k3 ?_); clear k1 k2 k3 k4; intro g9 c9 w9 own9 hg9 hgg9 hb9; have HX9 := Lib.hid own9; have HY9 := Lib.hid (own_other (own_alloc HG1.out (.cells #[.string xp, .string ⟨#[]⟩] 62)) hh hg9 (Apart.or (Apart.symm (HAp.out.symm)))); have HA9 := Lib.hid (Apart.push (v := .slice A1 q1 c1) (n := q2 + 1) (cap := c9) HAp.out.symm (hgg9) (fun k hk => by have := own_lt HG1.out k hk; simp; omega)); have HB9 := Lib.hid ((HBM.out.alloc hMw (.cells #[.string xp, .string ⟨#[]⟩] 62)).trans hb9); clear hh own9 hg9 hgg9 hb9)))
              go_roundw
              case rel => exact ⟨i + 1, A1, _, q1, c1, q2 + 1, _, by omega, by go_num, rfl, rfl, by omega, by omega, Lib.hid (by rw [HE1.out]; exact HL1.out), Lib.hid (by rw [HE2.out, List.length_append, HL2.out]; rfl), Lib.hid (by rw [HE1.out]; exact HY9.out), Lib.hid (by rw [HE2.out, outsC_snoc]; exact HX9.out), Lib.hid (Apart.symm HA9.out), HB9, by have := HB9.out.size; have := HM2.out; omega⟩
              case measure => simp [intOf]; omega
        · obtain rfl : i = la := by omega
          have hit2 : ¬ (i : Int) < (i : Int) := by omega
          have HFi2 := Lib.hid (own_stay HFi.out (by rw [HM2.out]; exact HBM.out))
          have HCh2 := Lib.hid (own_stay HCh.out (by rw [HM2.out]; exact HBM.out))
          have HFr3 := Lib.hid (HFr2.out.below (by rw [HM2.out]; exact HBM.out))
          have hKy : K ≤ wy.heap.size := by omega
          obtain ⟨F, hF⟩ : ∃ F, upK a b 1 j = F := ⟨_, rfl⟩
          obtain ⟨Ch, hCh⟩ : ∃ F, chI a b j = F := ⟨_, rfl⟩
          obtain ⟨g1, hg1⟩ : ∃ F, goneG a b true i = F := ⟨_, rfl⟩
          obtain ⟨g2, hg2⟩ : ∃ F, goneG a b false i = F := ⟨_, rfl⟩
          have HFe := Lib.hid hF; have HChe := Lib.hid hCh; have HG1e := Lib.hid hg1; have HG2e := Lib.hid hg2
          rw [hF] at HFi2 HLf
          rw [hCh] at HCh2 HLc
          rw [hg1] at HG1 HL1
          rw [hg2] at HG2 HL2
          clear hF hCh hg1 hg2 HFi HCh HFr2 HAp HG hKw
          by_cases hq0 : qf = 0
          · have hq0i : ¬ (0 : Int) < (qf : Int) := by omega
            have HS0 := Lib.hid (StepsOwn.start wy K)
            have HL0 := Lib.hid (show ([] : List (StepR × Value)).length = 0 from rfl)
            have HM0 := Lib.hid (show ([] : List (StepR × Value)).map (·.1) = oneS false F by rw [oneS_no (by rw [HLf.out]; exact hq0)]; rfl)
            obtain ⟨L0, hL0⟩ : ∃ L : List (StepR × Value), [] = L := ⟨_, rfl⟩
            rw [hL0] at HS0 HL0 HM0
            have hL01 : L0.length ≤ 1 := by rw [← hL0]; exact Nat.zero_le _
            clear hL0
            go_upto_region 26 with fail
            have HMW := Lib.hid (show MaxT wy.heap.size wy from (HM.out.keep (by rw [HK.out]; exact HGy.out)).up (by have := HK.out; omega))
            go_upto_region 27 with (first
              | (go_at_call 45; go_loud (refine (freshSteps_q b (freshL a b) _ j K wy (HKb.out _ HGy.out) HFr3.out HLb.out (by rw [freshL, List.length_map]; exact HLb.out) HMW.out hlb HZb.out HPb.out).mono ?_; rintro e w5 ⟨v1, L1, Cs, rfl, hs1, hl1, hc1, hn1, hb⟩; obtain ⟨A1s, c1s, rfl, _⟩ := own_form hs1.row; have HS1 := Lib.hid (hs1.low hKy); have HL1s := Lib.hid hl1; have HCs := Lib.hid hc1; have HS05 := Lib.hid (HS0.out.below hb); have HC5 := Lib.hid (own_stay HCh2.out hb); have HX5 := Lib.hid (own_stay HG1.out hb); have HY5 := Lib.hid (own_stay HG2.out hb); have HG5 := Lib.hid (HGy.out.trans (hb.mono hKy)); have hK5 := Nat.le_trans hKy hb.size; have HR05 := Lib.hid HS05.out.row; rw [HL0.out] at HR05; clear hs1 hl1 hc1 hb))
              | (at_builtin; go_loud (refine wpList_joinK _ rfl (.tmp 98) (.tmp 101) 43 rfl K 86 _ 2 32 Tryz.underlying43 info_step rfl (by omega) _ _ _ rfl HR05.out K (.slice A1s L1.length c1s) L1.length (stepsC L1) rfl HS1.out.row (stepsC_one L1 HS1.out) (by have := HL0.out; omega) (by have := HL0.out; unfold maxLen; omega) hK5 ?_; intro A7 c7 w7 own7 hg7 hb7; have HS7 := Lib.hid (HS05.out.join (A := A7) (c := c7) HS1.out (by rw [HL0.out]; exact own7) (by first | exact hg7 | (rw [HL0.out]; exact hg7))); have HC7 := Lib.hid (own_keepT HC5.out HR05.out hg7 (by decide)); have HX7 := Lib.hid (own_keepT HX5.out HR05.out hg7 (by decide)); have HY7 := Lib.hid (own_keepT HY5.out HR05.out hg7 (by decide)); have HG7 := Lib.hid (HG5.out.trans hb7); clear own7 hg7 hb7)))
            have HLq7 := Lib.hid (show (L0 ++ L1).length = (L0 ++ L1).length from rfl)
            have HM7 := Lib.hid (show (L0 ++ L1).map (·.1) = oneS false F ++ stepsOf b Cs by rw [List.map_append, HM0.out, HL1s.out])
            obtain ⟨L7, hL7⟩ : ∃ L, L0 ++ L1 = L := ⟨_, rfl⟩
            have hq7 : L7.length ≤ 481 := by rw [← hL7, List.length_append]; omega
            have HLsum := Lib.hid (show L7.length = L0.length + L1.length by rw [← hL7, List.length_append])
            rw [hL7] at HM7 HS7
            clear hL7 HLq7
            have HChl := Lib.hid (fun i (hi : i ∈ Ch) => (by have := HChe.out; rw [← this] at hi; exact chI_lt hi : i < j))
            have hK7 : K ≤ w7.heap.size := by have := HG7.out.size; have := HK.out; omega
            go_wp2_with fail
            go_loopw [16, 105] (fun t16 t105 wr => ∃ (p : Nat) (L : List (StepR × Value)) (A : Option Addr) (c q : Nat), p ≤ qc ∧ t105 = .int .i64 p ∧ t16 = .slice A q c ∧ q ≤ 481 + p ∧ Hid (L.length = q) ∧ Hid (StepsOwn wr K (.slice A q c) L) ∧ Hid (L.map (·.1) = oneS false F ++ stepsOf b Cs ++ chS b (Ch.take p)) ∧ Hid (wr.ownsRow K 3 1 (.slice Ac qc cc) qc (intsV Ch)) ∧ Hid (wr.ownsRow M2 62 2 (.slice A1 q1 c1) q1 (outsC g1)) ∧ Hid (wr.ownsRow M2 62 2 (.slice A2 q2 c2) q2 (outsC g2)) ∧ Hid (Below K w wr) ∧ K ≤ wr.heap.size) (fun _ t _ => qc - (intOf t).toNat)
            case atStart => exact ⟨0, L7, A7, c7, _, Nat.zero_le _, rfl, rfl, by have := HLsum.out; have := HL0.out; omega, Lib.hid (by have := HLsum.out; have := HL0.out; omega), Lib.hid (by have h8 := HS7.out; have h9 := HLsum.out; rw [HL0.out] at h9; (try rw [Nat.zero_add] at h9); rw [h9] at h8; exact h8), Lib.hid (by rw [HM7.out]; simp [chS]), HC7, HX7, HY7, HG7, hK7⟩
            case round =>
              obtain ⟨p, L, A, c, q, hp, rfl, rfl, hqp, HLq, HSp, HMp, HCp, HXp, HYp, HGp, hKp⟩ := hrel
              obtain ⟨wx, rfl⟩ : ∃ w : World, w = wr := ⟨_, rfl⟩
              have HRp := Lib.hid HSp.out.row
              rw [HLq.out] at HRp
              by_cases hpt : p < qc
              · obtain ⟨i1, hi1⟩ : ∃ x, Ch[p]? = some x := ⟨_, List.getElem?_eq_getElem (by rw [HLc.out]; exact hpt)⟩
                have hi1l := HChl.out i1 (List.mem_of_getElem? hi1)
                obtain ⟨gcx, rfl⟩ : ∃ g, Ac = some ⟨g, 0, none⟩ := by
                  obtain ⟨A', c', hv, _, _, hA⟩ := own_form HCp.out
                  cases hv
                  obtain ⟨g, hg, _⟩ := hA (by omega)
                  exact ⟨g, hg⟩
                have d0 : wx.cell? ⟨gcx, p, none⟩ = some (.int .i64 (i1 : Int)) := own_cell HCp.out (by simp [intsV, hi1])
                obtain ⟨x, hx⟩ : ∃ x, b[i1]? = some x := ⟨_, List.getElem?_eq_getElem (by rw [HLb.out]; exact hi1l)⟩
                obtain rfl := HAb.out (by intro h0; rw [h0] at hx; simp at hx)
                have kc := (HCb.out i1 x hx).keep (HKe.out _ HGp.out)
                have k0 := kc.c0
                have k1 := kc.c1
                have hpt2 : (p : Int) < (qc : Int) := by omega
                have hi2 : (i1 : Int) < (j : Int) := by omega
                have HT2 := Lib.hid (chS_take hi1 hx)
                clear hi1 hx kc
                obtain ⟨xp, xb⟩ := x
                simp only at k0 k1 HT2
                have HFr5 := Lib.hid (own_lowP (own_fresh2 wx 62 (.string xp) (.string xb)) hKp)
                have hao := (Below.refl wx.heap.size wx).alloc (Nat.le_refl _) (.cells #[.string xp, .string xb] 62)
                have HSa := Lib.hid (HSp.out.below hao); have HCa9 := Lib.hid (own_stay HCp.out hao); have HXa := Lib.hid (own_stay HXp.out hao); have HYa := Lib.hid (own_stay HYp.out hao); have HRa := Lib.hid (own_stay HRp.out hao)
                have HGa := Lib.hid (HGp.out.trans (hao.mono hKp))
                have hKa : K ≤ (World.alloc wx (.cells #[.string xp, .string xb] 62)).heap.size := Nat.le_trans hKp hao.size
                clear hao
                go_wp2_with (at_builtin; go_loud (have hh := own_alloc HRa.out (.cells #[.bool false, .slice (some ⟨wx.heap.size, 0, none⟩) 1 1] 86); have k1 : (q + 1) * 32 ≤ 140737488355328 := (by omega); have k2 : q + 1 ≤ maxLen := (by unfold maxLen; omega); have k3 : K ≤ (World.alloc (wx.alloc (.cells #[.string xp, .string xb] 62)) (.cells #[.bool false, .slice (some ⟨wx.heap.size, 0, none⟩) 1 1] 86)).heap.size := (by simp; omega); have k4 := cell_new (wx.alloc (.cells #[.string xp, .string xb] 62)) [.bool false, .slice (some ⟨wx.heap.size, 0, none⟩) 1 1] 86 (wx.heap.size + 1) (by rw [World.size_alloc]); go_must (refine wpList_push _ rfl (.tmp 109) (.tmp 116) 43 rfl K 86 _ 2 32 Tryz.underlying43 info_step rfl (by omega) (.slice A q c) q _ rfl hh [.bool false, .slice (some ⟨wx.heap.size, 0, none⟩) 1 1] rfl _ (by first | rfl | simp) k4 (by intro u hu; simp at hu; rcases hu with rfl | rfl <;> rfl) k1 k2 k3 ?_); clear k1 k2 k3 k4; intro g9 c9 w9 own9 hg9 hgg9 hb9; have HS9 := Lib.hid ((HSa.out.alloc (.cells #[.bool false, .slice (some ⟨wx.heap.size, 0, none⟩) 1 1] 86)).push (x := ((⟨false, [⟨xp, xb⟩]⟩ : StepR), Value.slice (some ⟨wx.heap.size, 0, none⟩) 1 1)) (own_alloc HFr5.out _) (by rw [HLq.out]; exact own9) hg9); have HC9 := Lib.hid (own_keepT (own_alloc HCa9.out (.cells #[.bool false, .slice (some ⟨wx.heap.size, 0, none⟩) 1 1] 86)) hh hg9 (by decide)); have HX9 := Lib.hid (own_keepT (own_alloc HXa.out (.cells #[.bool false, .slice (some ⟨wx.heap.size, 0, none⟩) 1 1] 86)) hh hg9 (by decide)); have HY9 := Lib.hid (own_keepT (own_alloc HYa.out (.cells #[.bool false, .slice (some ⟨wx.heap.size, 0, none⟩) 1 1] 86)) hh hg9 (by decide)); have HG9 := Lib.hid ((HGa.out.alloc hKa (.cells #[.bool false, .slice (some ⟨wx.heap.size, 0, none⟩) 1 1] 86)).trans hb9); clear hh own9 hg9 hgg9 hb9))
                go_roundw
                case rel => exact ⟨p + 1, L ++ [((⟨false, [⟨xp, xb⟩]⟩ : StepR), Value.slice (some ⟨wx.heap.size, 0, none⟩) 1 1)], _, _, q + 1, by omega, by go_num, rfl, by omega, Lib.hid (by rw [List.length_append, HLq.out]; rfl), Lib.hid (by have := HS9.out; rw [List.length_append, HLq.out] at this; exact this), Lib.hid (by rw [List.map_append, HMp.out, HT2.out, ← List.append_assoc]; rfl), HC9, HX9, HY9, HG9, by have := HG9.out.size; have := HK.out; omega⟩
                case measure => simp [intOf]; omega
              · obtain rfl : p = qc := by omega
                have hpt2 : ¬ (p : Int) < (p : Int) := by omega
                have HM8 := Lib.hid (show L.map (·.1) = oneS false F ++ stepsOf b Cs ++ (upK a b 2 b.length).map (fun x => ⟨false, [x]⟩) by
                  rw [HMp.out, List.take_of_length_le (by rw [HLc.out]; exact Nat.le_refl _), ← HChe.out, ← chS_all, HLb.out])
                have hao := (Below.refl wx.heap.size wx).alloc (Nat.le_refl _) (.cells #[.slice A1 q1 c1, .slice A2 q2 c2] 22)
                have HZ0 := Lib.hid (CB.new wx #[.slice A1 q1 c1, .slice A2 q2 c2] 22)
                have HSa := Lib.hid (HSp.out.below hao); have HXa := Lib.hid (own_stay HXp.out hao); have HYa := Lib.hid (own_stay HYp.out hao)
                have HGa := Lib.hid (HGp.out.trans (hao.mono hKp))
                have hKa : K ≤ (World.alloc wx (.cells #[.slice A1 q1 c1, .slice A2 q2 c2] 22)).heap.size := Nat.le_trans hKp hao.size
                obtain ⟨Z, hZ⟩ : ∃ Z, wx.heap.size = Z := ⟨_, rfl⟩
                rw [hZ] at HZ0
                clear hao
                go_wp2_with fail
                clear hZ
                go_loopw [16, 123] (fun t16 t123 wr => ∃ (r : Nat) (L : List (StepR × Value)) (A : Option Addr) (c q : Nat), r ≤ 2 ∧ t123 = .int .i64 r ∧ t16 = .slice A q c ∧ q ≤ 481 + p + r ∧ Hid (L.length = q) ∧ Hid (StepsOwn wr K (.slice A q c) L) ∧ Hid (L.map (·.1) = oneS false F ++ stepsOf b Cs ++ (upK a b 2 b.length).map (fun x => ⟨false, [x]⟩) ++ (if 0 < r then oneS true g1 else []) ++ (if 1 < r then oneS true g2 else [])) ∧ Hid (CB wr Z 22 #[.slice A1 q1 c1, .slice A2 q2 c2]) ∧ Hid (wr.ownsRow M2 62 2 (.slice A1 q1 c1) q1 (outsC g1)) ∧ Hid (wr.ownsRow M2 62 2 (.slice A2 q2 c2) q2 (outsC g2)) ∧ Hid (Below K w wr) ∧ K ≤ wr.heap.size) (fun _ t _ => 2 - (intOf t).toNat)
                case atStart => exact ⟨0, L, A, c, q, Nat.zero_le _, rfl, rfl, by omega, HLq, HSa, Lib.hid (by rw [HM8.out]; simp), HZ0, HXa, HYa, HGa, hKa⟩
                case round =>
                  clear HZ0 HSa HXa HYa HGa hKa HSp HRp HMp HCp HXp HYp HGp hKp HLq HM8 hqp
                  obtain ⟨r, L, A, c, q, hr, rfl, rfl, hqr, HLq, HSp, HMp, HZp, HXp, HYp, HGp, hKp⟩ := hrel
                  obtain ⟨wv, rfl⟩ : ∃ w : World, w = wr := ⟨_, rfl⟩
                  have HRp := Lib.hid HSp.out.row
                  rw [HLq.out] at HRp
                  have z0 : wv.cell? ⟨Z, 0, none⟩ = some (.slice A1 q1 c1) := HZp.out.c 0
                  have z1 : wv.cell? ⟨Z, 1, none⟩ = some (.slice A2 q2 c2) := HZp.out.c 1
                  match r, hr with
                  | 0, _ =>
                    by_cases hz : q1 = 0
                    · have hzi : ¬ (0 : Int) < (q1 : Int) := by omega
                      have HE := Lib.hid (oneS_no (r := true) (l := g1) (by rw [HL1.out]; exact hz))
                      clear hz
                      go_wp2_with fail
                      go_roundw
                      case rel => exact ⟨1, L, A, c, q, by omega, by go_num, rfl, by omega, HLq, HSp, Lib.hid (by rw [HMp.out, HE.out]; simp), HZp, HXp, HYp, HGp, hKp⟩
                      case measure => simp [intOf]
                    · have hzi : (0 : Int) < (q1 : Int) := by omega
                      have HE := Lib.hid (oneS_yes (r := true) (l := g1) (by rw [HL1.out]; exact hz))
                      clear hz
                      go_wp2_with (at_builtin; go_loud (have hh := own_alloc HRp.out (.cells #[.bool true, .slice A1 q1 c1] 86); have k1 : (q + 1) * 32 ≤ 140737488355328 := (by omega); have k2 : q + 1 ≤ maxLen := (by unfold maxLen; omega); have k3 : K ≤ (World.alloc wv (.cells #[.bool true, .slice A1 q1 c1] 86)).heap.size := (by simp; omega); have k4 := cell_new wv [.bool true, .slice A1 q1 c1] 86 (World.heap wv).size rfl; go_must (refine wpList_push _ rfl (.tmp 130) (.tmp 133) 43 rfl K 86 _ 2 32 Tryz.underlying43 info_step rfl (by omega) (.slice A q c) q _ rfl hh [.bool true, .slice A1 q1 c1] rfl _ (by first | rfl | simp) k4 (by intro u hu; simp at hu; rcases hu with rfl | rfl <;> rfl) k1 k2 k3 ?_); clear k1 k2 k3 k4; intro g9 c9 w9 own9 hg9 hgg9 hb9; have HS9 := Lib.hid ((HSp.out.alloc (.cells #[.bool true, .slice A1 q1 c1] 86)).push (x := ((⟨true, g1⟩ : StepR), Value.slice A1 q1 c1)) (by show World.ownsRow _ _ _ _ _ g1.length _; rw [HL1.out]; exact own_lowP (own_alloc HXp.out _) hKM) (by rw [HLq.out]; exact own9) hg9); have HZ9 := Lib.hid (CB.grown (HZp.out.alloc (.cells #[.bool true, .slice A1 q1 c1] 86)) hh hg9 (by decide)); have HX9 := Lib.hid (own_keepT (own_alloc HXp.out (.cells #[.bool true, .slice A1 q1 c1] 86)) hh hg9 (by decide)); have HY9 := Lib.hid (own_keepT (own_alloc HYp.out (.cells #[.bool true, .slice A1 q1 c1] 86)) hh hg9 (by decide)); have HG9 := Lib.hid ((HGp.out.alloc hKp (.cells #[.bool true, .slice A1 q1 c1] 86)).trans hb9); clear hh own9 hg9 hgg9 hb9))
                      go_roundw
                      case rel => exact ⟨1, L ++ [((⟨true, g1⟩ : StepR), Value.slice A1 q1 c1)], _, _, q + 1, by omega, by go_num, rfl, by omega, Lib.hid (by rw [List.length_append, HLq.out]; rfl), Lib.hid (by have := HS9.out; rw [List.length_append, HLq.out] at this; exact this), Lib.hid (by rw [List.map_append, HMp.out, HE.out]; simp), HZ9, HX9, HY9, HG9, by have := HG9.out.size; have := HK.out; omega⟩
                      case measure => simp [intOf]
                  | 1, _ =>
                    by_cases hz : q2 = 0
                    · have hzi : ¬ (0 : Int) < (q2 : Int) := by omega
                      have HE := Lib.hid (oneS_no (r := true) (l := g2) (by rw [HL2.out]; exact hz))
                      clear hz
                      go_wp2_with fail
                      go_roundw
                      case rel => exact ⟨2, L, A, c, q, by omega, by go_num, rfl, by omega, HLq, HSp, Lib.hid (by rw [HMp.out, HE.out]; simp), HZp, HXp, HYp, HGp, hKp⟩
                      case measure => simp [intOf]
                    · have hzi : (0 : Int) < (q2 : Int) := by omega
                      have HE := Lib.hid (oneS_yes (r := true) (l := g2) (by rw [HL2.out]; exact hz))
                      clear hz
                      go_wp2_with (at_builtin; go_loud (have hh := own_alloc HRp.out (.cells #[.bool true, .slice A2 q2 c2] 86); have k1 : (q + 1) * 32 ≤ 140737488355328 := (by omega); have k2 : q + 1 ≤ maxLen := (by unfold maxLen; omega); have k3 : K ≤ (World.alloc wv (.cells #[.bool true, .slice A2 q2 c2] 86)).heap.size := (by simp; omega); have k4 := cell_new wv [.bool true, .slice A2 q2 c2] 86 (World.heap wv).size rfl; go_must (refine wpList_push _ rfl (.tmp 130) (.tmp 133) 43 rfl K 86 _ 2 32 Tryz.underlying43 info_step rfl (by omega) (.slice A q c) q _ rfl hh [.bool true, .slice A2 q2 c2] rfl _ (by first | rfl | simp) k4 (by intro u hu; simp at hu; rcases hu with rfl | rfl <;> rfl) k1 k2 k3 ?_); clear k1 k2 k3 k4; intro g9 c9 w9 own9 hg9 hgg9 hb9; have HS9 := Lib.hid ((HSp.out.alloc (.cells #[.bool true, .slice A2 q2 c2] 86)).push (x := ((⟨true, g2⟩ : StepR), Value.slice A2 q2 c2)) (by show World.ownsRow _ _ _ _ _ g2.length _; rw [HL2.out]; exact own_lowP (own_alloc HYp.out _) hKM) (by rw [HLq.out]; exact own9) hg9); have HZ9 := Lib.hid (CB.grown (HZp.out.alloc (.cells #[.bool true, .slice A2 q2 c2] 86)) hh hg9 (by decide)); have HX9 := Lib.hid (own_keepT (own_alloc HXp.out (.cells #[.bool true, .slice A2 q2 c2] 86)) hh hg9 (by decide)); have HY9 := Lib.hid (own_keepT (own_alloc HYp.out (.cells #[.bool true, .slice A2 q2 c2] 86)) hh hg9 (by decide)); have HG9 := Lib.hid ((HGp.out.alloc hKp (.cells #[.bool true, .slice A2 q2 c2] 86)).trans hb9); clear hh own9 hg9 hgg9 hb9))
                      go_roundw
                      case rel => exact ⟨2, L ++ [((⟨true, g2⟩ : StepR), Value.slice A2 q2 c2)], _, _, q + 1, by omega, by go_num, rfl, by omega, Lib.hid (by rw [List.length_append, HLq.out]; rfl), Lib.hid (by have := HS9.out; rw [List.length_append, HLq.out] at this; exact this), Lib.hid (by rw [List.map_append, HMp.out, HE.out]; simp), HZ9, HX9, HY9, HG9, by have := HG9.out.size; have := HK.out; omega⟩
                      case measure => simp [intOf]
                  | 2, _ =>
                    go_wp2_with fail
                    go_ret
                    exact ⟨_, L, Cs, rfl, by rw [HK.out]; exact HSp.out, by rw [HMp.out, ← HFe.out, ← HG1e.out, ← HG2e.out, planL, HLa.out, HLb.out]; simp, HCs.out, by have := HLq.out; omega, by rw [HK.out]; exact HGp.out⟩
          · have hq0i : (0 : Int) < (qf : Int) := by omega
            have HN0 := Lib.hid (World.ownsRow_nil wy K 86 2)
            go_upto_region 26 with (at_builtin; go_loud (have hh := own_alloc HN0.out (.cells #[.bool false, .slice Af qf cf] 86); have k1 : (0 + 1) * 32 ≤ 140737488355328 := (by omega); have k2 : 0 + 1 ≤ maxLen := (by unfold maxLen; omega); have k3 : K ≤ (World.alloc wy (.cells #[.bool false, .slice Af qf cf] 86)).heap.size := (by simp; omega); have k4 := cell_new wy [.bool false, .slice Af qf cf] 86 (World.heap wy).size rfl; go_must (refine wpList_push _ rfl (.tmp 93) (.tmp 96) 43 rfl K 86 _ 2 32 Tryz.underlying43 info_step rfl (by omega) (.slice none 0 0) 0 _ rfl hh [.bool false, .slice Af qf cf] rfl _ (by first | rfl | simp) k4 (by intro u hu; simp at hu; rcases hu with rfl | rfl <;> rfl) k1 k2 k3 ?_); clear k1 k2 k3 k4; intro g9 c9 w9 own9 hg9 hgg9 hb9; have HS9 := Lib.hid (((StepsOwn.start wy K).alloc (.cells #[.bool false, .slice Af qf cf] 86)).push (x := ((⟨false, F⟩ : StepR), Value.slice Af qf cf)) (by show World.ownsRow _ _ _ _ _ F.length _; rw [HLf.out]; exact own_alloc HFi2.out _) own9 hg9); have HC9 := Lib.hid (own_keepT (own_alloc HCh2.out (.cells #[.bool false, .slice Af qf cf] 86)) hh hg9 (by decide)); have HR9 := Lib.hid (CB.grown (HFr3.out.alloc (.cells #[.bool false, .slice Af qf cf] 86)) hh hg9 (by decide)); have HX9 := Lib.hid (own_keepT (own_alloc HG1.out (.cells #[.bool false, .slice Af qf cf] 86)) hh hg9 (by decide)); have HY9 := Lib.hid (own_keepT (own_alloc HG2.out (.cells #[.bool false, .slice Af qf cf] 86)) hh hg9 (by decide)); have HG9 := Lib.hid ((HGy.out.alloc hKy (.cells #[.bool false, .slice Af qf cf] 86)).trans hb9); clear hh own9 hg9 hgg9 hb9))
            have HS0 := Lib.hid (show StepsOwn w9 K (.slice (some ⟨g9, 0, none⟩) 1 c9) [((⟨false, F⟩ : StepR), Value.slice Af qf cf)] from HS9.out)
            have HL0 := Lib.hid (show [((⟨false, F⟩ : StepR), Value.slice Af qf cf)].length = 1 from rfl)
            have HM0 := Lib.hid (show [((⟨false, F⟩ : StepR), Value.slice Af qf cf)].map (·.1) = oneS false F by rw [oneS_yes (by rw [HLf.out]; exact hq0)]; rfl)
            obtain ⟨L0, hL0⟩ : ∃ L : List (StepR × Value), [((⟨false, F⟩ : StepR), Value.slice Af qf cf)] = L := ⟨_, rfl⟩
            rw [hL0] at HS0 HL0 HM0
            have hL01 : L0.length ≤ 1 := by rw [← hL0]; exact Nat.le_refl _
            clear hL0 HCh2 HFr3 HG1 HG2 HGy hKy
            have HCh2 := HC9; have HFr3 := HR9; have HG1 := HX9; have HG2 := HY9; have HGy := HG9
            have hKy : K ≤ w9.heap.size := by have := HG9.out.size; have := HK.out; omega
            clear HC9 HR9 HX9 HY9 HG9 HS9 HN0
            obtain ⟨wy, rfl⟩ : ∃ w : World, w = w9 := ⟨_, rfl⟩
            have HMW := Lib.hid (show MaxT wy.heap.size wy from (HM.out.keep (by rw [HK.out]; exact HGy.out)).up (by have := HK.out; omega))
            go_upto_region 27 with (first
              | (go_at_call 45; go_loud (refine (freshSteps_q b (freshL a b) _ j K wy (HKb.out _ HGy.out) HFr3.out HLb.out (by rw [freshL, List.length_map]; exact HLb.out) HMW.out hlb HZb.out HPb.out).mono ?_; rintro e w5 ⟨v1, L1, Cs, rfl, hs1, hl1, hc1, hn1, hb⟩; obtain ⟨A1s, c1s, rfl, _⟩ := own_form hs1.row; have HS1 := Lib.hid (hs1.low hKy); have HL1s := Lib.hid hl1; have HCs := Lib.hid hc1; have HS05 := Lib.hid (HS0.out.below hb); have HC5 := Lib.hid (own_stay HCh2.out hb); have HX5 := Lib.hid (own_stay HG1.out hb); have HY5 := Lib.hid (own_stay HG2.out hb); have HG5 := Lib.hid (HGy.out.trans (hb.mono hKy)); have hK5 := Nat.le_trans hKy hb.size; have HR05 := Lib.hid HS05.out.row; rw [HL0.out] at HR05; clear hs1 hl1 hc1 hb))
              | (at_builtin; go_loud (refine wpList_joinK _ rfl (.tmp 98) (.tmp 101) 43 rfl K 86 _ 2 32 Tryz.underlying43 info_step rfl (by omega) _ _ _ rfl HR05.out K (.slice A1s L1.length c1s) L1.length (stepsC L1) rfl HS1.out.row (stepsC_one L1 HS1.out) (by have := HL0.out; omega) (by have := HL0.out; unfold maxLen; omega) hK5 ?_; intro A7 c7 w7 own7 hg7 hb7; have HS7 := Lib.hid (HS05.out.join (A := A7) (c := c7) HS1.out (by rw [HL0.out]; exact own7) (by first | exact hg7 | (rw [HL0.out]; exact hg7))); have HC7 := Lib.hid (own_keepT HC5.out HR05.out hg7 (by decide)); have HX7 := Lib.hid (own_keepT HX5.out HR05.out hg7 (by decide)); have HY7 := Lib.hid (own_keepT HY5.out HR05.out hg7 (by decide)); have HG7 := Lib.hid (HG5.out.trans hb7); clear own7 hg7 hb7)))
            have HLq7 := Lib.hid (show (L0 ++ L1).length = (L0 ++ L1).length from rfl)
            have HM7 := Lib.hid (show (L0 ++ L1).map (·.1) = oneS false F ++ stepsOf b Cs by rw [List.map_append, HM0.out, HL1s.out])
            obtain ⟨L7, hL7⟩ : ∃ L, L0 ++ L1 = L := ⟨_, rfl⟩
            have hq7 : L7.length ≤ 481 := by rw [← hL7, List.length_append]; omega
            have HLsum := Lib.hid (show L7.length = L0.length + L1.length by rw [← hL7, List.length_append])
            rw [hL7] at HM7 HS7
            clear hL7 HLq7
            have HChl := Lib.hid (fun i (hi : i ∈ Ch) => (by have := HChe.out; rw [← this] at hi; exact chI_lt hi : i < j))
            have hK7 : K ≤ w7.heap.size := by have := HG7.out.size; have := HK.out; omega
            go_wp2_with fail
            go_loopw [16, 105] (fun t16 t105 wr => ∃ (p : Nat) (L : List (StepR × Value)) (A : Option Addr) (c q : Nat), p ≤ qc ∧ t105 = .int .i64 p ∧ t16 = .slice A q c ∧ q ≤ 481 + p ∧ Hid (L.length = q) ∧ Hid (StepsOwn wr K (.slice A q c) L) ∧ Hid (L.map (·.1) = oneS false F ++ stepsOf b Cs ++ chS b (Ch.take p)) ∧ Hid (wr.ownsRow K 3 1 (.slice Ac qc cc) qc (intsV Ch)) ∧ Hid (wr.ownsRow M2 62 2 (.slice A1 q1 c1) q1 (outsC g1)) ∧ Hid (wr.ownsRow M2 62 2 (.slice A2 q2 c2) q2 (outsC g2)) ∧ Hid (Below K w wr) ∧ K ≤ wr.heap.size) (fun _ t _ => qc - (intOf t).toNat)
            case atStart => exact ⟨0, L7, A7, c7, _, Nat.zero_le _, rfl, rfl, by have := HLsum.out; have := HL0.out; omega, Lib.hid (by have := HLsum.out; have := HL0.out; omega), Lib.hid (by have h8 := HS7.out; have h9 := HLsum.out; rw [HL0.out] at h9; (try rw [Nat.zero_add] at h9); rw [h9] at h8; exact h8), Lib.hid (by rw [HM7.out]; simp [chS]), HC7, HX7, HY7, HG7, hK7⟩
            case round =>
              obtain ⟨p, L, A, c, q, hp, rfl, rfl, hqp, HLq, HSp, HMp, HCp, HXp, HYp, HGp, hKp⟩ := hrel
              obtain ⟨wx, rfl⟩ : ∃ w : World, w = wr := ⟨_, rfl⟩
              have HRp := Lib.hid HSp.out.row
              rw [HLq.out] at HRp
              by_cases hpt : p < qc
              · obtain ⟨i1, hi1⟩ : ∃ x, Ch[p]? = some x := ⟨_, List.getElem?_eq_getElem (by rw [HLc.out]; exact hpt)⟩
                have hi1l := HChl.out i1 (List.mem_of_getElem? hi1)
                obtain ⟨gcx, rfl⟩ : ∃ g, Ac = some ⟨g, 0, none⟩ := by
                  obtain ⟨A', c', hv, _, _, hA⟩ := own_form HCp.out
                  cases hv
                  obtain ⟨g, hg, _⟩ := hA (by omega)
                  exact ⟨g, hg⟩
                have d0 : wx.cell? ⟨gcx, p, none⟩ = some (.int .i64 (i1 : Int)) := own_cell HCp.out (by simp [intsV, hi1])
                obtain ⟨x, hx⟩ : ∃ x, b[i1]? = some x := ⟨_, List.getElem?_eq_getElem (by rw [HLb.out]; exact hi1l)⟩
                obtain rfl := HAb.out (by intro h0; rw [h0] at hx; simp at hx)
                have kc := (HCb.out i1 x hx).keep (HKe.out _ HGp.out)
                have k0 := kc.c0
                have k1 := kc.c1
                have hpt2 : (p : Int) < (qc : Int) := by omega
                have hi2 : (i1 : Int) < (j : Int) := by omega
                have HT2 := Lib.hid (chS_take hi1 hx)
                clear hi1 hx kc
                obtain ⟨xp, xb⟩ := x
                simp only at k0 k1 HT2
                have HFr5 := Lib.hid (own_lowP (own_fresh2 wx 62 (.string xp) (.string xb)) hKp)
                have hao := (Below.refl wx.heap.size wx).alloc (Nat.le_refl _) (.cells #[.string xp, .string xb] 62)
                have HSa := Lib.hid (HSp.out.below hao); have HCa9 := Lib.hid (own_stay HCp.out hao); have HXa := Lib.hid (own_stay HXp.out hao); have HYa := Lib.hid (own_stay HYp.out hao); have HRa := Lib.hid (own_stay HRp.out hao)
                have HGa := Lib.hid (HGp.out.trans (hao.mono hKp))
                have hKa : K ≤ (World.alloc wx (.cells #[.string xp, .string xb] 62)).heap.size := Nat.le_trans hKp hao.size
                clear hao
                go_wp2_with (at_builtin; go_loud (have hh := own_alloc HRa.out (.cells #[.bool false, .slice (some ⟨wx.heap.size, 0, none⟩) 1 1] 86); have k1 : (q + 1) * 32 ≤ 140737488355328 := (by omega); have k2 : q + 1 ≤ maxLen := (by unfold maxLen; omega); have k3 : K ≤ (World.alloc (wx.alloc (.cells #[.string xp, .string xb] 62)) (.cells #[.bool false, .slice (some ⟨wx.heap.size, 0, none⟩) 1 1] 86)).heap.size := (by simp; omega); have k4 := cell_new (wx.alloc (.cells #[.string xp, .string xb] 62)) [.bool false, .slice (some ⟨wx.heap.size, 0, none⟩) 1 1] 86 (wx.heap.size + 1) (by rw [World.size_alloc]); go_must (refine wpList_push _ rfl (.tmp 109) (.tmp 116) 43 rfl K 86 _ 2 32 Tryz.underlying43 info_step rfl (by omega) (.slice A q c) q _ rfl hh [.bool false, .slice (some ⟨wx.heap.size, 0, none⟩) 1 1] rfl _ (by first | rfl | simp) k4 (by intro u hu; simp at hu; rcases hu with rfl | rfl <;> rfl) k1 k2 k3 ?_); clear k1 k2 k3 k4; intro g9 c9 w9 own9 hg9 hgg9 hb9; have HS9 := Lib.hid ((HSa.out.alloc (.cells #[.bool false, .slice (some ⟨wx.heap.size, 0, none⟩) 1 1] 86)).push (x := ((⟨false, [⟨xp, xb⟩]⟩ : StepR), Value.slice (some ⟨wx.heap.size, 0, none⟩) 1 1)) (own_alloc HFr5.out _) (by rw [HLq.out]; exact own9) hg9); have HC9 := Lib.hid (own_keepT (own_alloc HCa9.out (.cells #[.bool false, .slice (some ⟨wx.heap.size, 0, none⟩) 1 1] 86)) hh hg9 (by decide)); have HX9 := Lib.hid (own_keepT (own_alloc HXa.out (.cells #[.bool false, .slice (some ⟨wx.heap.size, 0, none⟩) 1 1] 86)) hh hg9 (by decide)); have HY9 := Lib.hid (own_keepT (own_alloc HYa.out (.cells #[.bool false, .slice (some ⟨wx.heap.size, 0, none⟩) 1 1] 86)) hh hg9 (by decide)); have HG9 := Lib.hid ((HGa.out.alloc hKa (.cells #[.bool false, .slice (some ⟨wx.heap.size, 0, none⟩) 1 1] 86)).trans hb9); clear hh own9 hg9 hgg9 hb9))
                go_roundw
                case rel => exact ⟨p + 1, L ++ [((⟨false, [⟨xp, xb⟩]⟩ : StepR), Value.slice (some ⟨wx.heap.size, 0, none⟩) 1 1)], _, _, q + 1, by omega, by go_num, rfl, by omega, Lib.hid (by rw [List.length_append, HLq.out]; rfl), Lib.hid (by have := HS9.out; rw [List.length_append, HLq.out] at this; exact this), Lib.hid (by rw [List.map_append, HMp.out, HT2.out, ← List.append_assoc]; rfl), HC9, HX9, HY9, HG9, by have := HG9.out.size; have := HK.out; omega⟩
                case measure => simp [intOf]; omega
              · obtain rfl : p = qc := by omega
                have hpt2 : ¬ (p : Int) < (p : Int) := by omega
                have HM8 := Lib.hid (show L.map (·.1) = oneS false F ++ stepsOf b Cs ++ (upK a b 2 b.length).map (fun x => ⟨false, [x]⟩) by
                  rw [HMp.out, List.take_of_length_le (by rw [HLc.out]; exact Nat.le_refl _), ← HChe.out, ← chS_all, HLb.out])
                have hao := (Below.refl wx.heap.size wx).alloc (Nat.le_refl _) (.cells #[.slice A1 q1 c1, .slice A2 q2 c2] 22)
                have HZ0 := Lib.hid (CB.new wx #[.slice A1 q1 c1, .slice A2 q2 c2] 22)
                have HSa := Lib.hid (HSp.out.below hao); have HXa := Lib.hid (own_stay HXp.out hao); have HYa := Lib.hid (own_stay HYp.out hao)
                have HGa := Lib.hid (HGp.out.trans (hao.mono hKp))
                have hKa : K ≤ (World.alloc wx (.cells #[.slice A1 q1 c1, .slice A2 q2 c2] 22)).heap.size := Nat.le_trans hKp hao.size
                obtain ⟨Z, hZ⟩ : ∃ Z, wx.heap.size = Z := ⟨_, rfl⟩
                rw [hZ] at HZ0
                clear hao
                go_wp2_with fail
                clear hZ
                go_loopw [16, 123] (fun t16 t123 wr => ∃ (r : Nat) (L : List (StepR × Value)) (A : Option Addr) (c q : Nat), r ≤ 2 ∧ t123 = .int .i64 r ∧ t16 = .slice A q c ∧ q ≤ 481 + p + r ∧ Hid (L.length = q) ∧ Hid (StepsOwn wr K (.slice A q c) L) ∧ Hid (L.map (·.1) = oneS false F ++ stepsOf b Cs ++ (upK a b 2 b.length).map (fun x => ⟨false, [x]⟩) ++ (if 0 < r then oneS true g1 else []) ++ (if 1 < r then oneS true g2 else [])) ∧ Hid (CB wr Z 22 #[.slice A1 q1 c1, .slice A2 q2 c2]) ∧ Hid (wr.ownsRow M2 62 2 (.slice A1 q1 c1) q1 (outsC g1)) ∧ Hid (wr.ownsRow M2 62 2 (.slice A2 q2 c2) q2 (outsC g2)) ∧ Hid (Below K w wr) ∧ K ≤ wr.heap.size) (fun _ t _ => 2 - (intOf t).toNat)
                case atStart => exact ⟨0, L, A, c, q, Nat.zero_le _, rfl, rfl, by omega, HLq, HSa, Lib.hid (by rw [HM8.out]; simp), HZ0, HXa, HYa, HGa, hKa⟩
                case round =>
                  clear HZ0 HSa HXa HYa HGa hKa HSp HRp HMp HCp HXp HYp HGp hKp HLq HM8 hqp
                  obtain ⟨r, L, A, c, q, hr, rfl, rfl, hqr, HLq, HSp, HMp, HZp, HXp, HYp, HGp, hKp⟩ := hrel
                  obtain ⟨wv, rfl⟩ : ∃ w : World, w = wr := ⟨_, rfl⟩
                  have HRp := Lib.hid HSp.out.row
                  rw [HLq.out] at HRp
                  have z0 : wv.cell? ⟨Z, 0, none⟩ = some (.slice A1 q1 c1) := HZp.out.c 0
                  have z1 : wv.cell? ⟨Z, 1, none⟩ = some (.slice A2 q2 c2) := HZp.out.c 1
                  match r, hr with
                  | 0, _ =>
                    by_cases hz : q1 = 0
                    · have hzi : ¬ (0 : Int) < (q1 : Int) := by omega
                      have HE := Lib.hid (oneS_no (r := true) (l := g1) (by rw [HL1.out]; exact hz))
                      clear hz
                      go_wp2_with fail
                      go_roundw
                      case rel => exact ⟨1, L, A, c, q, by omega, by go_num, rfl, by omega, HLq, HSp, Lib.hid (by rw [HMp.out, HE.out]; simp), HZp, HXp, HYp, HGp, hKp⟩
                      case measure => simp [intOf]
                    · have hzi : (0 : Int) < (q1 : Int) := by omega
                      have HE := Lib.hid (oneS_yes (r := true) (l := g1) (by rw [HL1.out]; exact hz))
                      clear hz
                      go_wp2_with (at_builtin; go_loud (have hh := own_alloc HRp.out (.cells #[.bool true, .slice A1 q1 c1] 86); have k1 : (q + 1) * 32 ≤ 140737488355328 := (by omega); have k2 : q + 1 ≤ maxLen := (by unfold maxLen; omega); have k3 : K ≤ (World.alloc wv (.cells #[.bool true, .slice A1 q1 c1] 86)).heap.size := (by simp; omega); have k4 := cell_new wv [.bool true, .slice A1 q1 c1] 86 (World.heap wv).size rfl; go_must (refine wpList_push _ rfl (.tmp 130) (.tmp 133) 43 rfl K 86 _ 2 32 Tryz.underlying43 info_step rfl (by omega) (.slice A q c) q _ rfl hh [.bool true, .slice A1 q1 c1] rfl _ (by first | rfl | simp) k4 (by intro u hu; simp at hu; rcases hu with rfl | rfl <;> rfl) k1 k2 k3 ?_); clear k1 k2 k3 k4; intro g9 c9 w9 own9 hg9 hgg9 hb9; have HS9 := Lib.hid ((HSp.out.alloc (.cells #[.bool true, .slice A1 q1 c1] 86)).push (x := ((⟨true, g1⟩ : StepR), Value.slice A1 q1 c1)) (by show World.ownsRow _ _ _ _ _ g1.length _; rw [HL1.out]; exact own_lowP (own_alloc HXp.out _) hKM) (by rw [HLq.out]; exact own9) hg9); have HZ9 := Lib.hid (CB.grown (HZp.out.alloc (.cells #[.bool true, .slice A1 q1 c1] 86)) hh hg9 (by decide)); have HX9 := Lib.hid (own_keepT (own_alloc HXp.out (.cells #[.bool true, .slice A1 q1 c1] 86)) hh hg9 (by decide)); have HY9 := Lib.hid (own_keepT (own_alloc HYp.out (.cells #[.bool true, .slice A1 q1 c1] 86)) hh hg9 (by decide)); have HG9 := Lib.hid ((HGp.out.alloc hKp (.cells #[.bool true, .slice A1 q1 c1] 86)).trans hb9); clear hh own9 hg9 hgg9 hb9))
                      go_roundw
                      case rel => exact ⟨1, L ++ [((⟨true, g1⟩ : StepR), Value.slice A1 q1 c1)], _, _, q + 1, by omega, by go_num, rfl, by omega, Lib.hid (by rw [List.length_append, HLq.out]; rfl), Lib.hid (by have := HS9.out; rw [List.length_append, HLq.out] at this; exact this), Lib.hid (by rw [List.map_append, HMp.out, HE.out]; simp), HZ9, HX9, HY9, HG9, by have := HG9.out.size; have := HK.out; omega⟩
                      case measure => simp [intOf]
                  | 1, _ =>
                    by_cases hz : q2 = 0
                    · have hzi : ¬ (0 : Int) < (q2 : Int) := by omega
                      have HE := Lib.hid (oneS_no (r := true) (l := g2) (by rw [HL2.out]; exact hz))
                      clear hz
                      go_wp2_with fail
                      go_roundw
                      case rel => exact ⟨2, L, A, c, q, by omega, by go_num, rfl, by omega, HLq, HSp, Lib.hid (by rw [HMp.out, HE.out]; simp), HZp, HXp, HYp, HGp, hKp⟩
                      case measure => simp [intOf]
                    · have hzi : (0 : Int) < (q2 : Int) := by omega
                      have HE := Lib.hid (oneS_yes (r := true) (l := g2) (by rw [HL2.out]; exact hz))
                      clear hz
                      go_wp2_with (at_builtin; go_loud (have hh := own_alloc HRp.out (.cells #[.bool true, .slice A2 q2 c2] 86); have k1 : (q + 1) * 32 ≤ 140737488355328 := (by omega); have k2 : q + 1 ≤ maxLen := (by unfold maxLen; omega); have k3 : K ≤ (World.alloc wv (.cells #[.bool true, .slice A2 q2 c2] 86)).heap.size := (by simp; omega); have k4 := cell_new wv [.bool true, .slice A2 q2 c2] 86 (World.heap wv).size rfl; go_must (refine wpList_push _ rfl (.tmp 130) (.tmp 133) 43 rfl K 86 _ 2 32 Tryz.underlying43 info_step rfl (by omega) (.slice A q c) q _ rfl hh [.bool true, .slice A2 q2 c2] rfl _ (by first | rfl | simp) k4 (by intro u hu; simp at hu; rcases hu with rfl | rfl <;> rfl) k1 k2 k3 ?_); clear k1 k2 k3 k4; intro g9 c9 w9 own9 hg9 hgg9 hb9; have HS9 := Lib.hid ((HSp.out.alloc (.cells #[.bool true, .slice A2 q2 c2] 86)).push (x := ((⟨true, g2⟩ : StepR), Value.slice A2 q2 c2)) (by show World.ownsRow _ _ _ _ _ g2.length _; rw [HL2.out]; exact own_lowP (own_alloc HYp.out _) hKM) (by rw [HLq.out]; exact own9) hg9); have HZ9 := Lib.hid (CB.grown (HZp.out.alloc (.cells #[.bool true, .slice A2 q2 c2] 86)) hh hg9 (by decide)); have HX9 := Lib.hid (own_keepT (own_alloc HXp.out (.cells #[.bool true, .slice A2 q2 c2] 86)) hh hg9 (by decide)); have HY9 := Lib.hid (own_keepT (own_alloc HYp.out (.cells #[.bool true, .slice A2 q2 c2] 86)) hh hg9 (by decide)); have HG9 := Lib.hid ((HGp.out.alloc hKp (.cells #[.bool true, .slice A2 q2 c2] 86)).trans hb9); clear hh own9 hg9 hgg9 hb9))
                      go_roundw
                      case rel => exact ⟨2, L ++ [((⟨true, g2⟩ : StepR), Value.slice A2 q2 c2)], _, _, q + 1, by omega, by go_num, rfl, by omega, Lib.hid (by rw [List.length_append, HLq.out]; rfl), Lib.hid (by have := HS9.out; rw [List.length_append, HLq.out] at this; exact this), Lib.hid (by rw [List.map_append, HMp.out, HE.out]; simp), HZ9, HX9, HY9, HG9, by have := HG9.out.size; have := HK.out; omega⟩
                      case measure => simp [intOf]
                  | 2, _ =>
                    go_wp2_with fail
                    go_ret
                    exact ⟨_, L, Cs, rfl, by rw [HK.out]; exact HSp.out, by rw [HMp.out, ← HFe.out, ← HG1e.out, ← HG2e.out, planL, HLa.out, HLb.out]; simp, HCs.out, by have := HLq.out; omega, by rw [HK.out]; exact HGp.out⟩

end Go.Proofs.YtbhildmalcfhiaaGreatDoor

namespace Go.Proofs.YtbhildmalcfhiaaGreatDoor
open Go.RowKit Go.Deep

/-- of what was there only blocks of steps and of rows of steps have turned -/
def StepBlk (w : World) (g : Nat) : Prop := ∃ (t : TypeId) (cs : Array Value), CB w g t cs ∧ (t = 86 ∨ t = 43)
/-- the variable out: its steps -/
structure AddAt (w : World) (K O : Nat) (L : List (StepR × Value)) : Prop where
  ex : ∃ (A : Option Addr) (c : Nat), CB w O 43 #[.slice A L.length c] ∧ StepsOwn w K (.slice A L.length c) L
  lo : K ≤ O
theorem AddAt.keepN {w w' : World} {K O : Nat} {L : List (StepR × Value)} {p : Nat → Prop} (h : AddAt w K O L) (k : GrownX p w w') (hp : ∀ g, p g → NoSt w g) (hO : ¬ p O) : AddAt w' K O L := by
  obtain ⟨⟨A, c, h1, h2⟩, h3⟩ := h
  exact ⟨⟨A, c, h1.keepX k hO, h2.keepN k hp⟩, h3⟩
theorem AddAt.below {w w' : World} {K O : Nat} {L : List (StepR × Value)} (h : AddAt w K O L) (hb : Below w.heap.size w w') : AddAt w' K O L := h.keepN (.of_below (p := fun _ => False) hb) (fun _ e => e.elim) (fun e => e)
def AddPost (K O : Nat) (L : List (StepR × Value)) (x : StepR × Value) (w : World) (e : Ending) (w' : World) : Prop :=
  e = .returned (.tuple #[]) ∧ AddAt w' K O (if x.1.files.length = 0 then L else L ++ [x]) ∧ GrownX (StepBlk w) w w' ∧ Below K w w'
theorem stepBlk_row {w : World} {B K n g : Nat} {v : Value} {xs : List Value} (h : w.ownsRow B 86 K v n xs) (hg : v.ownBlock = some g) : StepBlk w g := by
  obtain ⟨cs, hc⟩ := own_type h hg
  exact ⟨_, cs, hc, Or.inl rfl⟩
set_option maxRecDepth 100000 in
set_option maxHeartbeats 8000000 in
theorem add_q (K O : Nat) (L : List (StepR × Value)) (r : Bool) (F : List OutV) (Af : Option Addr) (qf cf : Nat) (w : World) (h : AddAt w K O L) (hF : w.ownsRow K 62 2 (.slice Af qf cf) qf (outsC F)) (hl : F.length = qf) (hL : L.length ≤ 2000) :
    Calls Tryz.prog 40 #[.agg #[.bool r, .slice Af qf cf], .pointer (some ⟨O, 0, none⟩)] w (AddPost K O L ((⟨r, F⟩ : StepR), .slice Af qf cf) w) := by
  obtain ⟨⟨A, c, h1, h2⟩, hKO⟩ := h
  obtain ⟨q, hq⟩ : ∃ q, L.length = q := ⟨_, rfl⟩
  rw [hq] at h1 h2 hL
  have HC := Lib.hid h1; have HS := Lib.hid h2; have HF := Lib.hid hF; have HLq := Lib.hid hq; have HFl := Lib.hid hl
  have hOw : O < w.heap.size := h1.lt
  have hKw : K ≤ w.heap.size := by omega
  have HRow := Lib.hid (show w.ownsRow K 86 2 (.slice A q c) q (stepsC L) by have := h2.row; rw [hq] at this; exact this)
  clear h1 h2 hF hq hl
  have hb0 := (Below.refl w.heap.size w).alloc (Nat.le_refl _) (.cells #[.bool r, .slice Af qf cf] 86)
  have HC1 := Lib.hid (HC.out.below hb0); have HS1 := Lib.hid (HS.out.below hb0); have HF1 := Lib.hid (own_stay HF.out hb0); have HR1 := Lib.hid (own_stay HRow.out hb0)
  obtain ⟨W1, hW1⟩ : ∃ W, w.alloc (.cells #[.bool r, .slice Af qf cf] 86) = W := ⟨_, rfl⟩
  have HB0 := Lib.hid hb0
  rw [hW1] at HC1 HS1 HF1 HR1 HB0
  have HKW := Lib.hid (show K ≤ W1.heap.size from Nat.le_trans hKw HB0.out.size)
  have o0 : W1.cell? ⟨O, 0, none⟩ = some (.slice A q c) := HC1.out.c 0
  have o0f := HC1.out.f 0
  have HT := Lib.hid (show CB W1 w.heap.size 86 #[.bool r, .slice Af qf cf] by rw [← hW1]; exact CB.new _ _ _)
  have s0 : W1.cell? ⟨w.heap.size, 0, none⟩ = some (.bool r) := HT.out.c 0
  have s1 : W1.cell? ⟨w.heap.size, 1, none⟩ = some (.slice Af qf cf) := HT.out.c 1
  by_cases h0 : qf = 0
  · have h0i : ¬ (0 : Int) < (qf : Int) := by omega
    have HV := Lib.hid (show (if F.length = 0 then L else L ++ [((⟨r, F⟩ : StepR), Value.slice Af qf cf)]) = L by rw [if_pos (by rw [HFl.out]; exact h0)])
    clear h0
    go_enter Tryz.func40, Tryz.ntmps40
    go_wp2_with fail
    go_end0
    exact ⟨rfl, by show AddAt _ K O (if F.length = 0 then L else L ++ [_]); rw [HV.out]; exact ⟨⟨A, c, by rw [HLq.out]; exact HC1.out, by rw [HLq.out]; exact HS1.out⟩, hKO⟩, .of_below HB0.out, HB0.out.mono hKw⟩
  · have h0i : (0 : Int) < (qf : Int) := by omega
    have HV := Lib.hid (show (if F.length = 0 then L else L ++ [((⟨r, F⟩ : StepR), Value.slice Af qf cf)]) = L ++ [((⟨r, F⟩ : StepR), Value.slice Af qf cf)] by rw [if_neg (by rw [HFl.out]; exact h0)])
    clear h0
    go_enter Tryz.func40, Tryz.ntmps40
    go_wp2_with (at_builtin; go_loud (have hh := own_alloc HR1.out (.cells #[.bool r, .slice Af qf cf] 86); have k1 : (q + 1) * 32 ≤ 140737488355328 := (by omega); have k2 : q + 1 ≤ maxLen := (by unfold maxLen; omega); have k3 : K ≤ (World.alloc W1 (.cells #[.bool r, .slice Af qf cf] 86)).heap.size := (by have := HKW.out; simp; omega); have k4 := cell_new W1 [.bool r, .slice Af qf cf] 86 (World.heap W1).size rfl; go_must (refine wpList_push _ rfl (.tmp 7) (.tmp 9) 43 rfl K 86 _ 2 32 Tryz.underlying43 info_step rfl (by omega) (.slice A q c) q _ rfl hh [.bool r, .slice Af qf cf] rfl _ (by first | rfl | simp) k4 (by intro u hu; simp at hu; rcases hu with rfl | rfl <;> rfl) k1 k2 k3 ?_); clear k1 k2 k3 k4; intro g9 c9 w9 own9 hg9 hgg9 hb9; have HS9 := Lib.hid ((HS1.out.alloc (.cells #[.bool r, .slice Af qf cf] 86)).push (x := ((⟨r, F⟩ : StepR), Value.slice Af qf cf)) (by show World.ownsRow _ _ _ _ _ F.length _; rw [HFl.out]; exact own_alloc HF1.out _) (by rw [HLq.out]; exact own9) hg9); have HC9 := Lib.hid (CB.grown (HC1.out.alloc (.cells #[.bool r, .slice Af qf cf] 86)) hh hg9 (by decide)); have HG9 := Lib.hid (((GrownX.refl (StepBlk w) w).trans (.of_below HB0.out)).alloc (.cells #[.bool r, .slice Af qf cf] 86) |>.trans2 (GrownX.of_grown (p := fun x => (Value.slice A q c).ownBlock = some x) hg9 (fun _ e => e)) (fun x hx e => stepBlk_row HRow.out e)); have HB9 := Lib.hid (((HB0.out.mono hKw).alloc HKW.out (.cells #[.bool r, .slice Af qf cf] 86)).trans hb9); clear hh own9 hg9 hgg9 hb9; have v0 : w9.cell? ⟨O, 0, none⟩ = some (.slice A q c) := HC9.out.c 0; have v0f := HC9.out.f 0))
    go_end0
    refine ⟨rfl, ?_, HG9.out.set (Or.inl ⟨_, _, HC.out, Or.inr rfl⟩) _ _, HB9.out.setCell hKO _⟩
    show AddAt _ K O (if F.length = 0 then L else L ++ [_])
    rw [HV.out]
    refine ⟨⟨some ⟨g9, 0, none⟩, c9, ?_, ?_⟩, hKO⟩
    · have := HC9.out.put 0 (.slice (some ⟨g9, 0, none⟩) (q + 1) c9)
      rw [List.length_append, HLq.out]
      exact this
    · exact HS9.out.keepN (p := fun x => x = O) (GrownX.one0 _ _ _ _) (fun g e => by rw [e]; exact NoSt.cb HC9.out (by decide) (by decide))

end Go.Proofs.YtbhildmalcfhiaaGreatDoor

namespace Go.Proofs.YtbhildmalcfhiaaGreatDoor
open Go.RowKit Go.Deep

theorem reach_half {t1 t2 : Nat → List Nat} {left : Nat → Bool} (h : ∀ k, left k = true → ∀ n ∈ t1 k, n ∈ t2 k ∨ n = k) {i k : Nat} (hi : left i = true) (hr : Reach t1 left i k) : Reach t2 left i k := by
  induction hr with
  | here => exact .here
  | step hr hn hl ih =>
    rcases h _ (hr.isLeft hi) _ hn with h1 | h1
    · exact .step ih h1 hl
    · rw [h1]; exact ih
/-- two tellings of references that differ by references to oneself -/
def SameTo (t1 t2 : Nat → List Nat) (left : Nat → Bool) : Prop := ∀ k, left k = true → (∀ n ∈ t1 k, n ∈ t2 k ∨ n = k) ∧ (∀ n ∈ t2 k, n ∈ t1 k ∨ n = k)
theorem SameTo.symm {t1 t2 : Nat → List Nat} {left : Nat → Bool} (h : SameTo t1 t2 left) : SameTo t2 t1 left := fun k hk => ⟨(h k hk).2, (h k hk).1⟩
theorem SameTo.clo {t1 t2 : Nat → List Nat} {left : Nat → Bool} (h : SameTo t1 t2 left) {i : Nat} (hi : left i = true) {C : List Nat} (hc : IsClo t1 left i C) : IsClo t2 left i C :=
  ⟨hc.srt, fun k => (hc.mem k).trans ⟨reach_half (fun k hk => (h k hk).1) hi, reach_half (fun k hk => (h k hk).2) hi⟩⟩
theorem SameTo.best {t1 t2 : Nat → List Nat} {left : Nat → Bool} (h : SameTo t1 t2 left) {C : List Nat} (hc : BestC t1 left C) : BestC t2 left C := by
  obtain ⟨⟨i, hi, h1⟩, h2⟩ := hc
  exact ⟨⟨i, hi, h.clo hi h1⟩, fun j D hj hD => h2 j D hj (h.symm.clo hj hD)⟩
theorem SameTo.steps {t1 t2 : Nat → List Nat} {left : Nat → Bool} {R : List (List Nat)} (h : SameTo t1 t2 left) (hs : StepsC t1 left R) : StepsC t2 left R := by
  induction hs with
  | done h0 => exact .done h0
  | next hb _ ih => exact .next (h.best hb) (ih (fun k hk => h k (by simp [without] at hk; exact hk.1)))

theorem hasF_iff {b : List OutV} {s : ByteArray} : hasF (pathsF b) s = true ↔ 0 ≤ outAtI b s.data.toList := by
  have h1 := outAtI_neg (l := b) (s := s.data.toList)
  have h2 : hasF (pathsF b) s = true ↔ ∃ o ∈ b, o.path.data.toList = s.data.toList := by
    unfold hasF pathsF
    by_cases h : (b.any fun o => o.path.data.toList == s.data.toList) = true
    · rw [if_pos h]
      obtain ⟨o, ho, e⟩ := List.any_eq_true.1 h
      simp only [Option.getD_some, true_iff]
      exact ⟨o, ho, by simpa using e⟩
    · rw [if_neg h]
      simp only [Option.getD_none, Bool.false_eq_true, false_iff]
      rintro ⟨o, ho, e⟩
      exact h (List.any_eq_true.2 ⟨o, ho, by simpa using e⟩)
  rw [h2]
  constructor
  · rintro ⟨o, ho, e⟩
    by_cases h3 : 0 ≤ outAtI b s.data.toList
    · exact h3
    · exact absurd e (h1.1 (by omega) o ho)
  · intro h3
    obtain ⟨n, hn⟩ : ∃ n : Nat, outAtI b s.data.toList = n := ⟨(outAtI b s.data.toList).toNat, by omega⟩
    obtain ⟨_, o, ho, e⟩ := outAtI_lt hn
    exact ⟨o, List.mem_of_getElem? ho, e⟩
/-- the place of a path -/
def idxB (b : List OutV) (s : ByteArray) : Nat := (outAtI b s.data.toList).toNat
theorem idxB_path {b : List OutV} {s : ByteArray} (h : 0 ≤ outAtI b s.data.toList) : pathA b (idxB b s) = s ∧ idxB b s < b.length := by
  obtain ⟨n, hn⟩ : ∃ n : Nat, outAtI b s.data.toList = n := ⟨(outAtI b s.data.toList).toNat, by omega⟩
  obtain ⟨h1, o, ho, e⟩ := outAtI_lt hn
  have h2 : idxB b s = n := by rw [idxB, hn]; rfl
  rw [h2]
  exact ⟨by rw [pathA_at ho]; exact bytes_ext e, h1⟩
theorem lead_reach (b : List OutV) (x : ByteArray) (d : Bool) : (leadF (pathsF b) x d).map (idxB b) = if 0 ≤ reachI b x d then some (reachI b x d).toNat else none := by
  by_cases h : hasF (pathsF b) x = true
  · have h1 := hasF_iff.1 h
    have hr : reachI b x d = outAtI b x.data.toList := by unfold reachI; rw [if_neg (fun h2 => by omega)]
    rw [hr, if_pos h1, leadF, if_pos h]; rfl
  · have h1 : ¬ 0 ≤ outAtI b x.data.toList := fun h2 => h (hasF_iff.2 h2)
    rw [leadF, if_neg h]
    cases d with
    | true =>
      have hr : reachI b x true = outAtI b x.data.toList := by unfold reachI; rw [if_neg (fun h2 => by cases h2.2)]
      rw [hr, if_neg h1, if_neg (fun h2 => by cases h2.1)]; rfl
    | false =>
      have hr : reachI b x false = outAtI b (x ++ idxP).data.toList := by unfold reachI; rw [if_pos ⟨by omega, rfl⟩]; rfl
      rw [hr]
      by_cases h2 : hasF (pathsF b) (x ++ idxP) = true
      · rw [if_pos ⟨rfl, h2⟩, if_pos (hasF_iff.1 h2)]; rfl
      · rw [if_neg (fun h3 => h2 h3.2), if_neg (fun h3 => h2 (hasF_iff.2 h3))]; rfl
theorem lead_has {b : List OutV} {x s : ByteArray} {d : Bool} (h : leadF (pathsF b) x d = some s) : 0 ≤ outAtI b s.data.toList := by
  unfold leadF at h
  split at h
  · rename_i h1; cases h; exact hasF_iff.1 h1
  · split at h
    · rename_i h1; cases h; exact hasF_iff.1 h1.2
    · cases h
theorem refT_has {b : List OutV} {p t s : ByteArray} (h : refT (pathsF b) p t = some s) : 0 ≤ outAtI b s.data.toList := by
  unfold refT at h
  split at h
  · cases h
  · obtain ⟨x, _, hx⟩ := Option.bind_eq_some_iff.1 h
    exact lead_has hx
/-- a reference by its path and by its place -/
theorem refT_refI {b : List OutV} {p t : ByteArray} (hp : 0 ≤ outAtI b p.data.toList) : (refT (pathsF b) p t).map (idxB b) = if outB t.data.toList = true then none else if (bareS t).size = 0 then some (idxB b p) else refI b p t := by
  unfold refT refI
  by_cases h1 : outB t.data.toList = true
  · rw [if_pos h1, if_pos h1]; rfl
  · rw [if_neg h1, if_neg h1]
    by_cases h2 : (bareS t).size = 0
    · rw [if_pos h2]
      have h3 : placeOf p t = some (p, false) := by rw [placeOf, if_pos h2]
      rw [h3, Option.bind_some, leadF, if_pos (hasF_iff.2 hp)]; rfl
    · rw [if_neg h2, if_neg (fun h => h.elim h1 h2)]
      cases h3 : placeOf p t with
      | none => rfl
      | some x =>
        rw [Option.bind_some, Option.bind_some]
        exact lead_reach b x.1 x.2
/-- the outputs to which page k refers -/
noncomputable def refsK (b : List OutV) (k : Nat) : List ByteArray := match b[k]? with | some o => refsF (pathsF b) o.path (outLinks o) | none => []
noncomputable def tosP (b : List OutV) (k : Nat) : List Nat := (refsK b k).map (idxB b)
theorem refsK_at {b : List OutV} {k : Nat} {o : OutV} (h : b[k]? = some o) : refsK b k = refsF (pathsF b) o.path (outLinks o) := by rw [refsK, h]
theorem refsK_mem {b : List OutV} {k : Nat} {s : ByteArray} (h : s ∈ refsK b k) : 0 ≤ outAtI b s.data.toList := by
  unfold refsK at h
  split at h
  · obtain ⟨x, _, hx⟩ := List.mem_filterMap.1 h
    exact refT_has hx
  · cases h
theorem tosP_path (b : List OutV) (k : Nat) : (tosP b k).map (pathA b) = refsK b k := by
  rw [tosP, List.map_map]
  conv => rhs; rw [← List.map_id (refsK b k)]
  apply List.map_congr_left
  intro s hs
  exact (idxB_path (refsK_mem hs)).1
theorem tosP_lt {b : List OutV} {k n : Nat} (h : n ∈ tosP b k) : n < b.length := by
  obtain ⟨s, hs, rfl⟩ := List.mem_map.1 h
  exact (idxB_path (refsK_mem hs)).2
theorem idx_self {b : List OutV} (hr : RiseP b) {k : Nat} {o : OutV} (ho : b[k]? = some o) : outAtI b o.path.data.toList = (k : Int) ∧ idxB b o.path = k := by
  obtain ⟨n, hn⟩ := outAtI_mem (List.mem_of_getElem? ho)
  have h1 := outAtI_lt hn
  have h2 : pathK b n = pathK b k := by
    obtain ⟨_, p, hp, e⟩ := h1
    rw [pathK, pathK, pathA_at hp, pathA_at ho, e]
  have h3 := hr.inj h1.1 (List.getElem?_eq_some_iff.1 ho).1 h2
  subst h3
  exact ⟨hn, by rw [idxB, hn]; rfl⟩
theorem outLinks_path {o : OutV} {x : LinkR} (h : x ∈ outLinks o) : x.path = o.path := by
  unfold outLinks at h
  split at h
  · exact (linksV_size h).2
  · cases h
/-- the references of the program and those of the document -/
theorem tos_same {b : List OutV} (hr : RiseP b) (left : Nat → Bool) (hl : ∀ k, left k = true → k < b.length) : SameTo (fun k => rowOf b (allLinks b) k) (tosP b) left := fun k hk => by
  obtain ⟨o, ho⟩ : ∃ o, b[k]? = some o := ⟨_, List.getElem?_eq_getElem (hl k hk)⟩
  obtain ⟨hi1, hi2⟩ := idx_self hr ho
  have hp0 : 0 ≤ outAtI b o.path.data.toList := by rw [hi1]; omega
  have key : ∀ x ∈ outLinks o, ∀ n, refI b x.path x.target = some n → n ∈ tosP b k := fun x hx n hn => by
    have h1 := refT_refI (t := x.target) hp0
    have hxp := outLinks_path hx
    rw [hxp] at hn
    have hno : ¬ (outB x.target.data.toList = true ∨ (bareS x.target).size = 0) := fun h => by rw [refI_no h] at hn; cases hn
    rw [if_neg (fun h => hno (Or.inl h)), if_neg (fun h => hno (Or.inr h)), hn] at h1
    obtain ⟨s, hs, hs2⟩ := Option.map_eq_some_iff.1 h1
    rw [tosP, refsK_at ho]
    exact List.mem_map.2 ⟨s, List.mem_filterMap.2 ⟨x, hx, hs⟩, hs2⟩
  refine ⟨fun n hn => ?_, fun n hn => ?_⟩
  · left
    obtain ⟨x, hx, hxn⟩ := List.mem_filterMap.1 hn
    split at hxn
    · rename_i hxk
      obtain ⟨o2, ho2, hx2⟩ := List.mem_flatMap.1 hx
      have hxp := outLinks_path hx2
      obtain ⟨k2, hk2⟩ := List.getElem?_of_mem ho2
      have h3 := (idx_self hr hk2).1
      rw [← hxp, hxk] at h3
      have : k = k2 := by omega
      subst this
      rw [ho] at hk2; cases hk2
      exact key x hx2 n hxn
    · cases hxn
  · rw [tosP, refsK_at ho] at hn
    obtain ⟨s, hs, rfl⟩ := List.mem_map.1 hn
    obtain ⟨x, hx, hxs⟩ := List.mem_filterMap.1 hs
    have h1 := refT_refI (t := x.target) hp0
    rw [hxs, Option.map_some] at h1
    have hxp := outLinks_path hx
    split at h1
    · cases h1
    · split at h1
      · right
        have := Option.some.inj h1
        rw [this, hi2]
      · left
        refine List.mem_filterMap.2 ⟨x, List.mem_flatMap.2 ⟨o, List.mem_of_getElem? ho, hx⟩, ?_⟩
        rw [if_pos (by rw [hxp]; exact hi1), hxp]
        exact h1.symm

end Go.Proofs.YtbhildmalcfhiaaGreatDoor
