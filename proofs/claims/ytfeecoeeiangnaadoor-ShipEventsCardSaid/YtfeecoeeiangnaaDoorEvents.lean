/-
  The addresses of what differs between two sites: ship.Events, mastref1.EventsOf.
-/
import Derived.Test.YtfeecoeeiangnaaDoorEvWalk
import Derived.Test.YtfeecoeeiangnaaDoorRowOps
import Derived.Test.YtfeecoeeiangnaaDoorBuilderK
import Derived.Sort.OwnSorted
namespace Go.Proofs.YtfeecoeeiangnaaDoor
open Go.RowKit Go.Deep

def SortPost (B : Nat) (v : Value) (L : List (List UInt8)) (w : World) (e : Ending) (w' : World) : Prop :=
  e = .returned (.tuple #[]) ∧ w'.ownsRow B 9 1 v L.length (strCells (L.mergeSort fun x y => decide (x ≤ y))) ∧ w.grownBy w' v.ownBlock
theorem sortS_q (B : Nat) (v : Value) (L : List (List UInt8)) (w : World) (h : w.ownsRow B 9 1 v L.length (strCells L)) (hl : L.length ≤ 1048576) : Calls Tryd.prog 33 #[v] w (SortPost B v L w) := by
  rcases h.2 with ⟨rfl, h0⟩ | ⟨g, cap, cur, rfl, hB, hg, hnc, hm, hsz, htake⟩
  · obtain rfl : L = [] := List.eq_nil_of_length_eq_zero (by simpa using h0)
    refine (Tryd.sort_Strings_none none 0 w).mono fun e w' ⟨he, hw⟩ => ?_
    subst hw
    exact ⟨he, by simpa using h, grown_below (Below.refl _ _)⟩
  · have hgl : g < w.heap.size := (Array.getElem?_eq_some_iff.1 hg).1
    refine (Tryd.sort_Strings g 0 cap L w (holds_of_block hg (by rw [Nat.mul_one] at htake; simpa [strCells] using htake)) hgl (by omega)).mono fun e w' ⟨he, n, os, hw⟩ => ?_
    subst hw
    have hl2 : (L.mergeSort fun x y => decide (x ≤ y)).length = L.length := List.length_mergeSort _
    exact ⟨he, ownsRow_sorted hl2 hB hg hnc hm (by simpa using hsz), grownBy_sorted _⟩

theorem smap_some {P : Program} {k e t : TypeId} {w : World} {b n : Nat} {f : List UInt8 → Option (List UInt8)} {y : List UInt8} {s : ByteArray} (h : SMap P k e w b n f) (hk : P.underlying k = some .string) (he : P.underlying e = some .string) (ht : P.underlying t = some (.map k e)) (hs : s.size ≤ maxLen) (hz : (zeroValue e).run P w = .ok (.string ⟨#[]⟩) w) (hf : f s.data.toList = some y) :
    (Instr.lookup t (.map (some b)) (.string s) true).run P w = .ok (.tuple #[.string (str0 y), .bool true]) w := by
  have := smap_look_ok h hk he ht hs hz
  rw [hf] at this
  exact this
theorem smap_none {P : Program} {k e t : TypeId} {w : World} {b n : Nat} {f : List UInt8 → Option (List UInt8)} {s : ByteArray} (h : SMap P k e w b n f) (hk : P.underlying k = some .string) (he : P.underlying e = some .string) (ht : P.underlying t = some (.map k e)) (hs : s.size ≤ maxLen) (hz : (zeroValue e).run P w = .ok (.string ⟨#[]⟩) w) (hf : f s.data.toList = none) :
    (Instr.lookup t (.map (some b)) (.string s) true).run P w = .ok (.tuple #[.string ⟨#[]⟩, .bool false]) w := by
  have := smap_look_ok h hk he ht hs hz
  rw [hf] at this
  exact this
theorem zero_str (w : World) : (zeroValue 9).run Tryd.prog w = .ok (.string ⟨#[]⟩) w := by kernel_rfl
theorem info_strE : (Tryd.prog.info? 9).map (fun i => (i.zero, i.size, i.bytes)) = some (some (.string ⟨#[]⟩), 1, 16) := by kernel_rfl

/-- the addresses of those that count, of the first j -/
def fl (p : OutV → Bool) (l : List OutV) (j : Nat) : List (List UInt8) := ((l.take j).filter p).map addrO
theorem fl_yes {p : OutV → Bool} {l : List OutV} {j : Nat} {x : OutV} (h : l[j]? = some x) (hp : p x = true) : fl p l (j + 1) = fl p l j ++ [addrO x] := by
  obtain ⟨hj, rfl⟩ := List.getElem?_eq_some_iff.1 h
  rw [fl, fl, List.take_succ_eq_append_getElem hj, List.filter_append, List.map_append]
  simp [hp]
theorem fl_no {p : OutV → Bool} {l : List OutV} {j : Nat} {x : OutV} (h : l[j]? = some x) (hp : p x = false) : fl p l (j + 1) = fl p l j := by
  obtain ⟨hj, rfl⟩ := List.getElem?_eq_some_iff.1 h
  rw [fl, fl, List.take_succ_eq_append_getElem hj, List.filter_append, List.map_append]
  simp [hp]
theorem fl_len (p : OutV → Bool) (l : List OutV) (j : Nat) : (fl p l j).length ≤ l.length := by
  rw [fl, List.length_map]
  have h1 := List.length_filter_le p (l.take j)
  have h2 : (l.take j).length ≤ l.length := List.length_take_le' ..
  omega
theorem evL_fl (a b : List OutV) : fl (goneB b) a a.length ++ fl (freshB a) b b.length = evL a b := by
  rw [fl, fl, List.take_length, List.take_length]; rfl
theorem gone_none {b : List OutV} {x : OutV} (h : bodyP b x.path.data.toList = none) : goneB b x = true := by rw [goneB, h]; rfl
theorem gone_same {b : List OutV} {x : OutV} {y : List UInt8} (h : bodyP b x.path.data.toList = some y) (hy : str0 y = x.body) : goneB b x = false := by rw [goneB, h, ← hy]; simp [str0]
theorem gone_other {b : List OutV} {x : OutV} {y : List UInt8} (h : bodyP b x.path.data.toList = some y) (hy : str0 y ≠ x.body) : goneB b x = true := by
  rw [goneB, h, bne_iff_ne]
  intro he
  simp only [Option.some.injEq] at he
  exact hy (by rw [he]; rfl)
theorem fresh_none {b : List OutV} {x : OutV} (h : bodyP b x.path.data.toList = none) : freshB b x = true := by rw [freshB, h]; rfl
theorem fresh_some {b : List OutV} {x : OutV} {y : List UInt8} (h : bodyP b x.path.data.toList = some y) : freshB b x = false := by rw [freshB, h]; rfl
theorem cells_one {L : List (List UInt8)} {x : OutV} {ad : ByteArray} (h : addrS x.path = ad) : strCells (L ++ [addrO x]) = strCells L ++ [.string ad] := by
  rw [strCells_append, addrO, h]; rfl
theorem path_le {s : ByteArray} (h : pathB s = true) : s.size ≤ 1048576 := by have := path_size h; omega

def evE (a b : List OutV) : Int := if outsE a = 0 then outsE b else outsE a
def evR (a b : List OutV) : List (List UInt8) := if evE a b = 0 then evS a b else []
def EvPost (N : Nat) (a b : List OutV) (w : World) (e : Ending) (w' : World) : Prop :=
  ∃ v, e = .returned (.tuple #[v, .int .i64 (evE a b)]) ∧ w'.ownsRow N 9 1 v (evR a b).length (strCells (evR a b)) ∧ Below N w w'
theorem EvPost.err {N : Nat} {a b : List OutV} {w w' : World} {v : Int} (h : evE a b = v) (hv : ¬ v = 0) (hb : Below N w w') : EvPost N a b w (.returned (.tuple #[.slice none 0 0, .int .i64 v])) w' := by
  have e0 : evR a b = [] := by rw [evR, if_neg (by rw [h]; exact hv)]
  exact ⟨_, by rw [h], by rw [e0]; exact World.ownsRow_nil _ _ _ _, hb⟩
theorem EvPost.ok {N : Nat} {a b : List OutV} {w w' : World} {v : Value} {n : Nat} (h : evE a b = 0) (hn : n = (evL a b).length) (ho : w'.ownsRow N 9 1 v n (strCells (evS a b))) (hb : Below N w w') : EvPost N a b w (.returned (.tuple #[v, .int .i64 0])) w' := by
  have e0 : evR a b = evS a b := by rw [evR, if_pos h]
  have e1 : (evS a b).length = (evL a b).length := List.length_mergeSort _
  exact ⟨_, by rw [h], by rw [e0, e1, ← hn]; exact ho, hb⟩

theorem own_baseE {w : World} {B B' K n : Nat} {e : TypeId} {v : Value} {xs : List Value} (h : w.ownsRow B' e K v n xs) (hB : B ≤ B') : w.ownsRow B e K v n xs := by
  obtain ⟨hl, h2⟩ := h
  rcases h2 with h2 | ⟨g, cap, cur, h1, h3, h4⟩
  · exact ⟨hl, Or.inl h2⟩
  · exact ⟨hl, Or.inr ⟨g, cap, cur, h1, Nat.le_trans hB h3, h4⟩⟩
theorem own_keepB2 {w w' : World} {B k : Nat} {e : TypeId} {v : Value} {n : Nat} {xs : List Value} (h : w.ownsRow B e k v n xs) (hb : Below w.heap.size w w') : w'.ownsRow B e k v n xs :=
  h.kept (row := none) ⟨hb.os, hb.tape, hb.output, hb.size, fun k hk _ => hb.block k hk⟩ (by cases v.ownBlock <;> simp)

set_option maxRecDepth 100000 in
set_option maxHeartbeats 8000000 in
theorem events_q (a b : List OutV) (va vb : Value) (w : World) (ha : OutsAt w va a) (hb : OutsAt w vb b) (hm : MaxAt w) : Calls Tryd.prog 9 #[va, vb] w (EvPost w.heap.size a b w) := by
  have HA := Lib.hid ha
  have HB := Lib.hid hb
  have HMx := Lib.hid hm; clear hm
  obtain ⟨e1, he1⟩ : ∃ e, outsE a = e := ⟨_, rfl⟩
  obtain ⟨e2, he2⟩ : ∃ e, outsE b = e := ⟨_, rfl⟩
  have HE1 := Lib.hid he1
  have HE2 := Lib.hid he2
  obtain ⟨N, hN⟩ : ∃ N, w.heap.size = N := ⟨_, rfl⟩
  have HN := Lib.hid hN
  rw [hN]
  by_cases h1 : e1 = 0
  · subst h1
    by_cases h2 : e2 = 0
    · subst h2
      have HEv := Lib.hid (show evE a b = 0 by rw [evE, if_pos he1, he2])
      have hla := outsE_len he1
      have hlb := outsE_len he2
      have HPa := Lib.hid (outs_paths he1)
      have HPb := Lib.hid (outs_paths he2)
      have HZa := Lib.hid (show ∀ x ∈ a, x.path.size ≤ 1048576 ∧ x.body.size ≤ 1048576 from fun x hx => ⟨path_le (HPa.out x hx), by have := outs_body he1 x hx; omega⟩)
      have HZb := Lib.hid (show ∀ x ∈ b, x.path.size ≤ 1048576 ∧ x.body.size ≤ 1048576 from fun x hx => ⟨path_le (HPb.out x hx), by have := outs_body he2 x hx; omega⟩)
      have HMa := Lib.hid (mapF_eq (outs_apart he1))
      have HMb := Lib.hid (mapF_eq (outs_apart he2))
      obtain ⟨A1, c1, b1, o1, rfl, hlc1, hc1, hA1, hcell1⟩ := ha
      obtain ⟨A2, c2, b2, o2, rfl, hlc2, hc2, hA2, hcell2⟩ := hb
      have HC1 := Lib.hid hcell1
      have HC2 := Lib.hid hcell2
      have HA1 := Lib.hid hA1
      have HA2 := Lib.hid hA2
      unfold maxLen at hc1 hc2
      clear he1 he2 hN hcell1 hcell2 hA1 hA2
      go_enter Tryd.func9, Tryd.ntmps9
      go_wp2_with fail
      refine (checkOuts_q a _ 0 _ HA.out HMx.out HE1.out).mono ?_
      rintro e w1 ⟨rfl, hb1⟩
      have B1 := Lib.hid hb1; clear hb1
      go_wp2_with fail
      refine (checkOuts_q b _ 0 _ (HB.out.keep (Keeps.of_below B1.out)) (HMx.out.keep (Keeps.of_below B1.out)) HE2.out).mono ?_
      rintro e w2 ⟨rfl, hb2⟩
      have B2 := Lib.hid (B1.out.trans (hb2.mono B1.out.size)); clear hb2
      go_wp2_with fail
      refine (bodies_q a _ _ (HA.out.keep (Keeps.of_below B2.out)) HZa.out).mono ?_
      rintro e w3 ⟨m1, rfl, hm1, hg1, hb3⟩
      have B3 := Lib.hid (B2.out.trans (hb3.mono B2.out.size)); clear hb3
      have M1 := Lib.hid hm1; clear hm1
      have G1 := Lib.hid (show N ≤ m1 by have := B2.out.size; have := HN.out; omega); clear hg1
      go_wp2_with fail
      refine (bodies_q b _ _ (HB.out.keep (Keeps.of_below B3.out)) HZb.out).mono ?_
      rintro e w4 ⟨m2, rfl, hm2, hg2, hb4⟩
      have M1' := Lib.hid (M1.out.below hb4)
      have B4 := Lib.hid (B3.out.trans (hb4.mono B3.out.size)); clear hb4
      have M2 := Lib.hid hm2; clear hm2
      have G2 := Lib.hid (show N ≤ m2 by have := B3.out.size; have := HN.out; omega); clear hg2
      obtain ⟨K, hK⟩ : ∃ K, w4.heap.size = K := ⟨_, rfl⟩
      have HK := Lib.hid hK; clear hK
      have B4' := Lib.hid (show Below N w w4 from B4.out.mono (by have := HN.out; omega))
      go_wp2_with fail
      go_loopw [39, 10] (fun t39 t10 wr => ∃ (j n : Nat) (A : Option Addr) (c : Nat), j ≤ a.length ∧ t39 = .int .i64 j ∧ t10 = .slice A n c ∧ Hid (n = (fl (goneB b) a j).length) ∧ Hid (wr.ownsRow K 9 1 (.slice A n c) n (strCells (fl (goneB b) a j))) ∧ Hid (Below K w4 wr)) (fun t _ _ => a.length - (intOf t).toNat)
      case atStart => exact ⟨0, 0, none, 0, Nat.zero_le _, rfl, rfl, rfl, World.ownsRow_nil _ _ _ _, Below.refl _ _⟩
      case round =>
        obtain ⟨j, n, A, c, hj, rfl, rfl, HNn, HOw, HBw⟩ := hrel
        have HBN := Lib.hid (show Below N w wr from B4'.out.trans (HBw.out.mono (by have := HK.out; have := B4'.out.size; have := HN.out; omega)))
        by_cases hlt : j < a.length
        · obtain ⟨x, hx⟩ : ∃ x, a[j]? = some x := ⟨_, List.getElem?_eq_getElem hlt⟩
          obtain rfl : A1 = some ⟨b1, o1, none⟩ := HA1.out (by intro h0; rw [h0] at hlt; simp at hlt)
          have kc := (HC1.out j x hx).keep (Keeps.of_below (by rw [HN.out]; exact HBN.out))
          have k0 := kc.c0
          have k1 := kc.c1
          have hxm := List.mem_of_getElem? hx
          have HPx := Lib.hid (HPa.out x hxm)
          have hx1 := (HZa.out x hxm).1
          have HMr := Lib.hid (HMx.out.keep (Keeps.of_below (by rw [HN.out]; exact HBN.out)))
          have hnle : n ≤ 480 := by have := fl_len (goneB b) a j; have := HNn.out; omega
          have HX := Lib.hid hx
          clear hx kc hxm
          obtain ⟨ad, had⟩ : ∃ ad, addrS x.path = ad := ⟨_, rfl⟩
          have HAd := Lib.hid had; clear had
          have hKw : K ≤ wr.heap.size := by have := HBw.out.size; have := HK.out; omega
          have HL2 := Lib.hid (show SMap Tryd.prog 9 9 (wr.alloc (.cells #[.string x.path, .string x.body] 45)) m2 b.length (mapF b) from MapR.alloc (M2.out.below (by rw [HK.out]; exact HBw.out)) _)
          have hx1m : x.path.size ≤ maxLen := by unfold maxLen; omega
          cases hf : bodyP b x.path.data.toList with
          | none =>
            have HRun := Lib.hid (smap_none HL2.out Tryd.underlying9 Tryd.underlying9 Tryd.underlying65 hx1m (zero_str _) ((HMb.out _).trans hf))
            have HG := Lib.hid (gone_none hf)
            clear hf
            go_wp2_with (first | (at_lookup; refine wpList_lookR rfl _ _ 65 true rfl x.path _ rfl rfl HRun.out ?_) | (go_at_call 32; go_must (refine (address_q2 x.path ad _ HAd.out HPx.out (HMr.out.keep (Keeps.alloc _ _))).mono ?_); rintro e w5 ⟨rfl, hb5⟩; have HB5 := Lib.hid ((HBw.out.alloc hKw (.cells #[.string x.path, .string x.body] 45)).trans (hb5.mono (by rw [World.size_alloc]; omega))); have HO5 := Lib.hid (own_keepB2 (own_alloc HOw.out (.cells #[.string x.path, .string x.body] 45)) hb5); have hz5 : K ≤ w5.heap.size := (by have h9 := hb5.size; rw [World.size_alloc] at h9; omega); clear hb5) | (at_builtin; go_must (refine wpList_push _ rfl (.tmp 64) (.tmp 66) 33 rfl K 9 _ 1 16 Tryd.underlying33 info_strE rfl (by omega) (.slice A n c) n _ rfl (own_alloc HO5.out _) [.string ad] rfl _ rfl (cell_new _ [.string ad] 9 _ rfl) (one_str _) (by omega) (by unfold maxLen; omega) (by simp; omega) ?_); intro g7 c7 w7 own7 hg7 hgg7 hb7; have HO7 := Lib.hid own7; have HB7 := Lib.hid ((HB5.out.alloc hz5 (.cells #[.string ad] 9)).trans hb7); clear own7 hg7 hgg7 hb7))
            go_roundw
            case rel => exact ⟨j + 1, n + 1, _, c7, by omega, by go_num, rfl, by rw [fl_yes HX.out HG.out, List.length_append, ← HNn.out]; rfl, by rw [fl_yes HX.out HG.out, cells_one HAd.out]; exact HO7.out, HB7.out⟩
            case measure => simp [intOf]; omega
          | some y =>
            have HRun := Lib.hid (smap_some HL2.out Tryd.underlying9 Tryd.underlying9 Tryd.underlying65 hx1m (zero_str _) ((HMb.out _).trans hf))
            obtain ⟨z, hz⟩ : ∃ z, str0 y = z := ⟨_, rfl⟩
            rw [hz] at HRun
            by_cases hzb : z = x.body
            · have HG := Lib.hid (gone_same hf (hz.trans hzb))
              clear hf hz
              subst hzb
              go_wp2_with (first | (at_lookup; refine wpList_lookR rfl _ _ 65 true rfl x.path _ rfl rfl HRun.out ?_))
              go_roundw
              case rel => exact ⟨j + 1, n, A, c, by omega, by go_num, rfl, by rw [fl_no HX.out HG.out]; exact HNn.out, by rw [fl_no HX.out HG.out]; exact own_alloc HOw.out _, HBw.out.alloc hKw _⟩
              case measure => simp [intOf]; omega
            · have HG := Lib.hid (gone_other hf (by rw [hz]; exact hzb))
              have hzb1 := str_ne hzb
              have hzb2 := str_ne2 hzb
              clear hf hz hzb
              go_wp2_with (first | (at_lookup; refine wpList_lookR rfl _ _ 65 true rfl x.path _ rfl rfl HRun.out ?_) | (go_at_call 32; go_must (refine (address_q2 x.path ad _ HAd.out HPx.out (HMr.out.keep (Keeps.alloc _ _))).mono ?_); rintro e w5 ⟨rfl, hb5⟩; have HB5 := Lib.hid ((HBw.out.alloc hKw (.cells #[.string x.path, .string x.body] 45)).trans (hb5.mono (by rw [World.size_alloc]; omega))); have HO5 := Lib.hid (own_keepB2 (own_alloc HOw.out (.cells #[.string x.path, .string x.body] 45)) hb5); have hz5 : K ≤ w5.heap.size := (by have h9 := hb5.size; rw [World.size_alloc] at h9; omega); clear hb5) | (at_builtin; go_must (refine wpList_push _ rfl (.tmp 64) (.tmp 66) 33 rfl K 9 _ 1 16 Tryd.underlying33 info_strE rfl (by omega) (.slice A n c) n _ rfl (own_alloc HO5.out _) [.string ad] rfl _ rfl (cell_new _ [.string ad] 9 _ rfl) (one_str _) (by omega) (by unfold maxLen; omega) (by simp; omega) ?_); intro g7 c7 w7 own7 hg7 hgg7 hb7; have HO7 := Lib.hid own7; have HB7 := Lib.hid ((HB5.out.alloc hz5 (.cells #[.string ad] 9)).trans hb7); clear own7 hg7 hgg7 hb7))
              go_roundw
              case rel => exact ⟨j + 1, n + 1, _, c7, by omega, by go_num, rfl, by rw [fl_yes HX.out HG.out, List.length_append, ← HNn.out]; rfl, by rw [fl_yes HX.out HG.out, cells_one HAd.out]; exact HO7.out, HB7.out⟩
              case measure => simp [intOf]; omega
        · obtain rfl : j = a.length := by omega
          obtain ⟨P, hP⟩ : ∃ P, fl (goneB b) a a.length = P := ⟨_, rfl⟩
          have HP := Lib.hid hP
          rw [hP] at HNn HOw
          have hPl : P.length ≤ 480 := by have := fl_len (goneB b) a a.length; rw [hP] at this; omega
          clear hP
          have HO0 := Lib.hid (show wr.ownsRow K 9 1 (.slice A n c) n (strCells (P ++ fl (freshB a) b 0)) by rw [show fl (freshB a) b 0 = [] from rfl, List.append_nil]; exact HOw.out)
          have HN0 := Lib.hid (show n = (P ++ fl (freshB a) b 0).length by rw [show fl (freshB a) b 0 = [] from rfl, List.append_nil]; exact HNn.out)
          clear HOw HNn
          go_wp2_with fail
          go_loopw [71, 10] (fun t71 t10 wr => ∃ (j n : Nat) (A : Option Addr) (c : Nat), j ≤ b.length ∧ t71 = .int .i64 j ∧ t10 = .slice A n c ∧ Hid (n = (P ++ fl (freshB a) b j).length) ∧ Hid (wr.ownsRow K 9 1 (.slice A n c) n (strCells (P ++ fl (freshB a) b j))) ∧ Hid (Below K w4 wr)) (fun t _ _ => b.length - (intOf t).toNat)
          case atStart => exact ⟨0, n, A, c, Nat.zero_le _, rfl, rfl, HN0, HO0, HBw.out⟩
          case round =>
            clear HO0 HN0
            obtain ⟨j, n, A, c, hj, rfl, rfl, HNn, HOw, HBw⟩ := hrel
            have HBN := Lib.hid (show Below N w wr from B4'.out.trans (HBw.out.mono (by have := HK.out; have := B4'.out.size; have := HN.out; omega)))
            by_cases hlt : j < b.length
            · obtain ⟨x, hx⟩ : ∃ x, b[j]? = some x := ⟨_, List.getElem?_eq_getElem hlt⟩
              obtain rfl : A2 = some ⟨b2, o2, none⟩ := HA2.out (by intro h0; rw [h0] at hlt; simp at hlt)
              have kc := (HC2.out j x hx).keep (Keeps.of_below (by rw [HN.out]; exact HBN.out))
              have k0 := kc.c0
              have k1 := kc.c1
              have hxm := List.mem_of_getElem? hx
              have HPx := Lib.hid (HPb.out x hxm)
              have hx1 := (HZb.out x hxm).1
              have HMr := Lib.hid (HMx.out.keep (Keeps.of_below (by rw [HN.out]; exact HBN.out)))
              have hnle : n ≤ 960 := by have := fl_len (freshB a) b j; have := HNn.out; rw [List.length_append] at this; omega
              have HX := Lib.hid hx
              clear hx kc hxm
              obtain ⟨ad, had⟩ : ∃ ad, addrS x.path = ad := ⟨_, rfl⟩
              have HAd := Lib.hid had; clear had
              have hKw : K ≤ wr.heap.size := by have := HBw.out.size; have := HK.out; omega
              have HL2 := Lib.hid (show SMap Tryd.prog 9 9 (wr.alloc (.cells #[.string x.path, .string x.body] 45)) m1 a.length (mapF a) from MapR.alloc (M1'.out.below (by rw [HK.out]; exact HBw.out)) _)
              have hx1m : x.path.size ≤ maxLen := by unfold maxLen; omega
              cases hf : bodyP a x.path.data.toList with
              | none =>
                have HRun := Lib.hid (smap_none HL2.out Tryd.underlying9 Tryd.underlying9 Tryd.underlying65 hx1m (zero_str _) ((HMa.out _).trans hf))
                have HG := Lib.hid (fresh_none hf)
                clear hf
                go_wp2_with (first | (at_lookup; refine wpList_lookR rfl _ _ 65 true rfl x.path _ rfl rfl HRun.out ?_) | (go_at_call 32; go_must (refine (address_q2 x.path ad _ HAd.out HPx.out (HMr.out.keep (Keeps.alloc _ _))).mono ?_); rintro e w5 ⟨rfl, hb5⟩; have HB5 := Lib.hid ((HBw.out.alloc hKw (.cells #[.string x.path, .string x.body] 45)).trans (hb5.mono (by rw [World.size_alloc]; omega))); have HO5 := Lib.hid (own_keepB2 (own_alloc HOw.out (.cells #[.string x.path, .string x.body] 45)) hb5); have hz5 : K ≤ w5.heap.size := (by have h9 := hb5.size; rw [World.size_alloc] at h9; omega); clear hb5) | (at_builtin; go_must (refine wpList_push _ rfl (.tmp 90) (.tmp 92) 33 rfl K 9 _ 1 16 Tryd.underlying33 info_strE rfl (by omega) (.slice A n c) n _ rfl (own_alloc HO5.out _) [.string ad] rfl _ rfl (cell_new _ [.string ad] 9 _ rfl) (one_str _) (by omega) (by unfold maxLen; omega) (by simp; omega) ?_); intro g7 c7 w7 own7 hg7 hgg7 hb7; have HO7 := Lib.hid own7; have HB7 := Lib.hid ((HB5.out.alloc hz5 (.cells #[.string ad] 9)).trans hb7); clear own7 hg7 hgg7 hb7))
                go_roundw
                case rel => exact ⟨j + 1, n + 1, _, c7, by omega, by go_num, rfl, by rw [fl_yes HX.out HG.out, ← List.append_assoc, List.length_append, ← HNn.out]; rfl, by rw [fl_yes HX.out HG.out, ← List.append_assoc, cells_one HAd.out]; exact HO7.out, HB7.out⟩
                case measure => simp [intOf]; omega
              | some y =>
                have HRun := Lib.hid (smap_some HL2.out Tryd.underlying9 Tryd.underlying9 Tryd.underlying65 hx1m (zero_str _) ((HMa.out _).trans hf))
                have HG := Lib.hid (fresh_some hf)
                clear hf
                go_wp2_with (first | (at_lookup; refine wpList_lookR rfl _ _ 65 true rfl x.path _ rfl rfl HRun.out ?_))
                go_roundw
                case rel => exact ⟨j + 1, n, A, c, by omega, by go_num, rfl, by rw [fl_no HX.out HG.out]; exact HNn.out, by rw [fl_no HX.out HG.out]; exact own_alloc HOw.out _, HBw.out.alloc hKw _⟩
                case measure => simp [intOf]; omega
            · obtain rfl : j = b.length := by omega
              have HNe := Lib.hid (show n = (evL a b).length by rw [← evL_fl, HP.out]; exact HNn.out)
              have HOe := Lib.hid (show wr.ownsRow K 9 1 (.slice A n c) (evL a b).length (strCells (evL a b)) by rw [← HNe.out, ← evL_fl, HP.out]; exact HOw.out)
              have hnle : (evL a b).length ≤ 1048576 := by have := fl_len (freshB a) b b.length; have h8 := HNn.out; rw [List.length_append] at h8; rw [← HNe.out]; omega
              clear HNn HOw
              go_wp2_with (go_at_call 33; go_must (refine (sortS_q K (.slice A n c) (evL a b) _ HOe.out hnle).mono ?_); rintro e w8 ⟨rfl, own8, hg8⟩; have HO8 := Lib.hid own8; have HG8 := Lib.hid hg8; clear own8 hg8)
              go_ret2
              exact EvPost.ok HEv.out HNe.out (own_baseE (by have h9 := HO8.out; rw [← HNe.out] at h9; exact h9) (by have := HK.out; have := B4'.out.size; have := HN.out; omega)) (HBN.out.trans (below_of_grown HG8.out (by have := HBN.out.size; have := HN.out; omega) (fun g hg => by have := own_block_ge HOe.out g hg; have := HK.out; have := B4'.out.size; have := HN.out; omega)))
    · have HV := Lib.hid (show evE a b = e2 by rw [evE, if_pos he1, he2])
      clear he1 he2 ha hb
      go_enter Tryd.func9, Tryd.ntmps9
      go_wp2_with fail
      refine (checkOuts_q a _ 0 _ HA.out HMx.out HE1.out).mono ?_
      rintro e w1 ⟨rfl, hb1⟩
      have B1 := Lib.hid hb1; clear hb1
      go_wp2_with fail
      refine (checkOuts_q b _ e2 _ (HB.out.keep (Keeps.of_below B1.out)) (HMx.out.keep (Keeps.of_below B1.out)) HE2.out).mono ?_
      rintro e w2 ⟨rfl, hb2⟩
      have B2 := Lib.hid (B1.out.trans (hb2.mono B1.out.size)); clear hb2
      go_wp2_with fail
      go_ret2
      exact EvPost.err HV.out h2 (by rw [← HN.out]; exact B2.out)
  · have HV := Lib.hid (show evE a b = e1 by rw [evE, if_neg (by rw [he1]; exact h1), he1])
    clear he1 he2 ha hb
    go_enter Tryd.func9, Tryd.ntmps9
    go_wp2_with fail
    refine (checkOuts_q a _ e1 _ HA.out HMx.out HE1.out).mono ?_
    rintro e w1 ⟨rfl, hb1⟩
    have B1 := Lib.hid hb1; clear hb1
    go_wp2_with fail
    go_ret2
    exact EvPost.err HV.out h1 (by rw [← HN.out]; exact B1.out)

end Go.Proofs.YtfeecoeeiangnaaDoor
