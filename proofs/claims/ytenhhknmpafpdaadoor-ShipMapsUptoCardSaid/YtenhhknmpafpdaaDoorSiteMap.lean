/-
  The site map: ship.SiteMap and mastref1.MapText.
-/
import Derived.Test.YtenhhknmpafpdaaDoorMapPlain
import Derived.Test.YtenhhknmpafpdaaDoorBuilderK
namespace Go.Proofs.YtenhhknmpafpdaaDoor
open Go.RowKit Go.Deep

theorem outsFrom_ok {l : List OutV} : ∀ (f k : Nat), l.length - k = f → outsFrom l f k = 0 → ∀ (j : Nat) (x : OutV), k ≤ j → l[j]? = some x → pathB x.path = true
  | 0, k, hf, _, j, x, hj, hx => absurd (List.getElem?_eq_some_iff.1 hx).1 (by omega)
  | f + 1, k, hf, h, j, x, hj, hx => by
    have hk : k < l.length := by omega
    have hy : l[k]? = some l[k] := List.getElem?_eq_getElem hk
    rw [outsFrom, hy] at h
    simp only at h
    by_cases h1 : pathB l[k].path = false
    · rw [if_pos h1] at h; cases h
    rw [if_neg h1] at h
    by_cases h2 : prevBad l l[k].path k = true
    · rw [if_pos h2] at h; cases h
    rw [if_neg h2] at h
    by_cases h3 : (l.drop (k + 1)).any (under l[k]) = true
    · rw [if_pos h3] at h; cases h
    rw [if_neg h3] at h
    by_cases h4 : 200000 < l[k].body.size
    · rw [if_pos h4] at h; cases h
    rw [if_neg h4] at h
    rcases Nat.lt_or_ge k j with h5 | h5
    · exact outsFrom_ok f (k + 1) (by omega) h j x h5 hx
    · obtain rfl : k = j := by omega
      rw [hy] at hx
      cases hx
      simpa using h1
theorem outs_path {l : List OutV} (h : outsE l = 0) {j : Nat} {x : OutV} (hx : l[j]? = some x) : pathB x.path = true := by
  have h1 := outsE_len h
  rw [outsE, if_neg (by omega)] at h
  exact outsFrom_ok l.length 0 (by omega) h j x (Nat.zero_le _) hx

theorem checkOuts_q (l : List OutV) (v : Value) (n : Int) (w : World) (h : OutsAt w v l) (hm : MaxAt w) (hn : outsE l = n) :
    Calls Tryd.prog 39 #[v] w fun e w' => e = .returned (.int .i64 n) ∧ Below w.heap.size w w' := by
  obtain ⟨m, hm⟩ := hm
  subst hn
  exact checkOuts_any l v m w h hm
theorem outsError_q (l : List OutV) (v : Value) (n : Int) (w : World) (h : OutsAt w v l) (hm : MaxAt w) (hn : outsE l = n) :
    Calls Tryd.prog 12 #[v] w fun e w' => e = .returned (.int .i64 n) ∧ Below w.heap.size w w' := by
  obtain ⟨m, hm⟩ := hm
  subst hn
  exact outsError_any l v m w h hm
theorem address_q2 (s ad : ByteArray) (w : World) (h : addrS s = ad) (hp : pathB s = true) (hm : MaxAt w) :
    Calls Tryd.prog 43 #[.string s] w fun e w' => e = .returned (.tuple #[.string ad, .int .i64 0]) ∧ Below w.heap.size w w' := by
  obtain ⟨m, hm⟩ := hm
  subst h
  exact shipAddress_any s true hp m w hm
theorem addressOf_q2 (s ad : ByteArray) (w : World) (h : addrS s = ad) (hp : pathB s = true) (hm : MaxAt w) :
    Calls Tryd.prog 49 #[.string s] w fun e w' => e = .returned (.tuple #[.string ad, .int .i64 0]) ∧ Below w.heap.size w w' := by
  obtain ⟨m, hm⟩ := hm
  subst h
  exact refAddress_any s true hp m w hm

set_option maxHeartbeats 1000000 in
theorem isPageS_q (x : ByteArray) (v : Bool) (w : World) (hs : x.size ≤ 9223372036854775807) (h : pageB x = v) : Calls Tryd.prog 42 #[.string x] w fun e w' => e = .returned (.bool v) ∧ w = w' := by
  have HX := Lib.hid (show Lib.hasSuffix x.data.toList (⟨#[46, 104, 116, 109, 108]⟩ : ByteArray).data.toList = v from h); clear h
  go_enter Tryd.func42, Tryd.ntmps42
  go_wp2_with (go_at_call 51; go_must (refine (hasSuffix_v _ _ v _ hs HX.out).mono ?_); rintro e w1 ⟨rfl, rfl⟩)
  go_ret
  exact ⟨rfl, rfl⟩
set_option maxHeartbeats 1000000 in
theorem isPageR_q (x y : ByteArray) (v : Bool) (w : World) (hs : x.size ≤ 9223372036854775807) (h : pageB x = v) : Calls Tryd.prog 48 #[.agg #[.string x, .string y]] w fun e w' => e = .returned (.bool v) ∧ Below w.heap.size w w' := by
  have HX := Lib.hid (show Lib.hasSuffix x.data.toList (⟨#[46, 104, 116, 109, 108]⟩ : ByteArray).data.toList = v from h); clear h
  go_enter Tryd.func48, Tryd.ntmps48
  go_wp2_with (go_at_call 51; go_must (refine (hasSuffix_v _ _ v _ hs HX.out).mono ?_); rintro e w1 ⟨rfl, rfl⟩)
  go_ret
  exact ⟨rfl, (Below.refl _ _).alloc (Nat.le_refl _) _⟩

theorem url_loc {base path bd u : ByteArray} (h : pageB path = true) (hu : locS base path = u) : urlL base ⟨path, bd⟩ = u1L ++ u.data.toList ++ u2L := by
  subst hu
  exact url_yes (x := ⟨path, bd⟩) h
theorem map_bytes (P : List UInt8) (u : ByteArray) : P ++ (((⟨#[60, 117, 114, 108, 62, 60, 108, 111, 99, 62]⟩ : ByteArray) ++ u) ++ (⟨#[60, 47, 108, 111, 99, 62, 60, 47, 117, 114, 108, 62, 10]⟩ : ByteArray)).data.toList = P ++ (u1L ++ u.data.toList ++ u2L) := by
  simp [u1L, u2L]

set_option maxRecDepth 100000 in
set_option maxHeartbeats 4000000 in
theorem siteMap_q (base : ByteArray) (l : List OutV) (v : Value) (w : World) (h : OutsAt w v l) (hs : base.size ≤ 1048576) (hm : MaxAt w) :
    Calls Tryd.prog 11 #[.string base, v] w fun e w' => e = .returned (.tuple #[.string (mapS base l), .int .i64 (mapE base l)]) ∧ Below w.heap.size w w' := by
  have HL := Lib.hid h
  obtain ⟨A, c, b, o, rfl, hlc, hc, hA, hcell⟩ := h
  unfold maxLen at hc
  have HCell := Lib.hid hcell; clear hcell
  have HA := Lib.hid hA; clear hA
  have HM := Lib.hid hm; clear hm
  obtain ⟨oe, hoe⟩ : ∃ oe, outsE l = oe := ⟨_, rfl⟩
  have HE := Lib.hid hoe; clear hoe
  by_cases hz : oe = 0
  · subst hz
    have hl480 := outsE_len HE.out
    cases hct : ctlL base.data.toList
    · have HC := Lib.hid hct; clear hct
      have HR1 := Lib.hid (mapE_ok HE.out HC.out)
      have HR2 := Lib.hid (mapS_yes HR1.out)
      go_enter Tryd.func11, Tryd.ntmps11
      go_wp2_with (first | (go_at_call 39; go_must (refine (checkOuts_q l _ 0 _ HL.out HM.out HE.out).mono ?_); rintro e w1 ⟨rfl, hb⟩; have HB1 := Lib.hid hb; clear hb) | (go_at_call 40; go_must (refine (control_q base false _ hs HC.out).mono ?_); rintro e w2 ⟨rfl, rfl⟩) | (go_at_call 41; go_must (refine (writeString_big w1.heap.size w1.heap.size [] _ _ (Lib.fresh_isBuilder _ _ _) (by decide) (by rw [World.size_alloc]; omega)).mono ?_); rintro e w3 ⟨rfl, hbl, hb⟩; have HBl3 := Lib.hid hbl; clear hbl; have HB3 := Lib.hid (((Below.refl w1.heap.size w1).alloc (Nat.le_refl _) _).trans hb); clear hb))
      obtain ⟨nb, hnb⟩ : ∃ nb, w1.heap.size = nb := ⟨_, rfl⟩
      rw [hnb] at HBl3 HB3
      rw [hnb]
      have HNb := Lib.hid hnb; clear hnb
      have HW3 := Lib.hid (show Below w.heap.size w w3 from HB1.out.trans (HB3.out.mono (by rw [← HNb.out]; exact HB1.out.size)))
      have hwb : w.heap.size ≤ nb := by rw [← HNb.out]; exact HB1.out.size
      go_loopw [22] (fun t wr => ∃ k : Nat, k ≤ l.length ∧ t = .int .i64 k ∧ Hid (Bld nb nb (mapH ++ (l.take k).flatMap (urlL base)) wr) ∧ Hid (Below nb w3 wr)) (fun t _ => l.length - (intOf t).toNat)
      case atStart => exact ⟨0, Nat.zero_le _, rfl, HBl3.out, Below.refl _ _⟩
      case round =>
        obtain ⟨k, hk, rfl, HBl, HB⟩ := hrel
        have HWr := Lib.hid (HW3.out.trans (HB.out.mono hwb))
        by_cases hlt : k < l.length
        · have hA' := HA.out (by rintro rfl; simp at hlt)
          subst hA'
          clear HA
          obtain ⟨⟨path, bd⟩, hn⟩ : ∃ n, l[k]? = some n := ⟨_, List.getElem?_eq_getElem hlt⟩
          obtain ⟨p0, p1⟩ := (HCell.out k _ hn).keep (Keeps.of_below HWr.out)
          simp only at p0 p1
          have bb := World.block_lt_of_cell? _ _ p0
          simp only at bb
          have HN := Lib.hid hn; clear hn
          have HP := Lib.hid (outs_path HE.out HN.out)
          have hps := path_size HP.out
          simp only at hps
          have hps2 : path.size ≤ 9223372036854775807 := by omega
          have hul := urls_len hs (l.take k)
          have htl : (l.take k).length ≤ k := List.length_take_le _ _
          have hlen : (mapH ++ (l.take k).flatMap (urlL base)).length ≤ 480 * 16777300 + 100 := by
            rw [List.length_append, show mapH.length = 48 from rfl]
            omega
          have HLen := Lib.hid hlen; clear hlen hul htl
          have HT := Lib.hid (urls_take (base := base) HN.out)
          have HBlA := Lib.hid (bld_below HBl.out ((Below.refl _ _).alloc (Nat.le_refl _) (.cells #[.string path, .string bd] 79))); clear HBl
          have hwr : nb ≤ wr.heap.size := by have h1 := HB3.out.size; have h2 := HB.out.size; rw [HNb.out] at h1; omega
          have HBA := Lib.hid ((Below.refl nb wr).alloc hwr (.cells #[.string path, .string bd] 79))
          cases hpg : pageB path
          · have HPg := Lib.hid hpg; clear hpg
            go_wp2_with (go_at_call 42; go_must (refine (isPageS_q path false _ hps2 HPg.out).mono ?_); rintro e w5 ⟨rfl, rfl⟩)
            go_roundw
            case rel =>
              refine ⟨k + 1, by omega, by go_num, ?_, HB.out.trans HBA.out⟩
              show Bld _ _ _ _
              rw [HT.out, url_no HPg.out, List.append_nil]
              exact HBlA.out
            case measure => simp [intOf]; omega
          · -- a page
            have HPg := Lib.hid hpg; clear hpg
            obtain ⟨ad, had⟩ : ∃ ad, addrS path = ad := ⟨_, rfl⟩
            have hadl := addrS_le path
            obtain ⟨u, hu⟩ : ∃ u : ByteArray, (⟨(escL (base ++ ad).data.toList).toArray⟩ : ByteArray) = u := ⟨_, rfl⟩
            have hus : u.size ≤ 16777216 := by have h1 := loc_le hs path; rw [locS, had, hu] at h1; exact h1
            have HIn := Lib.hid (show (base ++ ad).size ≤ 2097152 by rw [← had]; exact locIn_le hs path)
            have HU := Lib.hid (url_loc (bd := bd) HPg.out (show locS base path = u by rw [locS, had, hu]))
            rw [had] at hadl
            have HAd := Lib.hid had; clear had
            have HUu := Lib.hid hu; clear hu
            have HSz := Lib.hid (show ((((⟨#[60, 117, 114, 108, 62, 60, 108, 111, 99, 62]⟩ : ByteArray) ++ u) ++ (⟨#[60, 47, 108, 111, 99, 62, 60, 47, 117, 114, 108, 62, 10]⟩ : ByteArray))).size ≤ 16777300 by rw [ByteArray.size_append, ByteArray.size_append, show (⟨#[60, 117, 114, 108, 62, 60, 108, 111, 99, 62]⟩ : ByteArray).size = 10 from rfl, show (⟨#[60, 47, 108, 111, 99, 62, 60, 47, 117, 114, 108, 62, 10]⟩ : ByteArray).size = 13 from rfl]; omega)
            have HMA := Lib.hid (HM.out.keep (Keeps.of_below (HWr.out.alloc HWr.out.size (.cells #[.string path, .string bd] 79))))
            have hnA : nb ≤ (wr.alloc (.cells #[.string path, .string bd] 79)).heap.size := by rw [World.size_alloc]; omega
            have HNA := Lib.hid hnA; clear hnA
            have HBW := Lib.hid (HB.out.trans HBA.out); clear HBA HWr
            go_wp2_with (first | (go_at_call 42; go_must (refine (isPageS_q path true _ hps2 HPg.out).mono ?_); rintro e w5 ⟨rfl, rfl⟩) | (go_at_call 43; go_must (refine (address_q2 path ad _ HAd.out HP.out HMA.out).mono ?_); rintro e w6 ⟨rfl, hb⟩; have HBl6 := Lib.hid (bld_below HBlA.out hb); have HB6 := Lib.hid (HBW.out.trans (hb.mono HNA.out)); clear hb) | (go_at_call 44; go_must (refine (escape_q (base ++ ad) u _ HUu.out HIn.out).mono ?_); rintro e w7 ⟨rfl, hb⟩; have HBl7 := Lib.hid (bld_below HBl6.out hb); have HB7 := Lib.hid (HB6.out.trans (hb.mono (Nat.le_of_lt (bld_lt HBl6.out).1))); clear hb) | (go_at_call 41; go_must (refine (writeString_big nb nb _ _ w7 HBl7.out (by have h1 := HLen.out; have h2 := HSz.out; omega) (Nat.le_of_lt (bld_lt HBl7.out).1)).mono ?_); rintro e w8 ⟨rfl, hbl, hb⟩; have HBl8 := Lib.hid hbl; have HB8 := Lib.hid (HB7.out.trans hb); clear hb hbl))
            go_roundw
            case rel =>
              refine ⟨k + 1, by omega, by go_num, ?_, HB8.out⟩
              show Bld _ _ _ _
              rw [HT.out, HU.out, ← List.append_assoc, ← map_bytes]
              exact HBl8.out
            case measure => simp [intOf]; omega
        · have hke : k = l.length := by omega
          have hall : (l.take k).flatMap (urlL base) = l.flatMap (urlL base) := by rw [hke, List.take_length]
          have HBlE := Lib.hid (show Bld nb nb (mapH ++ l.flatMap (urlL base)) wr by rw [← hall]; exact HBl.out); clear HBl
          have hlen : (mapH ++ l.flatMap (urlL base)).length ≤ 480 * 16777300 + 100 := by
            have hul := urls_len hs l
            rw [List.length_append, show mapH.length = 48 from rfl]
            omega
          have HLen := Lib.hid hlen; clear hlen hall hke
          go_wp2_with (first | (go_at_call 41; go_must (refine (writeString_big nb nb _ _ wr HBlE.out (by have h1 := HLen.out; have h2 : (⟨#[60, 47, 117, 114, 108, 115, 101, 116, 62, 10]⟩ : ByteArray).size = 10 := rfl; omega) (Nat.le_of_lt (bld_lt HBlE.out).1)).mono ?_); rintro e w8 ⟨rfl, hbl, hb⟩; have HBl8 := Lib.hid hbl; have HB8 := Lib.hid (HB.out.trans hb); clear hb hbl) | (go_at_call 45; go_must (refine (Tryd.Builder_String_any nb nb _ _ HBl8.out (Nat.le_of_lt (bld_lt HBl8.out).1)).mono ?_); rintro e w9 ⟨rfl, hb9⟩; have HB9 := Lib.hid (HB8.out.trans hb9); clear hb9))
          go_ret2
          exact ⟨by rw [HR1.out, HR2.out]; rfl, HW3.out.trans (HB9.out.mono hwb)⟩
    · have HC := Lib.hid hct; clear hct
      have HR1 := Lib.hid (mapE_ctl HE.out HC.out)
      have HR2 := Lib.hid (mapS_no HR1.out (by decide))
      go_enter Tryd.func11, Tryd.ntmps11
      go_wp2_with (first | (go_at_call 39; go_must (refine (checkOuts_q l _ 0 _ HL.out HM.out HE.out).mono ?_); rintro e w1 ⟨rfl, hb⟩; have HB1 := Lib.hid hb; clear hb) | (go_at_call 40; go_must (refine (control_q base true _ hs HC.out).mono ?_); rintro e w2 ⟨rfl, rfl⟩))
      go_ret2
      exact ⟨by rw [HR1.out, HR2.out]; rfl, HB1.out⟩
  · have HR1 := Lib.hid (mapE_outs (base := base) HE.out hz)
    have HR2 := Lib.hid (mapS_no HR1.out hz)
    go_enter Tryd.func11, Tryd.ntmps11
    go_wp2_with (go_at_call 39; go_must (refine (checkOuts_q l _ oe _ HL.out HM.out HE.out).mono ?_); rintro e w1 ⟨rfl, hb⟩; have HB1 := Lib.hid hb; clear hb)
    go_ret2
    exact ⟨by rw [HR1.out, HR2.out]; rfl, HB1.out⟩

theorem map_bytes2 (p u : ByteArray) (P : List UInt8) (h : p.data.toList = P) : (p ++ (((⟨#[60, 117, 114, 108, 62, 60, 108, 111, 99, 62]⟩ : ByteArray) ++ u) ++ (⟨#[60, 47, 108, 111, 99, 62, 60, 47, 117, 114, 108, 62, 10]⟩ : ByteArray))).data.toList = P ++ (u1L ++ u.data.toList ++ u2L) := by
  rw [ByteArray.data_append, Array.toList_append, h, map_bytes]

set_option maxRecDepth 100000 in
set_option maxHeartbeats 4000000 in
theorem mapText_q (base : ByteArray) (l : List OutV) (v : Value) (w : World) (h : OutsAt w v l) (hs : base.size ≤ 1048576) (hm : MaxAt w) (he : outsE l = 0) :
    Calls Tryd.prog 13 #[.string base, v] w fun e w' => e = .returned (.string ⟨(mapB base l).toArray⟩) ∧ Below w.heap.size w w' := by
  obtain ⟨A, c, b, o, rfl, hlc, hc, hA, hcell⟩ := h
  unfold maxLen at hc
  have hl480 := outsE_len he
  have HE := Lib.hid he; clear he
  have HCell := Lib.hid hcell; clear hcell
  have HA := Lib.hid hA; clear hA
  have HM := Lib.hid hm; clear hm
  obtain ⟨rs, hrs⟩ : ∃ rs : ByteArray, (⟨(mapB base l).toArray⟩ : ByteArray) = rs := ⟨_, rfl⟩
  rw [hrs]
  have HRs := Lib.hid hrs; clear hrs
  go_enter Tryd.func13, Tryd.ntmps13
  go_wp2_with fail
  go_loopw [5, 12] (fun t5 t wr => ∃ (k : Nat) (out : ByteArray), k ≤ l.length ∧ t = .int .i64 k ∧ t5 = .string out ∧ Hid (out.data.toList = mapH ++ (l.take k).flatMap (urlL base)) ∧ Hid (Below w.heap.size w wr)) (fun _ t _ => l.length - (intOf t).toNat)
  case atStart => exact ⟨0, _, Nat.zero_le _, rfl, rfl, rfl, Below.refl _ _⟩
  case round =>
    obtain ⟨k, out, hk, rfl, rfl, HO, HB⟩ := hrel
    have hos : out.size ≤ 480 * 16777300 + 100 := by
      have hul := urls_len hs (l.take k)
      have htl : (l.take k).length ≤ k := List.length_take_le _ _
      have h1 := congrArg List.length HO.out
      rw [size_toList, List.length_append, show mapH.length = 48 from rfl] at h1
      omega
    by_cases hlt : k < l.length
    · have hA' := HA.out (by rintro rfl; simp at hlt)
      subst hA'
      clear HA
      obtain ⟨⟨path, bd⟩, hn⟩ : ∃ n, l[k]? = some n := ⟨_, List.getElem?_eq_getElem hlt⟩
      obtain ⟨p0, p1⟩ := (HCell.out k _ hn).keep (Keeps.of_below HB.out)
      simp only at p0 p1
      have bb := World.block_lt_of_cell? _ _ p0
      simp only at bb
      have HN := Lib.hid hn; clear hn
      have HP := Lib.hid (outs_path HE.out HN.out)
      have hps := path_size HP.out
      simp only at hps
      have hps2 : path.size ≤ 9223372036854775807 := by omega
      have HT := Lib.hid (urls_take (base := base) HN.out)
      obtain ⟨W1, hW1⟩ : ∃ W1, wr.alloc (.cells #[.string path, .string bd] 79) = W1 := ⟨_, rfl⟩
      have HX1 := Lib.hid (show CB W1 wr.heap.size 79 #[.string path, .string bd] by rw [← hW1]; exact CB.new _ _ _)
      have HB1 := Lib.hid (show Below w.heap.size w W1 by rw [← hW1]; exact HB.out.alloc HB.out.size _)
      have HW1 := Lib.hid hW1
      obtain ⟨nx, hnx⟩ : ∃ nx, wr.heap.size = nx := ⟨_, rfl⟩
      rw [hnx] at HX1
      have bx0 := HX1.out.c 0
      have bx1 := HX1.out.c 1
      have bsh := HX1.out.sh
      go_wp2_with fail
      clear hW1 hnx
      cases hpg : pageB path
      · have HPg := Lib.hid hpg; clear hpg
        go_wp2_with (go_at_call 48; go_must (refine (isPageR_q path bd false _ hps2 HPg.out).mono ?_); rintro e w5 ⟨rfl, hb⟩; have HB5 := Lib.hid (HB1.out.trans (hb.mono HB1.out.size)); clear hb)
        go_roundw
        case rel =>
          refine ⟨k + 1, out, by omega, by go_num, rfl, ?_, HB5.out⟩
          show _ = _
          rw [HT.out, url_no HPg.out, List.append_nil]
          exact HO.out
        case measure => simp [intOf]; omega
      · have HPg := Lib.hid hpg; clear hpg
        obtain ⟨ad, had⟩ : ∃ ad, addrS path = ad := ⟨_, rfl⟩
        have hadl := addrS_le path
        obtain ⟨u, hu⟩ : ∃ u : ByteArray, (⟨(escL (base ++ ad).data.toList).toArray⟩ : ByteArray) = u := ⟨_, rfl⟩
        have hus : u.size ≤ 16777216 := by have h1 := loc_le hs path; rw [locS, had, hu] at h1; exact h1
        have HIn := Lib.hid (show (base ++ ad).size ≤ 2097152 by rw [← had]; exact locIn_le hs path)
        have HU := Lib.hid (url_loc (bd := bd) HPg.out (show locS base path = u by rw [locS, had, hu]))
        rw [had] at hadl
        have HAd := Lib.hid had; clear had
        have HUu := Lib.hid hu; clear hu
        go_wp2_with (first | (go_at_call 48; go_must (refine (isPageR_q path bd true _ hps2 HPg.out).mono ?_); rintro e w5 ⟨rfl, hb⟩; have HX5 := Lib.hid (HX1.out.below hb); have bx50 := HX5.out.c 0; have HB5 := Lib.hid (HB1.out.trans (hb.mono HB1.out.size)); clear hb) | (go_at_call 49; go_must (refine (addressOf_q2 path ad _ HAd.out HP.out (HM.out.keep (Keeps.of_below HB5.out))).mono ?_); rintro e w6 ⟨rfl, hb⟩; have HB6 := Lib.hid (HB5.out.trans (hb.mono HB5.out.size)); clear hb) | (go_at_call 50; go_must (refine (escaped_q2 (base ++ ad) u _ HUu.out HIn.out).mono ?_); rintro e w7 ⟨rfl, rfl⟩))
        go_roundw
        case rel =>
          refine ⟨k + 1, _, by omega, by go_num, rfl, ?_, HB6.out⟩
          show _ = _
          rw [HT.out, HU.out, ← List.append_assoc]
          exact map_bytes2 out u _ HO.out
        case measure => simp [intOf]; omega
    · have hke : k = l.length := by omega
      have HF := Lib.hid (show (out ++ (⟨#[60, 47, 117, 114, 108, 115, 101, 116, 62, 10]⟩ : ByteArray)) = rs by
        apply Go.WideShapes.bytes_inj
        rw [← HRs.out, ByteArray.data_append, Array.toList_append, HO.out, hke, List.take_length]
        rfl)
      go_wp2_with fail
      go_ret
      exact ⟨by first | rfl | (rw [← HF.out]; rfl), HB.out⟩

end Go.Proofs.YtenhhknmpafpdaaDoor
