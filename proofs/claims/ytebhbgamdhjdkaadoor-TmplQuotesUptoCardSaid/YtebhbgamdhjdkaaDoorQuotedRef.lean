/-
  Values as constants of script: mastref1.Quoted.
-/
import Derived.Test.YtebhbgamdhjdkaaDoorQuoted
import Derived.Test.YtebhbgamdhjdkaaDoorQuoteStr
namespace Go.Proofs.YtebhbgamdhjdkaaDoor
open Go.RowKit Go.Deep

theorem info_strQ : (Tryd.prog.info? 9).map (fun i => (i.zero, i.size, i.bytes)) = some (some (.string ⟨#[]⟩), 1, 16) := by kernel_rfl
/-- strings as cells -/
def strsC (l : List ByteArray) : List Value := l.map Value.string
theorem strsC_snoc (l : List ByteArray) (s : ByteArray) : strsC (l ++ [s]) = strsC l ++ [.string s] := by simp [strsC]
/-- strings with a comma between -/
def joinQ (l : List ByteArray) : List UInt8 := Lib.join (l.map (·.data.toList)) [44]
theorem joinTail_snoc (r : List (List UInt8)) (x sep : List UInt8) : Lib.joinTail sep (r ++ [x]) = Lib.joinTail sep r ++ (sep ++ x) := by simp [Lib.joinTail]
theorem joinQ_snoc (l : List ByteArray) (s : ByteArray) : joinQ (l ++ [s]) = joinQ l ++ (if l.length = 0 then [] else [44]) ++ s.data.toList := by
  unfold joinQ
  cases l with
  | nil => simp [Lib.join_one, Lib.join_nil]
  | cons a r =>
    rw [List.map_append, List.map_cons, List.cons_append, Lib.join_cons, Lib.join_cons, List.map_cons, List.map_nil, joinTail_snoc]
    simp [List.append_assoc]
/-- a value's string, or an error -/
def RPost (q : Int × List UInt8) (w : World) (e : Ending) (w' : World) : Prop :=
  ∃ s, e = .returned (.tuple #[.string s, .int .i64 q.1]) ∧ (q.1 = 0 → s.data.toList = q.2) ∧ (¬ q.1 = 0 → s = ⟨#[]⟩) ∧ Below w.heap.size w w'
theorem showV_bad (k : Int) (b : Bool) (n : Int) (t : ByteArray) (h : ¬ (showV k b n t).2 = 0) : (showV k b n t).1 = ⟨#[]⟩ := by
  revert h
  unfold showV
  split
  · exact fun h => absurd rfl h
  · split
    · exact fun h => absurd rfl h
    · split
      · exact fun h => absurd rfl h
      · split
        · exact fun h => absurd rfl h
        · split
          · split
            · exact fun _ => rfl
            · exact fun h => absurd rfl h
          · exact fun _ => rfl

theorem join_q (B : Nat) (l : List ByteArray) (A : Option Addr) (m c : Nat) (w : World) (hm : m = l.length) (own : w.ownsRow B 9 1 (.slice A m c) m (strsC l)) (hlen : (joinQ l).length ≤ 1073741824) (hl : m ≤ 1073741824) :
    Calls Tryd.prog 46 #[.slice A m c, .string ⟨#[44]⟩] w fun e w' => ∃ z, e = .returned (.string z) ∧ z.data.toList = joinQ l ∧ Below w.heap.size w w' := by
  rcases Nat.eq_zero_or_pos m with h0 | h0
  · subst h0
    have : l = [] := List.eq_nil_of_length_eq_zero hm.symm
    subst this
    refine (Tryd.strings_Join_none A c ⟨#[44]⟩ w).mono fun e w' ⟨h1, h2⟩ => ⟨_, h1, rfl, by rw [h2]; exact Below.refl _ _⟩
  · obtain ⟨A', c', hv, hcm, hnc, hA⟩ := own_form own
    cases hv
    obtain ⟨g, rfl, hBg, hgl⟩ := hA h0
    subst hm
    refine (Tryd.strings_Join g 0 c l ⟨#[44]⟩ w (fun j x hx => ?_) hgl (by omega) hnc (by unfold joinQ at hlen; exact Nat.le_trans hlen (by omega))).mono fun e w' ⟨h1, h2⟩ => ⟨_, h1, rfl, h2⟩
    rw [Nat.zero_add]
    exact own_cell own (by simp [strsC, hx])

set_option maxRecDepth 100000 in
set_option maxHeartbeats 8000000 in
theorem quotedRef_q (N : Nat) : ∀ (v : Val) (va : Value) (d : Nat) (w : World), SizeOf.sizeOf v ≤ N → ValIn w AnyB va v → TabOk w → 160 * valW v ≤ 536870912 → d ≤ 12 →
    Calls Tryd.prog 19 #[va, .int .i64 ((d : Int) + 1)] w (RPost (ownQ d v) w) := by
  induction N with
  | zero =>
    intro v va d w hN
    cases v; simp at hN
  | succ N ih =>
    intro v va d w hN hv ht hm hd
    obtain ⟨iv, kv, rfl, hok, hI, hK⟩ := hv
    obtain ⟨Ai, ci, bi, oi, ivf, kvf, rfl, hlc, hci, hAi, hcell, hit, hky⟩ := hI.inv
    obtain ⟨Ak, ck, bk, ok, rfl, hlk, hck, hAk, hkc⟩ := hK.inv
    have HNums := Lib.hid (nums_of_in hI)
    clear hI hK
    unfold maxLen at hci hck
    have HTab := Lib.hid ht; clear ht
    have HN := Lib.hid hN; clear hN
    have HIH := Lib.hid ih; clear ih
    have HCell := Lib.hid hcell; clear hcell
    have HIt := Lib.hid hit; clear hit
    have HKy := Lib.hid hky; clear hky
    have HKc := Lib.hid hkc; clear hkc
    have HOk := Lib.hid hok; clear hok
    have HBW := Lib.hid (show Below w.heap.size w (w.alloc (.cells #[.int .i64 v.kind, .bool v.flag, .int .i64 v.num, .string v.text, .slice Ai v.items.length ci, .slice Ak v.keys.length ck] 35)) from (Below.refl _ _).alloc (Nat.le_refl _) _)
    have HBox := Lib.hid (show CB (w.alloc (.cells #[.int .i64 v.kind, .bool v.flag, .int .i64 v.num, .string v.text, .slice Ai v.items.length ci, .slice Ak v.keys.length ck] 35)) w.heap.size 35 #[.int .i64 v.kind, .bool v.flag, .int .i64 v.num, .string v.text, .slice Ai v.items.length ci, .slice Ak v.keys.length ck] from CB.new w _ _)
    have HTb := Lib.hid (show TabOk (w.alloc (.cells #[.int .i64 v.kind, .bool v.flag, .int .i64 v.num, .string v.text, .slice Ai v.items.length ci, .slice Ak v.keys.length ck] 35)) from HTab.out.keep HBW.out)
    unfold valAgg
    have hx : v.kind = 0 ∨ v.kind = 1 ∨ v.kind = 2 ∨ v.kind = 3 ∨ v.kind = 7 ∨ v.kind = 4 ∨ v.kind = 5 ∨ v.kind = 6 ∨ (v.kind ≠ 0 ∧ v.kind ≠ 1 ∧ v.kind ≠ 2 ∧ v.kind ≠ 3 ∧ v.kind ≠ 7 ∧ v.kind ≠ 4 ∧ v.kind ≠ 5 ∧ v.kind ≠ 6) := by omega
    rcases hx with hx | hx | hx | hx | hx | hx | hx | hx | hx
    · have hval : 1 ≤ valW v ∧ v.text.size + 1 ≤ valW v := by unfold valW; omega
      have t0 : (v.kind == 0) = true := by simp; omega
      have t1 : (v.kind == 1) = false := by simp; omega
      have t2 : (v.kind == 2) = false := by simp; omega
      have t3 : (v.kind == 3) = false := by simp; omega
      have t7 : (v.kind == 7) = false := by simp; omega
      have t4 : (v.kind == 4) = false := by simp; omega
      have t5 : (v.kind == 5) = false := by simp; omega
      have t6 : (v.kind == 6) = false := by simp; omega
      have HQ := Lib.hid (show ownQ d v = (0, [110, 117, 108, 108]) by rw [ownQ_eq, if_neg (by omega), leafQ, if_pos hx])
      clear hx
      go_enter Tryd.func19, Tryd.ntmps19
      go_wp2_with fail
      go_ret2
      rw [HQ.out]
      exact ⟨_, rfl, fun _ => rfl, fun h => absurd rfl h, HBW.out⟩
    · have hval : 1 ≤ valW v ∧ v.text.size + 1 ≤ valW v := by unfold valW; omega
      have t0 : (v.kind == 0) = false := by simp; omega
      have t1 : (v.kind == 1) = true := by simp; omega
      have t2 : (v.kind == 2) = false := by simp; omega
      have t3 : (v.kind == 3) = false := by simp; omega
      have t7 : (v.kind == 7) = false := by simp; omega
      have t4 : (v.kind == 4) = false := by simp; omega
      have t5 : (v.kind == 5) = false := by simp; omega
      have t6 : (v.kind == 6) = false := by simp; omega
      obtain ⟨sv, hsv⟩ : ∃ p, showV v.kind v.flag v.num v.text = p := ⟨_, rfl⟩
      have hlen := showV_len v.kind v.flag v.num v.text HOk.out.2.1
      have hbad := showV_bad v.kind v.flag v.num v.text
      have HQ := Lib.hid (show ownQ d v = (0, sv.1.data.toList) by rw [ownQ_eq, if_neg (by omega), leafQ, if_neg (by omega), if_pos (by omega), hsv])
      rw [hsv] at hlen hbad
      have HSh := Lib.hid hsv
      have HBad := Lib.hid hbad
      clear hsv hbad
      obtain ⟨z, zc⟩ := sv
      have hzs : z.size ≤ v.text.size + 24 := by rw [← size_toList]; exact hlen
      clear hlen
      have hz0 : zc = 0 := by
        have h := congrArg Prod.snd HSh.out
        unfold showV at h
        rw [if_neg (by omega), if_pos hx] at h
        exact h.symm
      clear hx
      subst hz0
      go_enter Tryd.func19, Tryd.ntmps19
      go_wp2_with fail
      go_must (refine (shown_any v.kind v.flag v.num v.text Ai v.items.length ci Ak v.keys.length ck _ HOk.out.2.1 HTb.out).mono ?_)
      rw [HSh.out]
      rintro e w5 ⟨rfl, hb5⟩
      have HB5 := Lib.hid (HBW.out.trans (hb5.mono HBW.out.size))
      clear hb5
      go_wp2_with fail
      go_ret2
      rw [HQ.out]
      exact ⟨_, rfl, fun _ => rfl, fun h => absurd rfl h, HB5.out⟩
    · have hval : 1 ≤ valW v ∧ v.text.size + 1 ≤ valW v := by unfold valW; omega
      have t0 : (v.kind == 0) = false := by simp; omega
      have t1 : (v.kind == 1) = false := by simp; omega
      have t2 : (v.kind == 2) = true := by simp; omega
      have t3 : (v.kind == 3) = false := by simp; omega
      have t7 : (v.kind == 7) = false := by simp; omega
      have t4 : (v.kind == 4) = false := by simp; omega
      have t5 : (v.kind == 5) = false := by simp; omega
      have t6 : (v.kind == 6) = false := by simp; omega
      obtain ⟨sv, hsv⟩ : ∃ p, showV v.kind v.flag v.num v.text = p := ⟨_, rfl⟩
      have hlen := showV_len v.kind v.flag v.num v.text HOk.out.2.1
      have hbad := showV_bad v.kind v.flag v.num v.text
      have HQ := Lib.hid (show ownQ d v = (0, sv.1.data.toList) by rw [ownQ_eq, if_neg (by omega), leafQ, if_neg (by omega), if_pos (by omega), hsv])
      rw [hsv] at hlen hbad
      have HSh := Lib.hid hsv
      have HBad := Lib.hid hbad
      clear hsv hbad
      obtain ⟨z, zc⟩ := sv
      have hzs : z.size ≤ v.text.size + 24 := by rw [← size_toList]; exact hlen
      clear hlen
      have hz0 : zc = 0 := by
        have h := congrArg Prod.snd HSh.out
        unfold showV at h
        rw [if_neg (by omega), if_neg (by omega), if_pos hx] at h
        exact h.symm
      clear hx
      subst hz0
      go_enter Tryd.func19, Tryd.ntmps19
      go_wp2_with fail
      go_must (refine (shown_any v.kind v.flag v.num v.text Ai v.items.length ci Ak v.keys.length ck _ HOk.out.2.1 HTb.out).mono ?_)
      rw [HSh.out]
      rintro e w5 ⟨rfl, hb5⟩
      have HB5 := Lib.hid (HBW.out.trans (hb5.mono HBW.out.size))
      clear hb5
      go_wp2_with fail
      go_ret2
      rw [HQ.out]
      exact ⟨_, rfl, fun _ => rfl, fun h => absurd rfl h, HB5.out⟩
    · have hval : 1 ≤ valW v ∧ v.text.size + 1 ≤ valW v := by unfold valW; omega
      have t0 : (v.kind == 0) = false := by simp; omega
      have t1 : (v.kind == 1) = false := by simp; omega
      have t2 : (v.kind == 2) = false := by simp; omega
      have t3 : (v.kind == 3) = true := by simp; omega
      have t7 : (v.kind == 7) = false := by simp; omega
      have t4 : (v.kind == 4) = false := by simp; omega
      have t5 : (v.kind == 5) = false := by simp; omega
      have t6 : (v.kind == 6) = false := by simp; omega
      obtain ⟨sv, hsv⟩ : ∃ p, showV v.kind v.flag v.num v.text = p := ⟨_, rfl⟩
      have hlen := showV_len v.kind v.flag v.num v.text HOk.out.2.1
      have hbad := showV_bad v.kind v.flag v.num v.text
      have HQ := Lib.hid (show ownQ d v = (sv.2, quoteL sv.1.data.toList) by rw [ownQ_eq, if_neg (by omega), leafQ, if_neg (by omega), if_neg (by omega), if_pos (by omega), hsv])
      rw [hsv] at hlen hbad
      have HSh := Lib.hid hsv
      have HBad := Lib.hid hbad
      clear hsv hbad
      obtain ⟨z, zc⟩ := sv
      have hzs : z.size ≤ v.text.size + 24 := by rw [← size_toList]; exact hlen
      clear hlen
      clear hx
      go_enter Tryd.func19, Tryd.ntmps19
      go_wp2_with fail
      go_must (refine (shown_any v.kind v.flag v.num v.text Ai v.items.length ci Ak v.keys.length ck _ HOk.out.2.1 HTb.out).mono ?_)
      rw [HSh.out]
      rintro e w5 ⟨rfl, hb5⟩
      have HB5 := Lib.hid (HBW.out.trans (hb5.mono HBW.out.size))
      clear hb5
      by_cases hzc : zc = 0
      · subst hzc
        go_wp2_with fail
        go_must (refine (quoteString_q z _ (by omega)).mono ?_)
        rintro e w6 ⟨y, rfl, hy, hb6⟩
        have HY := Lib.hid hy
        have HB6 := Lib.hid (HB5.out.trans (hb6.mono HB5.out.size))
        clear hy hb6
        go_wp2_with fail
        go_ret2
        rw [HQ.out]
        exact ⟨_, rfl, fun _ => HY.out, fun h => absurd rfl h, HB6.out⟩
      · have tz : (zc != 0) = true := by simp [hzc]
        have HZc := Lib.hid hzc
        clear hzc
        go_wp2_with fail
        go_ret2
        rw [HQ.out]
        exact ⟨_, rfl, fun h => absurd h HZc.out, fun _ => rfl, HB5.out⟩
    · have hval : 1 ≤ valW v ∧ v.text.size + 1 ≤ valW v := by unfold valW; omega
      have t0 : (v.kind == 0) = false := by simp; omega
      have t1 : (v.kind == 1) = false := by simp; omega
      have t2 : (v.kind == 2) = false := by simp; omega
      have t3 : (v.kind == 3) = false := by simp; omega
      have t7 : (v.kind == 7) = true := by simp; omega
      have t4 : (v.kind == 4) = false := by simp; omega
      have t5 : (v.kind == 5) = false := by simp; omega
      have t6 : (v.kind == 6) = false := by simp; omega
      obtain ⟨sv, hsv⟩ : ∃ p, showV v.kind v.flag v.num v.text = p := ⟨_, rfl⟩
      have hlen := showV_len v.kind v.flag v.num v.text HOk.out.2.1
      have hbad := showV_bad v.kind v.flag v.num v.text
      have HQ := Lib.hid (show ownQ d v = (sv.2, quoteL sv.1.data.toList) by rw [ownQ_eq, if_neg (by omega), leafQ, if_neg (by omega), if_neg (by omega), if_pos (by omega), hsv])
      rw [hsv] at hlen hbad
      have HSh := Lib.hid hsv
      have HBad := Lib.hid hbad
      clear hsv hbad
      obtain ⟨z, zc⟩ := sv
      have hzs : z.size ≤ v.text.size + 24 := by rw [← size_toList]; exact hlen
      clear hlen
      clear hx
      go_enter Tryd.func19, Tryd.ntmps19
      go_wp2_with fail
      go_must (refine (shown_any v.kind v.flag v.num v.text Ai v.items.length ci Ak v.keys.length ck _ HOk.out.2.1 HTb.out).mono ?_)
      rw [HSh.out]
      rintro e w5 ⟨rfl, hb5⟩
      have HB5 := Lib.hid (HBW.out.trans (hb5.mono HBW.out.size))
      clear hb5
      by_cases hzc : zc = 0
      · subst hzc
        go_wp2_with fail
        go_must (refine (quoteString_q z _ (by omega)).mono ?_)
        rintro e w6 ⟨y, rfl, hy, hb6⟩
        have HY := Lib.hid hy
        have HB6 := Lib.hid (HB5.out.trans (hb6.mono HB5.out.size))
        clear hy hb6
        go_wp2_with fail
        go_ret2
        rw [HQ.out]
        exact ⟨_, rfl, fun _ => HY.out, fun h => absurd rfl h, HB6.out⟩
      · have tz : (zc != 0) = true := by simp [hzc]
        have HZc := Lib.hid hzc
        clear hzc
        go_wp2_with fail
        go_ret2
        rw [HQ.out]
        exact ⟨_, rfl, fun h => absurd h HZc.out, fun _ => rfl, HB5.out⟩
    · have hval : 1 ≤ valW v ∧ v.text.size + 1 ≤ valW v := by unfold valW; omega
      have t0 : (v.kind == 0) = false := by simp; omega
      have t1 : (v.kind == 1) = false := by simp; omega
      have t2 : (v.kind == 2) = false := by simp; omega
      have t3 : (v.kind == 3) = false := by simp; omega
      have t7 : (v.kind == 7) = false := by simp; omega
      have t4 : (v.kind == 4) = true := by simp; omega
      have t5 : (v.kind == 5) = false := by simp; omega
      have t6 : (v.kind == 6) = false := by simp; omega
      obtain ⟨sv, hsv⟩ : ∃ p, showV v.kind v.flag v.num v.text = p := ⟨_, rfl⟩
      have hlen := showV_len v.kind v.flag v.num v.text HOk.out.2.1
      have hbad := showV_bad v.kind v.flag v.num v.text
      have HQ := Lib.hid (show ownQ d v = (sv.2, quoteL sv.1.data.toList) by rw [ownQ_eq, if_neg (by omega), leafQ, if_neg (by omega), if_neg (by omega), if_pos (by omega), hsv])
      rw [hsv] at hlen hbad
      have HSh := Lib.hid hsv
      have HBad := Lib.hid hbad
      clear hsv hbad
      obtain ⟨z, zc⟩ := sv
      have hzs : z.size ≤ v.text.size + 24 := by rw [← size_toList]; exact hlen
      clear hlen
      clear hx
      go_enter Tryd.func19, Tryd.ntmps19
      go_wp2_with fail
      go_must (refine (shown_any v.kind v.flag v.num v.text Ai v.items.length ci Ak v.keys.length ck _ HOk.out.2.1 HTb.out).mono ?_)
      rw [HSh.out]
      rintro e w5 ⟨rfl, hb5⟩
      have HB5 := Lib.hid (HBW.out.trans (hb5.mono HBW.out.size))
      clear hb5
      by_cases hzc : zc = 0
      · subst hzc
        go_wp2_with fail
        go_must (refine (quoteString_q z _ (by omega)).mono ?_)
        rintro e w6 ⟨y, rfl, hy, hb6⟩
        have HY := Lib.hid hy
        have HB6 := Lib.hid (HB5.out.trans (hb6.mono HB5.out.size))
        clear hy hb6
        go_wp2_with fail
        go_ret2
        rw [HQ.out]
        exact ⟨_, rfl, fun _ => HY.out, fun h => absurd rfl h, HB6.out⟩
      · have tz : (zc != 0) = true := by simp [hzc]
        have HZc := Lib.hid hzc
        clear hzc
        go_wp2_with fail
        go_ret2
        rw [HQ.out]
        exact ⟨_, rfl, fun h => absurd h HZc.out, fun _ => rfl, HB5.out⟩
    · have hval : valW v = v.text.size + valsW v.items + strsW v.keys + 1 := rfl
      have t0 : (v.kind == 0) = false := by simp; omega
      have t1 : (v.kind == 1) = false := by simp; omega
      have t2 : (v.kind == 2) = false := by simp; omega
      have t3 : (v.kind == 3) = false := by simp; omega
      have t7 : (v.kind == 7) = false := by simp; omega
      have t4 : (v.kind == 4) = false := by simp; omega
      have t5 : (v.kind == 5) = true := by simp; omega
      have t6 : (v.kind == 6) = false := by simp; omega
      by_cases hd12 : d = 12
      · have t12 : (12 : Int) < (d : Int) + 1 := by omega
        have HQ := Lib.hid (show ownQ d v = (13, []) by rw [ownQ_eq, if_pos (by omega), if_pos hd12])
        clear hx hd12
        go_enter Tryd.func19, Tryd.ntmps19
        go_wp2_with fail
        go_ret2
        rw [HQ.out]
        exact ⟨_, rfl, fun h => absurd h (by decide), fun _ => rfl, HBW.out⟩
      · have t12 : ¬ (12 : Int) < (d : Int) + 1 := by omega
        have hd1 : d + 1 ≤ 12 := by omega
        have HQ := Lib.hid (show ownQ d v = ((partsQ (d + 1) false v.keys 0 v.items).1, 91 :: ((partsQ (d + 1) false v.keys 0 v.items).2 ++ [93])) by rw [ownQ_eq, if_pos (by omega), if_neg hd12, hx]; rfl)
        have dd : IntKind.i64.wrap ((d : Int) + 1 + 1) = (d : Int) + 1 + 1 := by rw [IntKind.wrap_i64]; omega
        clear hx hd12
        go_enter Tryd.func19, Tryd.ntmps19
        go_wp2_with fail
        go_loopw [8, 47] (fun t8 t wr => ∃ (j mk : Nat) (Ao : Option Addr) (co : Nat) (acc : List UInt8) (ps : List ByteArray), j ≤ v.items.length ∧ t = .int .i64 j ∧ t8 = .slice Ao mk co ∧ Hid (mk = ps.length) ∧ Hid (wr.ownsRow (w.heap.size + 1) 9 1 (.slice Ao mk co) mk (strsC ps)) ∧ Hid (joinQ ps = acc) ∧ Hid (PRel (d + 1) false v.keys v.items j acc) ∧ Hid (Below (w.heap.size + 1) (w.alloc (.cells #[.int .i64 v.kind, .bool v.flag, .int .i64 v.num, .string v.text, .slice Ai v.items.length ci, .slice Ak v.keys.length ck] 35)) wr) ∧ acc.length + 160 * valsW (v.items.drop j) + 8 * strsW (v.keys.drop j) + 3 ≤ 1073741824 ∧ mk = j) (fun _ t _ => v.items.length - (intOf t).toNat)
        case atStart => exact ⟨0, 0, none, 0, [], [], Nat.zero_le _, rfl, rfl, rfl, World.ownsRow_nil _ _ _ _, rfl, PRel.start _ _ _ _, Below.refl _ _, by rw [List.drop_zero, List.drop_zero]; show 0 + _ + _ + 3 ≤ _; omega, rfl⟩
        case round =>
          obtain ⟨j, mk, Ao, co, acc, ps, hj, rfl, rfl, HPl, HOw, HJn, hpr, HBq, hmk, hmj⟩ := hrel
          have hjl : v.items.length ≤ valsW v.items := valsW_len _
          have hmj2 : mk ≤ 1073741823 := by omega
          have HMj := Lib.hid hmj
          clear hmj
          have hszq := HBq.out.size
          have hszb : (w.heap.size + 1) ≤ wr.heap.size := by rw [World.size_alloc] at hszq; exact hszq
          clear hszq
          have HBw := Lib.hid (show CB wr w.heap.size 35 #[.int .i64 v.kind, .bool v.flag, .int .i64 v.num, .string v.text, .slice Ai v.items.length ci, .slice Ak v.keys.length ck] from (HBq.out.block w.heap.size (by omega)).trans HBox.out)
          have HBe := Lib.hid (show Below w.heap.size w wr from HBW.out.trans (HBq.out.mono (by omega)))
          have bc0 : wr.cell? ⟨w.heap.size, 0, none⟩ = some (.int .i64 v.kind) := HBw.out.c 0
          have bc5 : wr.cell? ⟨w.heap.size, 5, none⟩ = some (.slice Ak v.keys.length ck) := HBw.out.c 5
          have bsh := HBw.out.sh
          have hnw : w.heap.size < wr.heap.size := HBw.out.lt
          by_cases hlt : j < v.items.length
          · have hA' := (hAi (by intro e; rw [e] at hlt; simp at hlt)).1
            obtain ⟨x, hx⟩ : ∃ x, v.items[j]? = some x := ⟨_, List.getElem?_eq_getElem hlt⟩
            obtain ⟨⟨c0, c1, c2, c3, c4, c5⟩, okx⟩ := HCell.out j x hx
            have hix := HIt.out j x hx
            have hkx := HKy.out j x hx
            obtain ⟨A3, c3', _, _, _, _, e3, _, _, _, _, _, _⟩ := hix.inv
            obtain ⟨A4, c4', _, _, e4, _, _, _, _⟩ := hkx.inv
            rw [e3] at c4 hix
            rw [e4] at c5 hkx
            have HVx := Lib.hid (show ValIn w AnyB (.agg #[.int .i64 x.kind, .bool x.flag, .int .i64 x.num, .string x.text, .slice A3 x.items.length c3', .slice A4 x.keys.length c4']) x from ⟨_, _, rfl, okx, hix, hkx⟩)
            have p0 := Keeps.of_below HBe.out _ _ c0
            have p1 := Keeps.of_below HBe.out _ _ c1
            have p2 := Keeps.of_below HBe.out _ _ c2
            have p3 := Keeps.of_below HBe.out _ _ c3
            have p4 := Keeps.of_below HBe.out _ _ c4
            have p5 := Keeps.of_below HBe.out _ _ c5
            clear c0 c1 c2 c3 c4 c5 e3 e4 hix hkx okx
            subst hA'
            have bb := World.block_lt_of_cell? _ _ p0
            simp only at bb
            have HSz := Lib.hid (val_at HN.out hx)
            have hvd := valsW_drop hx
            have hvp : 1 ≤ valW x := by unfold valW; omega
            have hvm := valsW_mem (List.mem_of_getElem? hx)
            have hho := headQ_len false v.keys j
            have hol := ownQ_len (d := d + 1) (NumsOk.at_ HNums.out hx)
            obtain ⟨q, hq⟩ : ∃ q, ownQ (d + 1) x = q := ⟨_, rfl⟩
            have HPs := Lib.hid (fun h0 => hpr.out.step hx h0)
            have HPb := Lib.hid (fun h0 => hpr.out.bad hx h0)
            rw [hq] at HPs HPb hol
            have HBY := Lib.hid (show Below (w.heap.size + 1) _ (wr.alloc (.cells #[.int .i64 x.kind, .bool x.flag, .int .i64 x.num, .string x.text, .slice A3 x.items.length c3', .slice A4 x.keys.length c4'] 35)) from HBq.out.alloc hszb _)
            have HBX := Lib.hid (show Below w.heap.size w (wr.alloc (.cells #[.int .i64 x.kind, .bool x.flag, .int .i64 x.num, .string x.text, .slice A3 x.items.length c3', .slice A4 x.keys.length c4'] 35)) from HBW.out.trans (HBY.out.mono (by omega)))
            have HOX := Lib.hid (show World.ownsRow (wr.alloc (.cells #[.int .i64 x.kind, .bool x.flag, .int .i64 x.num, .string x.text, .slice A3 x.items.length c3', .slice A4 x.keys.length c4'] 35)) (w.heap.size + 1) 9 1 (.slice Ao mk co) mk (strsC ps) from own_alloc HOw.out _)
            have HBb := Lib.hid (show CB (wr.alloc (.cells #[.int .i64 x.kind, .bool x.flag, .int .i64 x.num, .string x.text, .slice A3 x.items.length c3', .slice A4 x.keys.length c4'] 35)) w.heap.size 35 _ from HBw.out.alloc _)
            have hcall := HIH.out x _ (d + 1) (wr.alloc (.cells #[.int .i64 x.kind, .bool x.flag, .int .i64 x.num, .string x.text, .slice A3 x.items.length c3', .slice A4 x.keys.length c4'] 35)) HSz.out (HVx.out.keeps (Keeps.of_below HBX.out)) (HTab.out.keep HBX.out) (by omega) hd1
            rw [hq, Int.natCast_add] at hcall
            clear hq HBw HOw
            go_wp2_with fail
            refine hcall.mono ?_
            clear hcall
            rintro e w8 ⟨s8, rfl, hs8, hs9, hb8⟩
            have HB8 := Lib.hid (HBX.out.trans (hb8.mono HBX.out.size))
            have HBZ := Lib.hid (HBY.out.trans (hb8.mono (by rw [World.size_alloc]; omega)))
            have HO8 := Lib.hid (HOX.out.kept (grown_below0 (r := none) hb8) (by cases hx : (Value.slice Ao mk co).ownBlock <;> simp))
            have HBc := Lib.hid (HBb.out.below hb8)
            have HS8 := Lib.hid hs8
            clear hs8 hs9 hb8 HOX HBb HBX HBY bc0 bc5 bsh hnw
            obtain ⟨q1, q2⟩ := q
            by_cases hz8 : q1 = 0
            · subst hz8
              have HS9 := Lib.hid (HS8.out rfl)
              have HP9 := Lib.hid (HPs.out rfl)
              have hol2 : q2.length + 4 ≤ 160 * valW x := hol
              have hs8z : s8.size = q2.length := by rw [← size_toList, HS9.out]
              clear hol HS8 HPs HPb hpr hx
              have bc0 : w8.cell? ⟨w.heap.size, 0, none⟩ = some (.int .i64 v.kind) := HBc.out.c 0
              have bc5 : w8.cell? ⟨w.heap.size, 5, none⟩ = some (.slice Ak v.keys.length ck) := HBc.out.c 5
              have bsh := HBc.out.sh
              have hnw : w.heap.size < w8.heap.size := HBc.out.lt
              have hgj : (ps.length = 0) ↔ (j = 0) := by rw [← HPl.out, HMj.out]
              have HHd := Lib.hid (show headQ false v.keys j = (if j = 0 then [] else [44]) ++ [] from rfl)
              go_wp2_with (at_builtin; have hh := HO8.out.alloc (.cells #[.string s8] 9); have k1 : (mk + 1) * 16 ≤ 140737488355328 := (by omega); have k2 : mk + 1 ≤ maxLen := (by unfold maxLen; omega); have k3 : w.heap.size + 1 ≤ (World.alloc w8 (.cells #[.string s8] 9)).heap.size := (by rw [World.size_alloc]; omega); have k4 := cell_new w8 [.string s8] 9 (World.heap w8).size rfl; go_must (refine wpList_push _ rfl (.tmp 80) (.tmp 82) 30 rfl (w.heap.size + 1) 9 (.string ⟨#[]⟩) 1 16 Tryd.underlying30 info_strQ rfl (by omega) (.slice Ao mk co) mk _ rfl hh [.string s8] rfl _ rfl k4 (one_str _) k1 k2 k3 ?_); clear hh k1 k2 k3 k4; intro g9 c9 w9 own9 hg9 hgg9 hb9)
              have HO9 := Lib.hid own9
              have HB9 := Lib.hid ((HBZ.out.alloc (by omega) (.cells #[.string s8] 9)).trans hb9)
              clear own9 hg9 hgg9 hb9
              go_roundw
              case rel =>
                refine ⟨j + 1, mk + 1, some ⟨g9, 0, none⟩, c9, acc ++ headQ false v.keys j ++ q2, ps ++ [s8], by omega, by go_num, rfl, (show _ = _ by rw [List.length_append, ← HPl.out]; rfl), (show World.ownsRow _ _ _ _ _ _ _ by rw [strsC_snoc]; exact HO9.out), (show _ = _ from ?_), HP9.out, HB9.out, ?_, by rw [HMj.out]⟩
                · rw [joinQ_snoc, HJn.out, HHd.out]
                  rw [show (if ps.length = 0 then ([] : List UInt8) else [44]) = (if j = 0 then [] else [44]) from by by_cases h : j = 0; (rw [if_pos (hgj.2 h), if_pos h]); (rw [if_neg (fun e => h (hgj.1 e)), if_neg h])]
                  simp only [HS9.out, List.append_assoc]
                  try rfl
                · simp only [List.length_append]
                  omega
              case measure => simp [intOf]; omega
            · have tq : (q1 != 0) = true := by simp [hz8]
              have HE9 := Lib.hid (show (ownQ d v).1 = q1 by rw [HQ.out]; exact HPb.out hz8)
              have HZ8 := Lib.hid hz8
              clear hz8 HPs HPb HS8 hol
              go_wp2_with fail
              go_ret2
              exact ⟨_, by rw [HE9.out]; rfl, fun h => absurd (HE9.out.symm.trans h) HZ8.out, fun _ => rfl, HB8.out⟩
          · have hfin := hpr.out.fin (by omega)
            have HR := Lib.hid (show ownQ d v = (0, 91 :: (acc ++ [93])) by rw [HQ.out, hfin])
            clear hfin hpr
            have hjl2 : (joinQ ps).length ≤ 1073741824 := by rw [HJn.out]; omega
            go_wp2_with (go_at_call 46; go_must (refine (join_q (w.heap.size + 1) ps Ao mk co _ HPl.out HOw.out hjl2 (by omega)).mono ?_); rintro e w5 ⟨z, rfl, hz, hb5⟩; have hzz : z.size ≤ 1073741824 := (by rw [← size_toList, hz]; exact hjl2); have HZ := Lib.hid hz; clear hz)
            go_ret2
            rw [HR.out]
            refine ⟨_, rfl, fun _ => ?_, fun h => absurd rfl h, HBe.out.trans (hb5.mono HBe.out.size)⟩
            simp only [ByteArray.data_append, Array.toList_append, HZ.out, HJn.out]
            simp
    · have hval : valW v = v.text.size + valsW v.items + strsW v.keys + 1 := rfl
      have t0 : (v.kind == 0) = false := by simp; omega
      have t1 : (v.kind == 1) = false := by simp; omega
      have t2 : (v.kind == 2) = false := by simp; omega
      have t3 : (v.kind == 3) = false := by simp; omega
      have t7 : (v.kind == 7) = false := by simp; omega
      have t4 : (v.kind == 4) = false := by simp; omega
      have t5 : (v.kind == 5) = false := by simp; omega
      have t6 : (v.kind == 6) = true := by simp; omega
      by_cases hd12 : d = 12
      · have t12 : (12 : Int) < (d : Int) + 1 := by omega
        have HQ := Lib.hid (show ownQ d v = (13, []) by rw [ownQ_eq, if_pos (by omega), if_pos hd12])
        clear hx hd12
        go_enter Tryd.func19, Tryd.ntmps19
        go_wp2_with fail
        go_ret2
        rw [HQ.out]
        exact ⟨_, rfl, fun h => absurd h (by decide), fun _ => rfl, HBW.out⟩
      · have t12 : ¬ (12 : Int) < (d : Int) + 1 := by omega
        have hd1 : d + 1 ≤ 12 := by omega
        have HQ := Lib.hid (show ownQ d v = ((partsQ (d + 1) true v.keys 0 v.items).1, 123 :: ((partsQ (d + 1) true v.keys 0 v.items).2 ++ [125])) by rw [ownQ_eq, if_pos (by omega), if_neg hd12, hx]; rfl)
        have dd : IntKind.i64.wrap ((d : Int) + 1 + 1) = (d : Int) + 1 + 1 := by rw [IntKind.wrap_i64]; omega
        clear hx hd12
        go_enter Tryd.func19, Tryd.ntmps19
        go_wp2_with fail
        go_loopw [8, 47] (fun t8 t wr => ∃ (j mk : Nat) (Ao : Option Addr) (co : Nat) (acc : List UInt8) (ps : List ByteArray), j ≤ v.items.length ∧ t = .int .i64 j ∧ t8 = .slice Ao mk co ∧ Hid (mk = ps.length) ∧ Hid (wr.ownsRow (w.heap.size + 1) 9 1 (.slice Ao mk co) mk (strsC ps)) ∧ Hid (joinQ ps = acc) ∧ Hid (PRel (d + 1) true v.keys v.items j acc) ∧ Hid (Below (w.heap.size + 1) (w.alloc (.cells #[.int .i64 v.kind, .bool v.flag, .int .i64 v.num, .string v.text, .slice Ai v.items.length ci, .slice Ak v.keys.length ck] 35)) wr) ∧ acc.length + 160 * valsW (v.items.drop j) + 8 * strsW (v.keys.drop j) + 3 ≤ 1073741824 ∧ mk = j) (fun _ t _ => v.items.length - (intOf t).toNat)
        case atStart => exact ⟨0, 0, none, 0, [], [], Nat.zero_le _, rfl, rfl, rfl, World.ownsRow_nil _ _ _ _, rfl, PRel.start _ _ _ _, Below.refl _ _, by rw [List.drop_zero, List.drop_zero]; show 0 + _ + _ + 3 ≤ _; omega, rfl⟩
        case round =>
          obtain ⟨j, mk, Ao, co, acc, ps, hj, rfl, rfl, HPl, HOw, HJn, hpr, HBq, hmk, hmj⟩ := hrel
          have hjl : v.items.length ≤ valsW v.items := valsW_len _
          have hmj2 : mk ≤ 1073741823 := by omega
          have HMj := Lib.hid hmj
          clear hmj
          have hszq := HBq.out.size
          have hszb : (w.heap.size + 1) ≤ wr.heap.size := by rw [World.size_alloc] at hszq; exact hszq
          clear hszq
          have HBw := Lib.hid (show CB wr w.heap.size 35 #[.int .i64 v.kind, .bool v.flag, .int .i64 v.num, .string v.text, .slice Ai v.items.length ci, .slice Ak v.keys.length ck] from (HBq.out.block w.heap.size (by omega)).trans HBox.out)
          have HBe := Lib.hid (show Below w.heap.size w wr from HBW.out.trans (HBq.out.mono (by omega)))
          have bc0 : wr.cell? ⟨w.heap.size, 0, none⟩ = some (.int .i64 v.kind) := HBw.out.c 0
          have bc5 : wr.cell? ⟨w.heap.size, 5, none⟩ = some (.slice Ak v.keys.length ck) := HBw.out.c 5
          have bsh := HBw.out.sh
          have hnw : w.heap.size < wr.heap.size := HBw.out.lt
          by_cases hlt : j < v.items.length
          · have hA' := (hAi (by intro e; rw [e] at hlt; simp at hlt)).1
            obtain ⟨x, hx⟩ : ∃ x, v.items[j]? = some x := ⟨_, List.getElem?_eq_getElem hlt⟩
            obtain ⟨⟨c0, c1, c2, c3, c4, c5⟩, okx⟩ := HCell.out j x hx
            have hix := HIt.out j x hx
            have hkx := HKy.out j x hx
            obtain ⟨A3, c3', _, _, _, _, e3, _, _, _, _, _, _⟩ := hix.inv
            obtain ⟨A4, c4', _, _, e4, _, _, _, _⟩ := hkx.inv
            rw [e3] at c4 hix
            rw [e4] at c5 hkx
            have HVx := Lib.hid (show ValIn w AnyB (.agg #[.int .i64 x.kind, .bool x.flag, .int .i64 x.num, .string x.text, .slice A3 x.items.length c3', .slice A4 x.keys.length c4']) x from ⟨_, _, rfl, okx, hix, hkx⟩)
            have p0 := Keeps.of_below HBe.out _ _ c0
            have p1 := Keeps.of_below HBe.out _ _ c1
            have p2 := Keeps.of_below HBe.out _ _ c2
            have p3 := Keeps.of_below HBe.out _ _ c3
            have p4 := Keeps.of_below HBe.out _ _ c4
            have p5 := Keeps.of_below HBe.out _ _ c5
            clear c0 c1 c2 c3 c4 c5 e3 e4 hix hkx okx
            subst hA'
            have bb := World.block_lt_of_cell? _ _ p0
            simp only at bb
            have HSz := Lib.hid (val_at HN.out hx)
            have hvd := valsW_drop hx
            have hvp : 1 ≤ valW x := by unfold valW; omega
            have hvm := valsW_mem (List.mem_of_getElem? hx)
            have hho := headQ_len true v.keys j
            have hol := ownQ_len (d := d + 1) (NumsOk.at_ HNums.out hx)
            obtain ⟨q, hq⟩ : ∃ q, ownQ (d + 1) x = q := ⟨_, rfl⟩
            have HPs := Lib.hid (fun h0 => hpr.out.step hx h0)
            have HPb := Lib.hid (fun h0 => hpr.out.bad hx h0)
            rw [hq] at HPs HPb hol
            have HBY := Lib.hid (show Below (w.heap.size + 1) _ (wr.alloc (.cells #[.int .i64 x.kind, .bool x.flag, .int .i64 x.num, .string x.text, .slice A3 x.items.length c3', .slice A4 x.keys.length c4'] 35)) from HBq.out.alloc hszb _)
            have HBX := Lib.hid (show Below w.heap.size w (wr.alloc (.cells #[.int .i64 x.kind, .bool x.flag, .int .i64 x.num, .string x.text, .slice A3 x.items.length c3', .slice A4 x.keys.length c4'] 35)) from HBW.out.trans (HBY.out.mono (by omega)))
            have HOX := Lib.hid (show World.ownsRow (wr.alloc (.cells #[.int .i64 x.kind, .bool x.flag, .int .i64 x.num, .string x.text, .slice A3 x.items.length c3', .slice A4 x.keys.length c4'] 35)) (w.heap.size + 1) 9 1 (.slice Ao mk co) mk (strsC ps) from own_alloc HOw.out _)
            have HBb := Lib.hid (show CB (wr.alloc (.cells #[.int .i64 x.kind, .bool x.flag, .int .i64 x.num, .string x.text, .slice A3 x.items.length c3', .slice A4 x.keys.length c4'] 35)) w.heap.size 35 _ from HBw.out.alloc _)
            have hcall := HIH.out x _ (d + 1) (wr.alloc (.cells #[.int .i64 x.kind, .bool x.flag, .int .i64 x.num, .string x.text, .slice A3 x.items.length c3', .slice A4 x.keys.length c4'] 35)) HSz.out (HVx.out.keeps (Keeps.of_below HBX.out)) (HTab.out.keep HBX.out) (by omega) hd1
            rw [hq, Int.natCast_add] at hcall
            clear hq HBw HOw
            go_wp2_with fail
            refine hcall.mono ?_
            clear hcall
            rintro e w8 ⟨s8, rfl, hs8, hs9, hb8⟩
            have HB8 := Lib.hid (HBX.out.trans (hb8.mono HBX.out.size))
            have HBZ := Lib.hid (HBY.out.trans (hb8.mono (by rw [World.size_alloc]; omega)))
            have HO8 := Lib.hid (HOX.out.kept (grown_below0 (r := none) hb8) (by cases hx : (Value.slice Ao mk co).ownBlock <;> simp))
            have HBc := Lib.hid (HBb.out.below hb8)
            have HS8 := Lib.hid hs8
            clear hs8 hs9 hb8 HOX HBb HBX HBY bc0 bc5 bsh hnw
            obtain ⟨q1, q2⟩ := q
            by_cases hz8 : q1 = 0
            · subst hz8
              have HS9 := Lib.hid (HS8.out rfl)
              have HP9 := Lib.hid (HPs.out rfl)
              have hol2 : q2.length + 4 ≤ 160 * valW x := hol
              have hs8z : s8.size = q2.length := by rw [← size_toList, HS9.out]
              clear hol HS8 HPs HPb hpr hx
              have bc0 : w8.cell? ⟨w.heap.size, 0, none⟩ = some (.int .i64 v.kind) := HBc.out.c 0
              have bc5 : w8.cell? ⟨w.heap.size, 5, none⟩ = some (.slice Ak v.keys.length ck) := HBc.out.c 5
              have bsh := HBc.out.sh
              have hnw : w.heap.size < w8.heap.size := HBc.out.lt
              have hgj : (ps.length = 0) ↔ (j = 0) := by rw [← HPl.out, HMj.out]
              by_cases hkj : j < v.keys.length
              · have hAk2 := hAk (by intro e; rw [e] at hkj; simp at hkj)
                subst hAk2
                obtain ⟨ky, hky⟩ : ∃ s, v.keys[j]? = some s := ⟨_, List.getElem?_eq_getElem hkj⟩
                obtain ⟨kc0, _⟩ := HKc.out j ky hky
                have kc := Keeps.of_below HB8.out _ _ kc0
                have hks : strsW (v.keys.drop j) = ky.size + 1 + strsW (v.keys.drop (j + 1)) := strsW_drop hky
                have HHd := Lib.hid (show headQ true v.keys j = (if j = 0 then [] else [44]) ++ (quoteL ky.data.toList ++ [58]) by unfold headQ; rw [hky]; rfl)
                clear hky kc0
                go_wp2_with fail
                refine (quoteString_q ky _ (by omega)).mono ?_
                rintro e w4 ⟨z4, rfl, hz4, hb4⟩
                have HZ4 := Lib.hid hz4
                have hql := quoteL_len ky.data.toList
                have hz4s : z4.size = (quoteL ky.data.toList).length := by rw [← size_toList, HZ4.out]
                rw [size_toList] at hql
                have HO4 := Lib.hid (HO8.out.kept (grown_below0 (r := none) hb4) (by cases hx : (Value.slice Ao mk co).ownBlock <;> simp))
                have HBV := Lib.hid (HBZ.out.trans (hb4.mono (show w.heap.size + 1 ≤ w8.heap.size by omega)))
                have hsz4 := hb4.size
                clear hz4 hb4 HO8
                have HO8 := HO4
                obtain ⟨sp, hsp⟩ : ∃ sp, z4 ++ (⟨#[58]⟩ : ByteArray) ++ s8 = sp := ⟨_, rfl⟩
                have HSp := Lib.hid (show sp.data.toList = quoteL ky.data.toList ++ [58] ++ q2 by rw [← hsp]; simp only [ByteArray.data_append, Array.toList_append, HZ4.out, HS9.out])
                go_wp2_with (at_builtin; have hh := HO8.out.alloc (.cells #[.string sp] 9); have k1 : (mk + 1) * 16 ≤ 140737488355328 := (by omega); have k2 : mk + 1 ≤ maxLen := (by unfold maxLen; omega); have k3 : w.heap.size + 1 ≤ (World.alloc w4 (.cells #[.string sp] 9)).heap.size := (by rw [World.size_alloc]; omega); have k4 := cell_new w4 [.string sp] 9 (World.heap w4).size rfl; go_must (refine wpList_push _ rfl (.tmp 80) (.tmp 82) 30 rfl (w.heap.size + 1) 9 (.string ⟨#[]⟩) 1 16 Tryd.underlying30 info_strQ rfl (by omega) (.slice Ao mk co) mk _ rfl hh [.string sp] rfl _ rfl k4 (one_str _) k1 k2 k3 ?_); clear hh k1 k2 k3 k4; intro g9 c9 w9 own9 hg9 hgg9 hb9)
                have HO9 := Lib.hid own9
                have HB9 := Lib.hid ((HBV.out.alloc (by omega) (.cells #[.string sp] 9)).trans hb9)
                clear own9 hg9 hgg9 hb9
                go_roundw
                case rel =>
                  refine ⟨j + 1, mk + 1, some ⟨g9, 0, none⟩, c9, acc ++ headQ true v.keys j ++ q2, ps ++ [sp], by omega, by go_num, rfl, (show _ = _ by rw [List.length_append, ← HPl.out]; rfl), (show World.ownsRow _ _ _ _ _ _ _ by rw [strsC_snoc]; exact HO9.out), (show _ = _ from ?_), HP9.out, HB9.out, ?_, by rw [HMj.out]⟩
                  · rw [joinQ_snoc, HJn.out, HHd.out]
                    rw [show (if ps.length = 0 then ([] : List UInt8) else [44]) = (if j = 0 then [] else [44]) from by by_cases h : j = 0; (rw [if_pos (hgj.2 h), if_pos h]); (rw [if_neg (fun e => h (hgj.1 e)), if_neg h])]
                    simp only [HSp.out, List.append_assoc]
                    try rfl
                  · simp only [List.length_append]
                    omega
                case measure => simp [intOf]; omega
              · have hky : v.keys[j]? = none := List.getElem?_eq_none (by omega)
                have HHd := Lib.hid (show headQ true v.keys j = (if j = 0 then [] else [44]) ++ (quoteL (⟨#[]⟩ : ByteArray).data.toList ++ [58]) by unfold headQ; rw [hky]; rfl)
                clear hky
                go_wp2_with fail
                refine (quoteString_q (⟨#[]⟩ : ByteArray) _ (by show 0 ≤ _; omega)).mono ?_
                rintro e w4 ⟨z4, rfl, hz4, hb4⟩
                have HZ4 := Lib.hid hz4
                have hql := quoteL_len (⟨#[]⟩ : ByteArray).data.toList
                have hz4s : z4.size = (quoteL (⟨#[]⟩ : ByteArray).data.toList).length := by rw [← size_toList, HZ4.out]
                have hql0 : (⟨#[]⟩ : ByteArray).data.toList.length = 0 := rfl
                rw [hql0] at hql
                have HO4 := Lib.hid (HO8.out.kept (grown_below0 (r := none) hb4) (by cases hx : (Value.slice Ao mk co).ownBlock <;> simp))
                have HBV := Lib.hid (HBZ.out.trans (hb4.mono (show w.heap.size + 1 ≤ w8.heap.size by omega)))
                have hsz4 := hb4.size
                clear hz4 hb4 HO8
                have HO8 := HO4
                obtain ⟨sp, hsp⟩ : ∃ sp, z4 ++ (⟨#[58]⟩ : ByteArray) ++ s8 = sp := ⟨_, rfl⟩
                have HSp := Lib.hid (show sp.data.toList = quoteL (⟨#[]⟩ : ByteArray).data.toList ++ [58] ++ q2 by rw [← hsp]; simp only [ByteArray.data_append, Array.toList_append, HZ4.out, HS9.out])
                go_wp2_with (at_builtin; have hh := HO8.out.alloc (.cells #[.string sp] 9); have k1 : (mk + 1) * 16 ≤ 140737488355328 := (by omega); have k2 : mk + 1 ≤ maxLen := (by unfold maxLen; omega); have k3 : w.heap.size + 1 ≤ (World.alloc w4 (.cells #[.string sp] 9)).heap.size := (by rw [World.size_alloc]; omega); have k4 := cell_new w4 [.string sp] 9 (World.heap w4).size rfl; go_must (refine wpList_push _ rfl (.tmp 80) (.tmp 82) 30 rfl (w.heap.size + 1) 9 (.string ⟨#[]⟩) 1 16 Tryd.underlying30 info_strQ rfl (by omega) (.slice Ao mk co) mk _ rfl hh [.string sp] rfl _ rfl k4 (one_str _) k1 k2 k3 ?_); clear hh k1 k2 k3 k4; intro g9 c9 w9 own9 hg9 hgg9 hb9)
                have HO9 := Lib.hid own9
                have HB9 := Lib.hid ((HBV.out.alloc (by omega) (.cells #[.string sp] 9)).trans hb9)
                clear own9 hg9 hgg9 hb9
                go_roundw
                case rel =>
                  refine ⟨j + 1, mk + 1, some ⟨g9, 0, none⟩, c9, acc ++ headQ true v.keys j ++ q2, ps ++ [sp], by omega, by go_num, rfl, (show _ = _ by rw [List.length_append, ← HPl.out]; rfl), (show World.ownsRow _ _ _ _ _ _ _ by rw [strsC_snoc]; exact HO9.out), (show _ = _ from ?_), HP9.out, HB9.out, ?_, by rw [HMj.out]⟩
                  · rw [joinQ_snoc, HJn.out, HHd.out]
                    rw [show (if ps.length = 0 then ([] : List UInt8) else [44]) = (if j = 0 then [] else [44]) from by by_cases h : j = 0; (rw [if_pos (hgj.2 h), if_pos h]); (rw [if_neg (fun e => h (hgj.1 e)), if_neg h])]
                    simp only [HSp.out, List.append_assoc]
                    try rfl
                  · simp only [List.length_append]
                    omega
                case measure => simp [intOf]; omega
            · have tq : (q1 != 0) = true := by simp [hz8]
              have HE9 := Lib.hid (show (ownQ d v).1 = q1 by rw [HQ.out]; exact HPb.out hz8)
              have HZ8 := Lib.hid hz8
              clear hz8 HPs HPb HS8 hol
              go_wp2_with fail
              go_ret2
              exact ⟨_, by rw [HE9.out]; rfl, fun h => absurd (HE9.out.symm.trans h) HZ8.out, fun _ => rfl, HB8.out⟩
          · have hfin := hpr.out.fin (by omega)
            have HR := Lib.hid (show ownQ d v = (0, 123 :: (acc ++ [125])) by rw [HQ.out, hfin])
            clear hfin hpr
            have hjl2 : (joinQ ps).length ≤ 1073741824 := by rw [HJn.out]; omega
            go_wp2_with (go_at_call 46; go_must (refine (join_q (w.heap.size + 1) ps Ao mk co _ HPl.out HOw.out hjl2 (by omega)).mono ?_); rintro e w5 ⟨z, rfl, hz, hb5⟩; have hzz : z.size ≤ 1073741824 := (by rw [← size_toList, hz]; exact hjl2); have HZ := Lib.hid hz; clear hz)
            go_ret2
            rw [HR.out]
            refine ⟨_, rfl, fun _ => ?_, fun h => absurd rfl h, HBe.out.trans (hb5.mono HBe.out.size)⟩
            simp only [ByteArray.data_append, Array.toList_append, HZ.out, HJn.out]
            simp
    · have hval : 1 ≤ valW v ∧ v.text.size + 1 ≤ valW v := by unfold valW; omega
      have t0 : (v.kind == 0) = false := by simp; omega
      have t1 : (v.kind == 1) = false := by simp; omega
      have t2 : (v.kind == 2) = false := by simp; omega
      have t3 : (v.kind == 3) = false := by simp; omega
      have t7 : (v.kind == 7) = false := by simp; omega
      have t4 : (v.kind == 4) = false := by simp; omega
      have t5 : (v.kind == 5) = false := by simp; omega
      have t6 : (v.kind == 6) = false := by simp; omega
      have HQ := Lib.hid (show ownQ d v = (10, []) by rw [ownQ_eq, if_neg (by omega), leafQ, if_neg (by omega), if_neg (by omega), if_neg (by omega)])
      clear hx
      go_enter Tryd.func19, Tryd.ntmps19
      go_wp2_with fail
      go_ret2
      rw [HQ.out]
      exact ⟨_, rfl, fun h => absurd h (by decide), fun _ => rfl, HBW.out⟩

end Go.Proofs.YtebhbgamdhjdkaaDoor
