/-
  Values as constants of script: tmpl.quoted, tmpl.Quote.
-/
import Derived.Test.YtebhbgamdhjdkaaDoorQuoteText
import Derived.Test.YtebhbgamdhjdkaaDoorFacts
import Derived.Laws.Strings2
namespace Go.Proofs.YtebhbgamdhjdkaaDoor
open Go.RowKit Go.Deep

theorem CB.keepT {w w' : World} {n : Nat} {t : TypeId} {cs : Array Value} (h : CB w n t cs) (k : KeepsT w w') (ht : t ≠ 5 := by decide) : CB w' n t cs := k.2 _ _ _ _ h ht
/-- a value's bytes behind a row, or an error -/
def QPost (w0 : World) (bs : List UInt8) (q : Int × List UInt8) (w : World) (e : Ending) (w' : World) : Prop :=
  ∃ A m c, e = .returned (.tuple #[.slice A m c, .int .i64 q.1]) ∧ Below w0.heap.size w0 w' ∧ KeepsT w w' ∧ (q.1 = 0 → OwnM w0.heap.size w' (.slice A m c) m (bs ++ q.2))
theorem StrsIn.inv {w : World} {P : Nat → Prop} {v : Value} {l : List ByteArray} (h : StrsIn w P v l) : ∃ (A : Option Addr) (c b o : Nat), v = .slice A l.length c ∧ l.length ≤ c ∧ c ≤ maxLen ∧ (l ≠ [] → A = some ⟨b, o, none⟩) ∧ ∀ i s, l[i]? = some s → w.cell? ⟨b, o + i, none⟩ = some (.string s) ∧ s.size ≤ maxLen := by
  obtain ⟨A, c, b, o, h1, h2, h3, h4, h5⟩ := h
  exact ⟨A, c, b, o, h1, h2, h3, fun hne => (h4 hne).1, h5⟩
theorem grown_below0 {a b : World} {r : Option Nat} (h : Below a.heap.size a b) : a.grownBy b r := ⟨h.os, h.tape, h.output, h.size, fun x hx _ => h.block x hx⟩
theorem strsW_drop {l : List ByteArray} {j : Nat} {s : ByteArray} (h : l[j]? = some s) : strsW (l.drop j) = s.size + 1 + strsW (l.drop (j + 1)) := by
  obtain ⟨hk, rfl⟩ := List.getElem?_eq_some_iff.1 h
  rw [List.drop_eq_getElem_cons hk, strsW]
theorem val_at {N : Nat} {v : Val} {k : Nat} {n : Val} (hN : SizeOf.sizeOf v ≤ N + 1) (h : v.items[k]? = some n) : SizeOf.sizeOf n ≤ N := by
  have h1 := v.items_lt
  have h2 := List.sizeOf_lt_of_mem (List.mem_of_getElem? h)
  omega

set_option maxRecDepth 100000 in
set_option maxHeartbeats 8000000 in
theorem quoted_q (w0 : World) (ht : TabOk w0) (N : Nat) : ∀ (v : Val) (va : Value) (bs : List UInt8) (A : Option Addr) (m cp : Nat) (d : Nat) (w : World), SizeOf.sizeOf v ≤ N → ValIn w0 AnyB va v → Below w0.heap.size w0 w → OwnM w0.heap.size w (.slice A m cp) m bs → m + 160 * valW v ≤ 1073741828 → d ≤ 12 →
    Calls Tryd.prog 43 #[.slice A m cp, va, .int .i64 (d : Int)] w (QPost w0 bs (ownQ d v) w) := by
  have HTab := Lib.hid ht; clear ht
  induction N with
  | zero =>
    intro v va bs A m cp d w hN
    cases v; simp at hN
  | succ N ih =>
    intro v va bs A m cp d w hN hv hb own hm hd
    obtain ⟨iv, kv, rfl, hok, hI, hK⟩ := hv
    obtain ⟨Ai, ci, bi, oi, ivf, kvf, rfl, hlc, hci, hAi, hcell, hit, hky⟩ := hI.inv
    obtain ⟨Ak, ck, bk, ok, rfl, hlk, hck, hAk, hkc⟩ := hK.inv
    have HNums := Lib.hid (nums_of_in hI)
    clear hI hK
    unfold maxLen at hci hck
    have HB0 := Lib.hid hb; clear hb
    have HN := Lib.hid hN; clear hN
    have HIH := Lib.hid ih; clear ih
    have HCell := Lib.hid hcell; clear hcell
    have HIt := Lib.hid hit; clear hit
    have HKy := Lib.hid hky; clear hky
    have HKc := Lib.hid hkc; clear hkc
    have HOk := Lib.hid hok; clear hok
    have HOX := Lib.hid (show OwnM w0.heap.size (w.alloc (.cells #[.int .i64 v.kind, .bool v.flag, .int .i64 v.num, .string v.text, .slice Ai v.items.length ci, .slice Ak v.keys.length ck] 35)) (.slice A m cp) m bs from own_alloc own _); clear own
    have HBX := Lib.hid (show Below w0.heap.size w0 (w.alloc (.cells #[.int .i64 v.kind, .bool v.flag, .int .i64 v.num, .string v.text, .slice Ai v.items.length ci, .slice Ak v.keys.length ck] 35)) from HB0.out.alloc HB0.out.size _)
    have HKX := Lib.hid (show KeepsT w (w.alloc (.cells #[.int .i64 v.kind, .bool v.flag, .int .i64 v.num, .string v.text, .slice Ai v.items.length ci, .slice Ak v.keys.length ck] 35)) from KeepsT.alloc _ _)
    have HBox := Lib.hid (show CB (w.alloc (.cells #[.int .i64 v.kind, .bool v.flag, .int .i64 v.num, .string v.text, .slice Ai v.items.length ci, .slice Ak v.keys.length ck] 35)) w.heap.size 35 #[.int .i64 v.kind, .bool v.flag, .int .i64 v.num, .string v.text, .slice Ai v.items.length ci, .slice Ak v.keys.length ck] from CB.new w _ _)
    unfold valAgg
    have hx : v.kind = 0 ∨ v.kind = 1 ∨ v.kind = 2 ∨ v.kind = 3 ∨ v.kind = 7 ∨ v.kind = 4 ∨ v.kind = 5 ∨ v.kind = 6 ∨ (v.kind ≠ 0 ∧ v.kind ≠ 1 ∧ v.kind ≠ 2 ∧ v.kind ≠ 3 ∧ v.kind ≠ 7 ∧ v.kind ≠ 4 ∧ v.kind ≠ 5 ∧ v.kind ≠ 6) := by omega
    rcases hx with hx | hx | hx | hx | hx | hx | hx | hx | hx
    · have hval : 1 ≤ valW v ∧ v.text.size + 1 ≤ valW v := by unfold valW; omega
      have t0 : (v.kind == 0) = true := by simp; omega
      have t1 : (v.kind == 1) = false := by simp; omega
      have t2 : (v.kind == 2) = false := by simp; omega
      have t3 : (v.kind == 3) = false := by simp; omega
      have t7 : (v.kind == 7) = false := by simp; omega
      have t4 : (v.kind == 4) = false := by simp; omega
      have t5 : (v.kind == 5) = false := by simp; omega
      have t6 : (v.kind == 6) = false := by simp; omega
      have HQ := Lib.hid (show ownQ d v = (0, [110, 117, 108, 108]) by rw [ownQ_eq, if_neg (by omega), leafQ, if_pos hx])
      clear hx
      obtain ⟨i0, hi0, hz0, hz1, hz2⟩ := info_parts info_byteQ
      go_enter Tryd.func43, Tryd.ntmps43
      go_wp2_with (at_builtin; have hh := HOX.out; have k1 : m + 4 ≤ maxLen := (by unfold maxLen; omega); have k2 : m + 4 ≤ 140737488355328 := (by omega); have k3 := HBX.out.size; go_must (refine Lib.wpList_append_own_string _ rfl (.tmp 22) (.const (.string ⟨#[110, 117, 108, 108]⟩)) 71 9 rfl w0.heap.size 5 i0 Tryd.underlying71 Tryd.underlying9 hi0 hz0 hz1 hz2 (.slice A m cp) m _ rfl hh ⟨#[110, 117, 108, 108]⟩ rfl k1 k2 k3 ?_); clear hh k1 k2 k3; intro v1 w1 own1 hg1 hnil; clear hnil; obtain ⟨A1, c1, hv1, u1, u2, u3⟩ := own_form own1; subst hv1; clear u1 u2 u3)
      have HO1 := Lib.hid (ownM_more (cs := [110, 117, 108, 108]) own1 (by simp [Lib.strCells, byteCells]))
      have HB1 := Lib.hid (HBX.out.grown hg1 HBX.out.size (fun g hg => (HOX.out.lt g hg).1))
      have HK1 := Lib.hid (HKX.out.trans (KeepsT.grown HOX.out hg1))
      go_ret2
      rw [HQ.out]
      exact ⟨_, _, _, rfl, HB1.out, HK1.out, fun _ => HO1.out⟩
    · have hval : 1 ≤ valW v ∧ v.text.size + 1 ≤ valW v := by unfold valW; omega
      have t0 : (v.kind == 0) = false := by simp; omega
      have t1 : (v.kind == 1) = true := by simp; omega
      have t2 : (v.kind == 2) = false := by simp; omega
      have t3 : (v.kind == 3) = false := by simp; omega
      have t7 : (v.kind == 7) = false := by simp; omega
      have t4 : (v.kind == 4) = false := by simp; omega
      have t5 : (v.kind == 5) = false := by simp; omega
      have t6 : (v.kind == 6) = false := by simp; omega
      obtain ⟨sv, hsv⟩ : ∃ p, showV v.kind v.flag v.num v.text = p := ⟨_, rfl⟩
      have hlen := showV_len v.kind v.flag v.num v.text HOk.out.2.1
      have HQ := Lib.hid (show ownQ d v = (0, sv.1.data.toList) by rw [ownQ_eq, if_neg (by omega), leafQ, if_neg (by omega), if_pos (by omega), hsv])
      rw [hsv] at hlen
      have HSh := Lib.hid hsv
      clear hsv hx
      obtain ⟨z, zc⟩ := sv
      have hzs : z.size ≤ v.text.size + 24 := by rw [← size_toList]; exact hlen
      clear hlen
      obtain ⟨i0, hi0, hz0, hz1, hz2⟩ := info_parts info_byteQ
      go_enter Tryd.func43, Tryd.ntmps43
      go_wp2_with fail
      go_must (refine (show_any v.kind v.flag v.num v.text Ai v.items.length ci Ak v.keys.length ck _ HOk.out.2.1 (HTab.out.keep HBX.out)).mono ?_)
      rw [HSh.out]
      rintro e w5 ⟨rfl, hb5⟩
      have HOY := Lib.hid (HOX.out.kept (grown_below0 (r := none) hb5) (by cases hx : (Value.slice A m cp).ownBlock <;> simp))
      have HKY := Lib.hid (HKX.out.trans (KeepsT.below hb5))
      have HBY := Lib.hid (HBX.out.trans (hb5.mono HBX.out.size))
      clear hb5 HOX HBX HKX
      have HOX := HOY
      have HBX := HBY
      have HKX := HKY
      clear HOY HBY HKY
      go_wp2_with (at_builtin; have hh := HOX.out; have k1 : m + z.size ≤ maxLen := (by unfold maxLen; omega); have k2 : m + z.size ≤ 140737488355328 := (by omega); have k3 := HBX.out.size; go_must (refine Lib.wpList_append_own_string _ rfl (.tmp 32) (.tmp 33) 71 9 rfl w0.heap.size 5 i0 Tryd.underlying71 Tryd.underlying9 hi0 hz0 hz1 hz2 (.slice A m cp) m _ rfl hh z rfl k1 k2 k3 ?_); clear hh k1 k2 k3; intro v1 w1 own1 hg1 hnil; clear hnil; obtain ⟨A1, c1, hv1, u1, u2, u3⟩ := own_form own1; subst hv1; clear u1 u2 u3)
      have HO1 := Lib.hid (ownM_more (cs := z.data.toList) own1 (by simp [Lib.strCells, byteCells]))
      have HB1 := Lib.hid (HBX.out.grown hg1 HBX.out.size (fun g hg => (HOX.out.lt g hg).1))
      have HK1 := Lib.hid (HKX.out.trans (KeepsT.grown HOX.out hg1))
      go_ret2
      rw [HQ.out]
      exact ⟨_, _, _, rfl, HB1.out, HK1.out, fun _ => HO1.out⟩
    · have hval : 1 ≤ valW v ∧ v.text.size + 1 ≤ valW v := by unfold valW; omega
      have t0 : (v.kind == 0) = false := by simp; omega
      have t1 : (v.kind == 1) = false := by simp; omega
      have t2 : (v.kind == 2) = true := by simp; omega
      have t3 : (v.kind == 3) = false := by simp; omega
      have t7 : (v.kind == 7) = false := by simp; omega
      have t4 : (v.kind == 4) = false := by simp; omega
      have t5 : (v.kind == 5) = false := by simp; omega
      have t6 : (v.kind == 6) = false := by simp; omega
      obtain ⟨sv, hsv⟩ : ∃ p, showV v.kind v.flag v.num v.text = p := ⟨_, rfl⟩
      have hlen := showV_len v.kind v.flag v.num v.text HOk.out.2.1
      have HQ := Lib.hid (show ownQ d v = (0, sv.1.data.toList) by rw [ownQ_eq, if_neg (by omega), leafQ, if_neg (by omega), if_pos (by omega), hsv])
      rw [hsv] at hlen
      have HSh := Lib.hid hsv
      clear hsv hx
      obtain ⟨z, zc⟩ := sv
      have hzs : z.size ≤ v.text.size + 24 := by rw [← size_toList]; exact hlen
      clear hlen
      obtain ⟨i0, hi0, hz0, hz1, hz2⟩ := info_parts info_byteQ
      go_enter Tryd.func43, Tryd.ntmps43
      go_wp2_with fail
      go_must (refine (show_any v.kind v.flag v.num v.text Ai v.items.length ci Ak v.keys.length ck _ HOk.out.2.1 (HTab.out.keep HBX.out)).mono ?_)
      rw [HSh.out]
      rintro e w5 ⟨rfl, hb5⟩
      have HOY := Lib.hid (HOX.out.kept (grown_below0 (r := none) hb5) (by cases hx : (Value.slice A m cp).ownBlock <;> simp))
      have HKY := Lib.hid (HKX.out.trans (KeepsT.below hb5))
      have HBY := Lib.hid (HBX.out.trans (hb5.mono HBX.out.size))
      clear hb5 HOX HBX HKX
      have HOX := HOY
      have HBX := HBY
      have HKX := HKY
      clear HOY HBY HKY
      go_wp2_with (at_builtin; have hh := HOX.out; have k1 : m + z.size ≤ maxLen := (by unfold maxLen; omega); have k2 : m + z.size ≤ 140737488355328 := (by omega); have k3 := HBX.out.size; go_must (refine Lib.wpList_append_own_string _ rfl (.tmp 32) (.tmp 33) 71 9 rfl w0.heap.size 5 i0 Tryd.underlying71 Tryd.underlying9 hi0 hz0 hz1 hz2 (.slice A m cp) m _ rfl hh z rfl k1 k2 k3 ?_); clear hh k1 k2 k3; intro v1 w1 own1 hg1 hnil; clear hnil; obtain ⟨A1, c1, hv1, u1, u2, u3⟩ := own_form own1; subst hv1; clear u1 u2 u3)
      have HO1 := Lib.hid (ownM_more (cs := z.data.toList) own1 (by simp [Lib.strCells, byteCells]))
      have HB1 := Lib.hid (HBX.out.grown hg1 HBX.out.size (fun g hg => (HOX.out.lt g hg).1))
      have HK1 := Lib.hid (HKX.out.trans (KeepsT.grown HOX.out hg1))
      go_ret2
      rw [HQ.out]
      exact ⟨_, _, _, rfl, HB1.out, HK1.out, fun _ => HO1.out⟩
    · have hval : 1 ≤ valW v ∧ v.text.size + 1 ≤ valW v := by unfold valW; omega
      have t0 : (v.kind == 0) = false := by simp; omega
      have t1 : (v.kind == 1) = false := by simp; omega
      have t2 : (v.kind == 2) = false := by simp; omega
      have t3 : (v.kind == 3) = true := by simp; omega
      have t7 : (v.kind == 7) = false := by simp; omega
      have t4 : (v.kind == 4) = false := by simp; omega
      have t5 : (v.kind == 5) = false := by simp; omega
      have t6 : (v.kind == 6) = false := by simp; omega
      obtain ⟨sv, hsv⟩ : ∃ p, showV v.kind v.flag v.num v.text = p := ⟨_, rfl⟩
      have hlen := showV_len v.kind v.flag v.num v.text HOk.out.2.1
      have HQ := Lib.hid (show ownQ d v = (sv.2, quoteL sv.1.data.toList) by rw [ownQ_eq, if_neg (by omega), leafQ, if_neg (by omega), if_neg (by omega), if_pos (by omega), hsv])
      rw [hsv] at hlen
      have HSh := Lib.hid hsv
      clear hsv hx
      obtain ⟨z, zc⟩ := sv
      have hzs : z.size ≤ v.text.size + 24 := by rw [← size_toList]; exact hlen
      clear hlen
      go_enter Tryd.func43, Tryd.ntmps43
      go_wp2_with fail
      go_must (refine (show_any v.kind v.flag v.num v.text Ai v.items.length ci Ak v.keys.length ck _ HOk.out.2.1 (HTab.out.keep HBX.out)).mono ?_)
      rw [HSh.out]
      rintro e w5 ⟨rfl, hb5⟩
      have HOY := Lib.hid (HOX.out.kept (grown_below0 (r := none) hb5) (by cases hx : (Value.slice A m cp).ownBlock <;> simp))
      have HKY := Lib.hid (HKX.out.trans (KeepsT.below hb5))
      have HBY := Lib.hid (HBX.out.trans (hb5.mono HBX.out.size))
      clear hb5 HOX HBX HKX
      have HOX := HOY
      have HBX := HBY
      have HKX := HKY
      clear HOY HBY HKY
      go_wp2_with fail
      go_must (refine (quoteText_q w0 bs A m cp z _ HBX.out HOX.out (by omega)).mono ?_)
      rintro e w6 ⟨A6, m6, c6, rfl, own6, hb6, hk6⟩
      have HO6 := Lib.hid own6
      have HB6 := Lib.hid hb6
      have HK6 := Lib.hid (HKX.out.trans hk6)
      clear own6 hb6 hk6
      go_wp2_with fail
      go_ret2
      rw [HQ.out]
      exact ⟨_, _, _, rfl, HB6.out, HK6.out, fun _ => HO6.out⟩
    · have hval : 1 ≤ valW v ∧ v.text.size + 1 ≤ valW v := by unfold valW; omega
      have t0 : (v.kind == 0) = false := by simp; omega
      have t1 : (v.kind == 1) = false := by simp; omega
      have t2 : (v.kind == 2) = false := by simp; omega
      have t3 : (v.kind == 3) = false := by simp; omega
      have t7 : (v.kind == 7) = true := by simp; omega
      have t4 : (v.kind == 4) = false := by simp; omega
      have t5 : (v.kind == 5) = false := by simp; omega
      have t6 : (v.kind == 6) = false := by simp; omega
      obtain ⟨sv, hsv⟩ : ∃ p, showV v.kind v.flag v.num v.text = p := ⟨_, rfl⟩
      have hlen := showV_len v.kind v.flag v.num v.text HOk.out.2.1
      have HQ := Lib.hid (show ownQ d v = (sv.2, quoteL sv.1.data.toList) by rw [ownQ_eq, if_neg (by omega), leafQ, if_neg (by omega), if_neg (by omega), if_pos (by omega), hsv])
      rw [hsv] at hlen
      have HSh := Lib.hid hsv
      clear hsv hx
      obtain ⟨z, zc⟩ := sv
      have hzs : z.size ≤ v.text.size + 24 := by rw [← size_toList]; exact hlen
      clear hlen
      go_enter Tryd.func43, Tryd.ntmps43
      go_wp2_with fail
      go_must (refine (show_any v.kind v.flag v.num v.text Ai v.items.length ci Ak v.keys.length ck _ HOk.out.2.1 (HTab.out.keep HBX.out)).mono ?_)
      rw [HSh.out]
      rintro e w5 ⟨rfl, hb5⟩
      have HOY := Lib.hid (HOX.out.kept (grown_below0 (r := none) hb5) (by cases hx : (Value.slice A m cp).ownBlock <;> simp))
      have HKY := Lib.hid (HKX.out.trans (KeepsT.below hb5))
      have HBY := Lib.hid (HBX.out.trans (hb5.mono HBX.out.size))
      clear hb5 HOX HBX HKX
      have HOX := HOY
      have HBX := HBY
      have HKX := HKY
      clear HOY HBY HKY
      go_wp2_with fail
      go_must (refine (quoteText_q w0 bs A m cp z _ HBX.out HOX.out (by omega)).mono ?_)
      rintro e w6 ⟨A6, m6, c6, rfl, own6, hb6, hk6⟩
      have HO6 := Lib.hid own6
      have HB6 := Lib.hid hb6
      have HK6 := Lib.hid (HKX.out.trans hk6)
      clear own6 hb6 hk6
      go_wp2_with fail
      go_ret2
      rw [HQ.out]
      exact ⟨_, _, _, rfl, HB6.out, HK6.out, fun _ => HO6.out⟩
    · have hval : 1 ≤ valW v ∧ v.text.size + 1 ≤ valW v := by unfold valW; omega
      have t0 : (v.kind == 0) = false := by simp; omega
      have t1 : (v.kind == 1) = false := by simp; omega
      have t2 : (v.kind == 2) = false := by simp; omega
      have t3 : (v.kind == 3) = false := by simp; omega
      have t7 : (v.kind == 7) = false := by simp; omega
      have t4 : (v.kind == 4) = true := by simp; omega
      have t5 : (v.kind == 5) = false := by simp; omega
      have t6 : (v.kind == 6) = false := by simp; omega
      obtain ⟨sv, hsv⟩ : ∃ p, showV v.kind v.flag v.num v.text = p := ⟨_, rfl⟩
      have hlen := showV_len v.kind v.flag v.num v.text HOk.out.2.1
      have HQ := Lib.hid (show ownQ d v = (sv.2, quoteL sv.1.data.toList) by rw [ownQ_eq, if_neg (by omega), leafQ, if_neg (by omega), if_neg (by omega), if_pos (by omega), hsv])
      rw [hsv] at hlen
      have HSh := Lib.hid hsv
      clear hsv hx
      obtain ⟨z, zc⟩ := sv
      have hzs : z.size ≤ v.text.size + 24 := by rw [← size_toList]; exact hlen
      clear hlen
      go_enter Tryd.func43, Tryd.ntmps43
      go_wp2_with fail
      go_must (refine (show_any v.kind v.flag v.num v.text Ai v.items.length ci Ak v.keys.length ck _ HOk.out.2.1 (HTab.out.keep HBX.out)).mono ?_)
      rw [HSh.out]
      rintro e w5 ⟨rfl, hb5⟩
      have HOY := Lib.hid (HOX.out.kept (grown_below0 (r := none) hb5) (by cases hx : (Value.slice A m cp).ownBlock <;> simp))
      have HKY := Lib.hid (HKX.out.trans (KeepsT.below hb5))
      have HBY := Lib.hid (HBX.out.trans (hb5.mono HBX.out.size))
      clear hb5 HOX HBX HKX
      have HOX := HOY
      have HBX := HBY
      have HKX := HKY
      clear HOY HBY HKY
      go_wp2_with fail
      go_must (refine (quoteText_q w0 bs A m cp z _ HBX.out HOX.out (by omega)).mono ?_)
      rintro e w6 ⟨A6, m6, c6, rfl, own6, hb6, hk6⟩
      have HO6 := Lib.hid own6
      have HB6 := Lib.hid hb6
      have HK6 := Lib.hid (HKX.out.trans hk6)
      clear own6 hb6 hk6
      go_wp2_with fail
      go_ret2
      rw [HQ.out]
      exact ⟨_, _, _, rfl, HB6.out, HK6.out, fun _ => HO6.out⟩
    · have hval : valW v = v.text.size + valsW v.items + strsW v.keys + 1 := rfl
      have t0 : (v.kind == 0) = false := by simp; omega
      have t1 : (v.kind == 1) = false := by simp; omega
      have t2 : (v.kind == 2) = false := by simp; omega
      have t3 : (v.kind == 3) = false := by simp; omega
      have t7 : (v.kind == 7) = false := by simp; omega
      have t4 : (v.kind == 4) = false := by simp; omega
      have t5 : (v.kind == 5) = true := by simp; omega
      have t6 : (v.kind == 6) = false := by simp; omega
      by_cases hd12 : d = 12
      · have t12 : ((d : Int) == 12) = true := by simp; omega
        have HQ := Lib.hid (show ownQ d v = (13, []) by rw [ownQ_eq, if_pos (by omega), if_pos hd12])
        clear hx hd12
        go_enter Tryd.func43, Tryd.ntmps43
        go_wp2_with fail
        go_ret2
        rw [HQ.out]
        exact ⟨_, _, _, rfl, HBX.out, HKX.out, fun h => absurd h (by decide)⟩
      · have t12 : ((d : Int) == 12) = false := by simp; omega
        have hd1 : d + 1 ≤ 12 := by omega
        have HQ := Lib.hid (show ownQ d v = ((partsQ (d + 1) false v.keys 0 v.items).1, 91 :: ((partsQ (d + 1) false v.keys 0 v.items).2 ++ [93])) by rw [ownQ_eq, if_pos (by omega), if_neg hd12, hx]; rfl)
        have dd : IntKind.i64.wrap ((d : Int) + 1) = (d : Int) + 1 := by rw [IntKind.wrap_i64]; omega
        clear hx hd12
        go_enter Tryd.func43, Tryd.ntmps43
        go_wp2_with (at_builtin; have hh := HOX.out.alloc (.cells #[.int .u8 91] 5); have k1 : (m + 1) * 1 ≤ 140737488355328 := (by omega); have k2 : m + 1 ≤ maxLen := (by unfold maxLen; omega); have k3 : w0.heap.size ≤ (World.alloc (w.alloc (.cells #[.int .i64 v.kind, .bool v.flag, .int .i64 v.num, .string v.text, .slice Ai v.items.length ci, .slice Ak v.keys.length ck] 35)) (.cells #[.int .u8 91] 5)).heap.size := (by have := HBX.out.size; rw [World.size_alloc]; omega); have k4 := cell_new (w.alloc (.cells #[.int .i64 v.kind, .bool v.flag, .int .i64 v.num, .string v.text, .slice Ai v.items.length ci, .slice Ak v.keys.length ck] 35)) [.int .u8 91] 5 (w.heap.size + 1) (by simp); refine wpList_app _ rfl (.tmp 57) (.tmp 60) 71 rfl w0.heap.size 5 (.int .u8 0) 1 Tryd.underlying71 info_byteQ rfl (.slice A m cp) (m) _ rfl hh [.int .u8 91] 1 rfl (by omega) _ (by first | rfl | simp) k4 (by intro u hu; simp at hu; subst hu; rfl) k1 k2 k3 ?_; clear hh k1 k2 k3 k4; intro g2 c2 w2 own2 hg2 hgg2 hb2; have HBx := Lib.hid ((HBox.out.alloc (.cells #[.int .u8 91] 5)).keepT (KeepsT.grown (HOX.out.alloc (.cells #[.int .u8 91] 5)) hg2)); have bc4 : w2.cell? ⟨w.heap.size, 4, none⟩ = some (.slice Ai v.items.length ci) := HBx.out.c 4; have bsh := HBx.out.sh; have hnw : w.heap.size < w2.heap.size := HBx.out.lt)
        have HO2 := Lib.hid (ownM_more (cs := [91]) own2 (by simp [byteCells]))
        have HB2 := Lib.hid ((HBX.out.alloc HBX.out.size (.cells #[.int .u8 91] 5)).trans hb2)
        have HK2 := Lib.hid ((HKX.out.trans (KeepsT.alloc _ (.cells #[.int .u8 91] 5))).trans (KeepsT.grown (HOX.out.alloc (.cells #[.int .u8 91] 5)) hg2))
        clear own2 hg2 hgg2 hb2 HOX HBX HKX
        have HOX := HO2
        have HBX := HB2
        have HKX := HK2
        clear HO2 HB2 HK2
        clear bc4 bsh hnw
        obtain ⟨nb, hnb⟩ : ∃ nb, w.heap.size = nb := ⟨_, rfl⟩
        rw [hnb] at HBx
        rw [hnb]
        have HNb := Lib.hid hnb
        clear hnb
        go_loopw [0, 65] (fun t0 t wr => ∃ (j mk : Nat) (Ao : Option Addr) (co : Nat) (acc : List UInt8), j ≤ v.items.length ∧ t = .int .i64 j ∧ t0 = .slice Ao mk co ∧ Hid (OwnM w0.heap.size wr (.slice Ao mk co) mk (bs ++ [91] ++ acc)) ∧ Hid (PRel (d + 1) false v.keys v.items j acc) ∧ Hid (Below w0.heap.size w0 wr) ∧ Hid (KeepsT w2 wr) ∧ mk + 160 * valsW (v.items.drop j) + 8 * strsW (v.keys.drop j) + 1 ≤ 1073741824) (fun _ t _ => v.items.length - (intOf t).toNat)
        case atStart => exact ⟨0, m + 1, _, _, [], Nat.zero_le _, rfl, rfl, (show OwnM _ _ _ _ _ by rw [List.append_nil]; exact HOX.out), PRel.start _ _ _ _, HBX.out, KeepsT.refl _, by rw [List.drop_zero, List.drop_zero]; omega⟩
        case round =>
          have HK2 := HKX
          clear HOX HBX HKX
          obtain ⟨j, mk, Ao, co, acc, hj, rfl, rfl, HOX, hpr, HBX, HKX, hmk⟩ := hrel
          have HBw := Lib.hid (HBx.out.keepT HKX.out)
          by_cases hlt : j < v.items.length
          · have hA' := (hAi (by intro e; rw [e] at hlt; simp at hlt)).1
            subst hA'
            obtain ⟨x, hx⟩ : ∃ x, v.items[j]? = some x := ⟨_, List.getElem?_eq_getElem hlt⟩
            obtain ⟨⟨c0, c1, c2, c3, c4, c5⟩, okx⟩ := HCell.out j x hx
            have hix := HIt.out j x hx
            have hkx := HKy.out j x hx
            obtain ⟨A3, c3', _, _, _, _, e3, _, _, _, _, _, _⟩ := hix.inv
            obtain ⟨A4, c4', _, _, e4, _, _, _, _⟩ := hkx.inv
            rw [e3] at c4 hix
            rw [e4] at c5 hkx
            have hml0 := ownM_len HOX.out
            have hvp : 1 ≤ valW x := by unfold valW; omega
            have HVx := Lib.hid (show ValIn w0 AnyB (.agg #[.int .i64 x.kind, .bool x.flag, .int .i64 x.num, .string x.text, .slice A3 x.items.length c3', .slice A4 x.keys.length c4']) x from ⟨_, _, rfl, okx, hix, hkx⟩)
            have p0 := Keeps.of_below HBX.out _ _ c0
            have p1 := Keeps.of_below HBX.out _ _ c1
            have p2 := Keeps.of_below HBX.out _ _ c2
            have p3 := Keeps.of_below HBX.out _ _ c3
            have p4 := Keeps.of_below HBX.out _ _ c4
            have p5 := Keeps.of_below HBX.out _ _ c5
            clear c0 c1 c2 c3 c4 c5 e3 e4 hix hkx okx
            have bb := World.block_lt_of_cell? _ _ p0
            simp only at bb
            have HSz := Lib.hid (val_at HN.out hx)
            have hvd := valsW_drop hx
            have hho := headQ_len false v.keys j
            have hol := ownQ_len (d := d + 1) (NumsOk.at_ HNums.out hx)
            have HPs := Lib.hid (fun h0 => hpr.out.step hx h0)
            have HPb := Lib.hid (fun h0 => hpr.out.bad hx h0)
            have HXb := Lib.hid (show CB (wr.alloc (.cells #[.int .i64 x.kind, .bool x.flag, .int .i64 x.num, .string x.text, .slice A3 x.items.length c3', .slice A4 x.keys.length c4'] 35)) wr.heap.size 35 #[.int .i64 x.kind, .bool x.flag, .int .i64 x.num, .string x.text, .slice A3 x.items.length c3', .slice A4 x.keys.length c4'] from CB.new wr _ _)
            have HBb := Lib.hid (show CB (wr.alloc (.cells #[.int .i64 x.kind, .bool x.flag, .int .i64 x.num, .string x.text, .slice A3 x.items.length c3', .slice A4 x.keys.length c4'] 35)) nb 35 _ from HBw.out.alloc _)
            have HOY := Lib.hid (show OwnM w0.heap.size (wr.alloc (.cells #[.int .i64 x.kind, .bool x.flag, .int .i64 x.num, .string x.text, .slice A3 x.items.length c3', .slice A4 x.keys.length c4'] 35)) (.slice Ao mk co) mk (bs ++ [91] ++ acc) from own_alloc HOX.out _)
            have HBY := Lib.hid (show Below w0.heap.size w0 (wr.alloc (.cells #[.int .i64 x.kind, .bool x.flag, .int .i64 x.num, .string x.text, .slice A3 x.items.length c3', .slice A4 x.keys.length c4'] 35)) from HBX.out.alloc HBX.out.size _)
            have HKY := Lib.hid (show KeepsT w2 (wr.alloc (.cells #[.int .i64 x.kind, .bool x.flag, .int .i64 x.num, .string x.text, .slice A3 x.items.length c3', .slice A4 x.keys.length c4'] 35)) from HKX.out.trans (KeepsT.alloc _ _))
            have bc0 : wr.cell? ⟨nb, 0, none⟩ = some (.int .i64 v.kind) := HBw.out.c 0
            have bc5 : wr.cell? ⟨nb, 5, none⟩ = some (.slice Ak v.keys.length ck) := HBw.out.c 5
            have bsh := HBw.out.sh
            have hnw : nb < wr.heap.size := HBw.out.lt
            have HBXo := HBX
            clear HOX HBX HKX HBw hx hpr
            have HOX := HOY
            have HBX := HBY
            have HKX := HKY
            clear HOY HBY HKY
            have HBXw := Lib.hid (show Below w0.heap.size w0 wr from HBXo.out)
            by_cases hjp : 0 < j
            · have HHd0 : headQ false v.keys j = (if j = 0 then [] else [44]) ++ (if false = true then quoteL ((v.keys[j]?).getD ⟨#[]⟩).data.toList ++ [58] else []) := rfl
              have HHd := Lib.hid (show headQ false v.keys j = [44] ++ [] by rw [HHd0]; rw [if_neg (by omega)]; rfl)
              clear HHd0
              go_wp2_with (at_builtin; have hh := HOX.out.alloc (.cells #[.int .u8 44] 5); have k1 : (mk + 1) * 1 ≤ 140737488355328 := (by omega); have k2 : mk + 1 ≤ maxLen := (by unfold maxLen; omega); have k3 : w0.heap.size ≤ (World.alloc (wr.alloc (.cells #[.int .i64 x.kind, .bool x.flag, .int .i64 x.num, .string x.text, .slice A3 x.items.length c3', .slice A4 x.keys.length c4'] 35)) (.cells #[.int .u8 44] 5)).heap.size := (by have := HBX.out.size; rw [World.size_alloc]; omega); have k4 := cell_new (wr.alloc (.cells #[.int .i64 x.kind, .bool x.flag, .int .i64 x.num, .string x.text, .slice A3 x.items.length c3', .slice A4 x.keys.length c4'] 35)) [.int .u8 44] 5 (wr.heap.size + 1) (by simp); refine wpList_app _ rfl (.tmp 72) (.tmp 73) 71 rfl w0.heap.size 5 (.int .u8 0) 1 Tryd.underlying71 info_byteQ rfl (.slice Ao mk co) (mk) _ rfl hh [.int .u8 44] 1 rfl (by omega) _ (by first | rfl | simp) k4 (by intro u hu; simp at hu; subst hu; rfl) k1 k2 k3 ?_; clear hh k1 k2 k3 k4; intro g3 c3 w3 own3 hg3 hgg3 hb3; have HBc := Lib.hid ((HBb.out.alloc (.cells #[.int .u8 44] 5)).keepT (KeepsT.grown (HOX.out.alloc (.cells #[.int .u8 44] 5)) hg3)); have HXc := Lib.hid ((HXb.out.alloc (.cells #[.int .u8 44] 5)).keepT (KeepsT.grown (HOX.out.alloc (.cells #[.int .u8 44] 5)) hg3)); have bc03 : w3.cell? ⟨nb, 0, none⟩ = some (.int .i64 v.kind) := HBc.out.c 0; have bc53 : w3.cell? ⟨nb, 5, none⟩ = some (.slice Ak v.keys.length ck) := HBc.out.c 5; have bsh3 := HBc.out.sh; have hnw3 : nb < w3.heap.size := HBc.out.lt; have xc0 : w3.cell? ⟨wr.heap.size, 0, none⟩ = some (.int .i64 x.kind) := HXc.out.c 0; have xc1 : w3.cell? ⟨wr.heap.size, 1, none⟩ = some (.bool x.flag) := HXc.out.c 1; have xc2 : w3.cell? ⟨wr.heap.size, 2, none⟩ = some (.int .i64 x.num) := HXc.out.c 2; have xc3 : w3.cell? ⟨wr.heap.size, 3, none⟩ = some (.string x.text) := HXc.out.c 3; have xc4 : w3.cell? ⟨wr.heap.size, 4, none⟩ = some (.slice A3 x.items.length c3') := HXc.out.c 4; have xc5 : w3.cell? ⟨wr.heap.size, 5, none⟩ = some (.slice A4 x.keys.length c4') := HXc.out.c 5; have xsh := HXc.out.sh; have hnx : wr.heap.size < w3.heap.size := HXc.out.lt)
              have HO3 := Lib.hid (ownM_more (cs := [44]) own3 (by simp [byteCells]))
              have HB3 := Lib.hid ((HBX.out.alloc HBX.out.size (.cells #[.int .u8 44] 5)).trans hb3)
              have HK3 := Lib.hid ((HKX.out.trans (KeepsT.alloc _ (.cells #[.int .u8 44] 5))).trans (KeepsT.grown (HOX.out.alloc (.cells #[.int .u8 44] 5)) hg3))
              clear own3 hg3 hgg3 hb3 HOX HBX HKX
              have HOX := HO3
              have HBX := HB3
              have HKX := HK3
              clear HO3 HB3 HK3
              obtain ⟨q, hq⟩ : ∃ q, ownQ (d + 1) x = q := ⟨_, rfl⟩
              have hcall := HIH.out x _ _ ((some ⟨g3, 0, none⟩)) ((mk + 1)) c3 (d + 1) _ HSz.out HVx.out HBX.out HOX.out (by omega) hd1
              rw [hq] at hcall hol
              have HPs2 := Lib.hid HPs.out
              have HPb2 := Lib.hid HPb.out
              rw [hq] at HPs2 HPb2
              clear hq HPs HPb
              refine hcall.mono ?_
              clear hcall
              rintro e w8 ⟨A8, m8, c8, rfl, hb8, hk8, ho8⟩
              have HB8 := Lib.hid hb8
              have HK8 := Lib.hid (HKX.out.trans hk8)
              have HO8 := Lib.hid ho8
              clear hb8 hk8 ho8 HOX HBX HKX
              obtain ⟨q1, q2⟩ := q
              by_cases hz8 : q1 = 0
              · subst hz8
                have HO9 := Lib.hid (HO8.out rfl)
                have hm8 := ownM_len HO9.out
                rw [List.length_append] at hm8
                have HP9 := Lib.hid (HPs2.out rfl)
                have hhl : (headQ false v.keys j).length = (([44] : List UInt8) ++ []).length := by rw [HHd.out]
                simp only [List.length_append, List.length_cons, List.length_nil] at hm8 hml0 hhl
                have hol2 : q2.length + 4 ≤ 160 * valW x := hol
                clear hol HO8 HPs2 HPb2
                go_wp2_with fail
                go_roundw
                case rel =>
                  refine ⟨j + 1, m8, A8, c8, acc ++ headQ false v.keys j ++ q2, by omega, by go_num, rfl, (show OwnM _ _ _ _ _ from ?_), HP9.out, HB8.out, HK8.out, by omega⟩
                  have h9 := HO9.out
                  have e9 : bs ++ [91] ++ (acc ++ headQ false v.keys j ++ q2) = bs ++ [91] ++ acc ++ [44] ++ q2 := by rw [HHd.out]; simp only [List.append_assoc, List.nil_append, List.cons_append]
                  rw [e9]
                  exact h9
                case measure => simp [intOf]; omega
              · have tq : (q1 != 0) = true := by simp [hz8]
                have HE9 := Lib.hid (show (ownQ d v).1 = q1 by rw [HQ.out]; exact HPb2.out hz8)
                have HZ8 := Lib.hid hz8
                clear hz8 HPs2 HPb2 HO8 hol
                go_wp2_with fail
                go_ret2
                refine ⟨A8, m8, c8, by rw [HE9.out]; rfl, HB8.out, HK2.out.trans HK8.out, fun h => absurd (HE9.out.symm.trans h) HZ8.out⟩
            · have HHd0 : headQ false v.keys j = (if j = 0 then [] else [44]) ++ (if false = true then quoteL ((v.keys[j]?).getD ⟨#[]⟩).data.toList ++ [58] else []) := rfl
              have HHd := Lib.hid (show headQ false v.keys j = [] ++ [] by rw [HHd0]; rw [if_pos (by omega)]; rfl)
              clear HHd0
              go_wp2_with fail
              obtain ⟨q, hq⟩ : ∃ q, ownQ (d + 1) x = q := ⟨_, rfl⟩
              have hcall := HIH.out x _ _ (Ao) (mk) co (d + 1) _ HSz.out HVx.out HBX.out HOX.out (by omega) hd1
              rw [hq] at hcall hol
              have HPs2 := Lib.hid HPs.out
              have HPb2 := Lib.hid HPb.out
              rw [hq] at HPs2 HPb2
              clear hq HPs HPb
              refine hcall.mono ?_
              clear hcall
              rintro e w8 ⟨A8, m8, c8, rfl, hb8, hk8, ho8⟩
              have HB8 := Lib.hid hb8
              have HK8 := Lib.hid (HKX.out.trans hk8)
              have HO8 := Lib.hid ho8
              clear hb8 hk8 ho8 HOX HBX HKX
              obtain ⟨q1, q2⟩ := q
              by_cases hz8 : q1 = 0
              · subst hz8
                have HO9 := Lib.hid (HO8.out rfl)
                have hm8 := ownM_len HO9.out
                rw [List.length_append] at hm8
                have HP9 := Lib.hid (HPs2.out rfl)
                have hhl : (headQ false v.keys j).length = (([] : List UInt8) ++ []).length := by rw [HHd.out]
                simp only [List.length_append, List.length_cons, List.length_nil] at hm8 hml0 hhl
                have hol2 : q2.length + 4 ≤ 160 * valW x := hol
                clear hol HO8 HPs2 HPb2
                go_wp2_with fail
                go_roundw
                case rel =>
                  refine ⟨j + 1, m8, A8, c8, acc ++ headQ false v.keys j ++ q2, by omega, by go_num, rfl, (show OwnM _ _ _ _ _ from ?_), HP9.out, HB8.out, HK8.out, by omega⟩
                  have h9 := HO9.out
                  have e9 : bs ++ [91] ++ (acc ++ headQ false v.keys j ++ q2) = bs ++ [91] ++ acc ++ q2 := by rw [HHd.out]; simp only [List.append_assoc, List.nil_append, List.cons_append]
                  rw [e9]
                  exact h9
                case measure => simp [intOf]; omega
              · have tq : (q1 != 0) = true := by simp [hz8]
                have HE9 := Lib.hid (show (ownQ d v).1 = q1 by rw [HQ.out]; exact HPb2.out hz8)
                have HZ8 := Lib.hid hz8
                clear hz8 HPs2 HPb2 HO8 hol
                go_wp2_with fail
                go_ret2
                refine ⟨A8, m8, c8, by rw [HE9.out]; rfl, HB8.out, HK2.out.trans HK8.out, fun h => absurd (HE9.out.symm.trans h) HZ8.out⟩
          · have hfin := hpr.out.fin (by omega)
            have HR := Lib.hid (show ownQ d v = (0, 91 :: (acc ++ [93])) by rw [HQ.out, hfin])
            clear hfin hpr
            go_wp2_with (at_builtin; have hh := HOX.out.alloc (.cells #[.int .u8 93] 5); have k1 : (mk + 1) * 1 ≤ 140737488355328 := (by omega); have k2 : mk + 1 ≤ maxLen := (by unfold maxLen; omega); have k3 : w0.heap.size ≤ (World.alloc wr (.cells #[.int .u8 93] 5)).heap.size := (by have := HBX.out.size; rw [World.size_alloc]; omega); have k4 := cell_new wr [.int .u8 93] 5 (World.heap wr).size rfl; refine wpList_app _ rfl (.tmp 106) (.tmp 109) 71 rfl w0.heap.size 5 (.int .u8 0) 1 Tryd.underlying71 info_byteQ rfl (.slice Ao mk co) (mk) _ rfl hh [.int .u8 93] 1 rfl (by omega) _ (by first | rfl | simp) k4 (by intro u hu; simp at hu; subst hu; rfl) k1 k2 k3 ?_; clear hh k1 k2 k3 k4; intro g9 c9 w9 own9 hg9 hgg9 hb9)
            have HO9 := Lib.hid (ownM_more (cs := [93]) own9 (by simp [byteCells]))
            have HB9 := Lib.hid ((HBX.out.alloc HBX.out.size (.cells #[.int .u8 93] 5)).trans hb9)
            have HK9 := Lib.hid ((HKX.out.trans (KeepsT.alloc _ (.cells #[.int .u8 93] 5))).trans (KeepsT.grown (HOX.out.alloc (.cells #[.int .u8 93] 5)) hg9))
            clear own9 hg9 hgg9 hb9 HOX HBX HKX
            have HOX := HO9
            have HBX := HB9
            have HKX := HK9
            clear HO9 HB9 HK9
            go_ret2
            rw [HR.out]
            refine ⟨_, _, _, rfl, HBX.out, HK2.out.trans HKX.out, fun _ => ?_⟩
            have e9 : bs ++ (91 :: (acc ++ [93])) = bs ++ [91] ++ acc ++ [93] := by simp
            rw [e9]
            exact HOX.out
    · have hval : valW v = v.text.size + valsW v.items + strsW v.keys + 1 := rfl
      have t0 : (v.kind == 0) = false := by simp; omega
      have t1 : (v.kind == 1) = false := by simp; omega
      have t2 : (v.kind == 2) = false := by simp; omega
      have t3 : (v.kind == 3) = false := by simp; omega
      have t7 : (v.kind == 7) = false := by simp; omega
      have t4 : (v.kind == 4) = false := by simp; omega
      have t5 : (v.kind == 5) = false := by simp; omega
      have t6 : (v.kind == 6) = true := by simp; omega
      by_cases hd12 : d = 12
      · have t12 : ((d : Int) == 12) = true := by simp; omega
        have HQ := Lib.hid (show ownQ d v = (13, []) by rw [ownQ_eq, if_pos (by omega), if_pos hd12])
        clear hx hd12
        go_enter Tryd.func43, Tryd.ntmps43
        go_wp2_with fail
        go_ret2
        rw [HQ.out]
        exact ⟨_, _, _, rfl, HBX.out, HKX.out, fun h => absurd h (by decide)⟩
      · have t12 : ((d : Int) == 12) = false := by simp; omega
        have hd1 : d + 1 ≤ 12 := by omega
        have HQ := Lib.hid (show ownQ d v = ((partsQ (d + 1) true v.keys 0 v.items).1, 123 :: ((partsQ (d + 1) true v.keys 0 v.items).2 ++ [125])) by rw [ownQ_eq, if_pos (by omega), if_neg hd12, hx]; rfl)
        have dd : IntKind.i64.wrap ((d : Int) + 1) = (d : Int) + 1 := by rw [IntKind.wrap_i64]; omega
        clear hx hd12
        go_enter Tryd.func43, Tryd.ntmps43
        go_wp2_with (at_builtin; have hh := HOX.out.alloc (.cells #[.int .u8 123] 5); have k1 : (m + 1) * 1 ≤ 140737488355328 := (by omega); have k2 : m + 1 ≤ maxLen := (by unfold maxLen; omega); have k3 : w0.heap.size ≤ (World.alloc (w.alloc (.cells #[.int .i64 v.kind, .bool v.flag, .int .i64 v.num, .string v.text, .slice Ai v.items.length ci, .slice Ak v.keys.length ck] 35)) (.cells #[.int .u8 123] 5)).heap.size := (by have := HBX.out.size; rw [World.size_alloc]; omega); have k4 := cell_new (w.alloc (.cells #[.int .i64 v.kind, .bool v.flag, .int .i64 v.num, .string v.text, .slice Ai v.items.length ci, .slice Ak v.keys.length ck] 35)) [.int .u8 123] 5 (w.heap.size + 1) (by simp); refine wpList_app _ rfl (.tmp 57) (.tmp 60) 71 rfl w0.heap.size 5 (.int .u8 0) 1 Tryd.underlying71 info_byteQ rfl (.slice A m cp) (m) _ rfl hh [.int .u8 123] 1 rfl (by omega) _ (by first | rfl | simp) k4 (by intro u hu; simp at hu; subst hu; rfl) k1 k2 k3 ?_; clear hh k1 k2 k3 k4; intro g2 c2 w2 own2 hg2 hgg2 hb2; have HBx := Lib.hid ((HBox.out.alloc (.cells #[.int .u8 123] 5)).keepT (KeepsT.grown (HOX.out.alloc (.cells #[.int .u8 123] 5)) hg2)); have bc4 : w2.cell? ⟨w.heap.size, 4, none⟩ = some (.slice Ai v.items.length ci) := HBx.out.c 4; have bsh := HBx.out.sh; have hnw : w.heap.size < w2.heap.size := HBx.out.lt)
        have HO2 := Lib.hid (ownM_more (cs := [123]) own2 (by simp [byteCells]))
        have HB2 := Lib.hid ((HBX.out.alloc HBX.out.size (.cells #[.int .u8 123] 5)).trans hb2)
        have HK2 := Lib.hid ((HKX.out.trans (KeepsT.alloc _ (.cells #[.int .u8 123] 5))).trans (KeepsT.grown (HOX.out.alloc (.cells #[.int .u8 123] 5)) hg2))
        clear own2 hg2 hgg2 hb2 HOX HBX HKX
        have HOX := HO2
        have HBX := HB2
        have HKX := HK2
        clear HO2 HB2 HK2
        clear bc4 bsh hnw
        obtain ⟨nb, hnb⟩ : ∃ nb, w.heap.size = nb := ⟨_, rfl⟩
        rw [hnb] at HBx
        rw [hnb]
        have HNb := Lib.hid hnb
        clear hnb
        go_loopw [0, 65] (fun t0 t wr => ∃ (j mk : Nat) (Ao : Option Addr) (co : Nat) (acc : List UInt8), j ≤ v.items.length ∧ t = .int .i64 j ∧ t0 = .slice Ao mk co ∧ Hid (OwnM w0.heap.size wr (.slice Ao mk co) mk (bs ++ [123] ++ acc)) ∧ Hid (PRel (d + 1) true v.keys v.items j acc) ∧ Hid (Below w0.heap.size w0 wr) ∧ Hid (KeepsT w2 wr) ∧ mk + 160 * valsW (v.items.drop j) + 8 * strsW (v.keys.drop j) + 1 ≤ 1073741824) (fun _ t _ => v.items.length - (intOf t).toNat)
        case atStart => exact ⟨0, m + 1, _, _, [], Nat.zero_le _, rfl, rfl, (show OwnM _ _ _ _ _ by rw [List.append_nil]; exact HOX.out), PRel.start _ _ _ _, HBX.out, KeepsT.refl _, by rw [List.drop_zero, List.drop_zero]; omega⟩
        case round =>
          have HK2 := HKX
          clear HOX HBX HKX
          obtain ⟨j, mk, Ao, co, acc, hj, rfl, rfl, HOX, hpr, HBX, HKX, hmk⟩ := hrel
          have HBw := Lib.hid (HBx.out.keepT HKX.out)
          by_cases hlt : j < v.items.length
          · have hA' := (hAi (by intro e; rw [e] at hlt; simp at hlt)).1
            subst hA'
            obtain ⟨x, hx⟩ : ∃ x, v.items[j]? = some x := ⟨_, List.getElem?_eq_getElem hlt⟩
            obtain ⟨⟨c0, c1, c2, c3, c4, c5⟩, okx⟩ := HCell.out j x hx
            have hix := HIt.out j x hx
            have hkx := HKy.out j x hx
            obtain ⟨A3, c3', _, _, _, _, e3, _, _, _, _, _, _⟩ := hix.inv
            obtain ⟨A4, c4', _, _, e4, _, _, _, _⟩ := hkx.inv
            rw [e3] at c4 hix
            rw [e4] at c5 hkx
            have hml0 := ownM_len HOX.out
            have hvp : 1 ≤ valW x := by unfold valW; omega
            have HVx := Lib.hid (show ValIn w0 AnyB (.agg #[.int .i64 x.kind, .bool x.flag, .int .i64 x.num, .string x.text, .slice A3 x.items.length c3', .slice A4 x.keys.length c4']) x from ⟨_, _, rfl, okx, hix, hkx⟩)
            have p0 := Keeps.of_below HBX.out _ _ c0
            have p1 := Keeps.of_below HBX.out _ _ c1
            have p2 := Keeps.of_below HBX.out _ _ c2
            have p3 := Keeps.of_below HBX.out _ _ c3
            have p4 := Keeps.of_below HBX.out _ _ c4
            have p5 := Keeps.of_below HBX.out _ _ c5
            clear c0 c1 c2 c3 c4 c5 e3 e4 hix hkx okx
            have bb := World.block_lt_of_cell? _ _ p0
            simp only at bb
            have HSz := Lib.hid (val_at HN.out hx)
            have hvd := valsW_drop hx
            have hho := headQ_len true v.keys j
            have hol := ownQ_len (d := d + 1) (NumsOk.at_ HNums.out hx)
            have HPs := Lib.hid (fun h0 => hpr.out.step hx h0)
            have HPb := Lib.hid (fun h0 => hpr.out.bad hx h0)
            have HXb := Lib.hid (show CB (wr.alloc (.cells #[.int .i64 x.kind, .bool x.flag, .int .i64 x.num, .string x.text, .slice A3 x.items.length c3', .slice A4 x.keys.length c4'] 35)) wr.heap.size 35 #[.int .i64 x.kind, .bool x.flag, .int .i64 x.num, .string x.text, .slice A3 x.items.length c3', .slice A4 x.keys.length c4'] from CB.new wr _ _)
            have HBb := Lib.hid (show CB (wr.alloc (.cells #[.int .i64 x.kind, .bool x.flag, .int .i64 x.num, .string x.text, .slice A3 x.items.length c3', .slice A4 x.keys.length c4'] 35)) nb 35 _ from HBw.out.alloc _)
            have HOY := Lib.hid (show OwnM w0.heap.size (wr.alloc (.cells #[.int .i64 x.kind, .bool x.flag, .int .i64 x.num, .string x.text, .slice A3 x.items.length c3', .slice A4 x.keys.length c4'] 35)) (.slice Ao mk co) mk (bs ++ [123] ++ acc) from own_alloc HOX.out _)
            have HBY := Lib.hid (show Below w0.heap.size w0 (wr.alloc (.cells #[.int .i64 x.kind, .bool x.flag, .int .i64 x.num, .string x.text, .slice A3 x.items.length c3', .slice A4 x.keys.length c4'] 35)) from HBX.out.alloc HBX.out.size _)
            have HKY := Lib.hid (show KeepsT w2 (wr.alloc (.cells #[.int .i64 x.kind, .bool x.flag, .int .i64 x.num, .string x.text, .slice A3 x.items.length c3', .slice A4 x.keys.length c4'] 35)) from HKX.out.trans (KeepsT.alloc _ _))
            have bc0 : wr.cell? ⟨nb, 0, none⟩ = some (.int .i64 v.kind) := HBw.out.c 0
            have bc5 : wr.cell? ⟨nb, 5, none⟩ = some (.slice Ak v.keys.length ck) := HBw.out.c 5
            have bsh := HBw.out.sh
            have hnw : nb < wr.heap.size := HBw.out.lt
            have HBXo := HBX
            clear HOX HBX HKX HBw hx hpr
            have HOX := HOY
            have HBX := HBY
            have HKX := HKY
            clear HOY HBY HKY
            have HBXw := Lib.hid (show Below w0.heap.size w0 wr from HBXo.out)
            by_cases hjp : 0 < j
            · have HHd0 : headQ true v.keys j = (if j = 0 then [] else [44]) ++ (if true = true then quoteL ((v.keys[j]?).getD ⟨#[]⟩).data.toList ++ [58] else []) := rfl
              by_cases hkj : j < v.keys.length
              · have hAk2 := hAk (by intro e; rw [e] at hkj; simp at hkj)
                subst hAk2
                obtain ⟨ky, hky⟩ : ∃ s, v.keys[j]? = some s := ⟨_, List.getElem?_eq_getElem hkj⟩
                obtain ⟨kc0, _⟩ := HKc.out j ky hky
                have HKC := Lib.hid kc0
                have hks : strsW (v.keys.drop j) = ky.size + 1 + strsW (v.keys.drop (j + 1)) := strsW_drop hky
                have HHd := Lib.hid (show headQ true v.keys j = [44] ++ (quoteL ky.data.toList ++ [58]) by rw [HHd0, hky]; rw [if_neg (by omega)]; rfl)
                clear hky kc0 HHd0
                go_wp2_with (at_builtin; have hh := HOX.out.alloc (.cells #[.int .u8 44] 5); have k1 : (mk + 1) * 1 ≤ 140737488355328 := (by omega); have k2 : mk + 1 ≤ maxLen := (by unfold maxLen; omega); have k3 : w0.heap.size ≤ (World.alloc (wr.alloc (.cells #[.int .i64 x.kind, .bool x.flag, .int .i64 x.num, .string x.text, .slice A3 x.items.length c3', .slice A4 x.keys.length c4'] 35)) (.cells #[.int .u8 44] 5)).heap.size := (by have := HBX.out.size; rw [World.size_alloc]; omega); have k4 := cell_new (wr.alloc (.cells #[.int .i64 x.kind, .bool x.flag, .int .i64 x.num, .string x.text, .slice A3 x.items.length c3', .slice A4 x.keys.length c4'] 35)) [.int .u8 44] 5 (wr.heap.size + 1) (by simp); refine wpList_app _ rfl (.tmp 72) (.tmp 73) 71 rfl w0.heap.size 5 (.int .u8 0) 1 Tryd.underlying71 info_byteQ rfl (.slice Ao mk co) (mk) _ rfl hh [.int .u8 44] 1 rfl (by omega) _ (by first | rfl | simp) k4 (by intro u hu; simp at hu; subst hu; rfl) k1 k2 k3 ?_; clear hh k1 k2 k3 k4; intro g3 c3 w3 own3 hg3 hgg3 hb3; have HBc := Lib.hid ((HBb.out.alloc (.cells #[.int .u8 44] 5)).keepT (KeepsT.grown (HOX.out.alloc (.cells #[.int .u8 44] 5)) hg3)); have HXc := Lib.hid ((HXb.out.alloc (.cells #[.int .u8 44] 5)).keepT (KeepsT.grown (HOX.out.alloc (.cells #[.int .u8 44] 5)) hg3)); have bc03 : w3.cell? ⟨nb, 0, none⟩ = some (.int .i64 v.kind) := HBc.out.c 0; have bc53 : w3.cell? ⟨nb, 5, none⟩ = some (.slice (some ⟨bk, ok, none⟩) v.keys.length ck) := HBc.out.c 5; have bsh3 := HBc.out.sh; have hnw3 : nb < w3.heap.size := HBc.out.lt; have kc := Keeps.of_below ((HBX.out.alloc HBX.out.size (.cells #[.int .u8 44] 5)).trans hb3) _ _ HKC.out)
                have HO3 := Lib.hid (ownM_more (cs := [44]) own3 (by simp [byteCells]))
                have HB3 := Lib.hid ((HBX.out.alloc HBX.out.size (.cells #[.int .u8 44] 5)).trans hb3)
                have HK3 := Lib.hid ((HKX.out.trans (KeepsT.alloc _ (.cells #[.int .u8 44] 5))).trans (KeepsT.grown (HOX.out.alloc (.cells #[.int .u8 44] 5)) hg3))
                clear own3 hg3 hgg3 hb3 HOX HBX HKX
                have HOX := HO3
                have HBX := HB3
                have HKX := HK3
                clear HO3 HB3 HK3
                clear HBb HXb
                have HBb := HBc
                have HXb := HXc
                clear HBc HXc
                refine (quoteText_q w0 _ (some ⟨g3, 0, none⟩) (mk + 1) c3 ky _ HBX.out HOX.out (by skip; omega)).mono ?_
                rintro e w4 ⟨A4q, m4, c4q, rfl, own4, hb4, hk4⟩
                have HBc := Lib.hid (HBb.out.keepT hk4)
                have HXc := Lib.hid (HXb.out.keepT hk4)
                have HO4 := Lib.hid own4
                have HB4 := Lib.hid hb4
                have HK4 := Lib.hid (HKX.out.trans hk4)
                have hm4 := ownM_len HO4.out
                simp only [List.length_append, List.length_cons, List.length_nil] at hm4 hml0
                have hql := quoteL_len ky.data.toList
                rw [size_toList] at hql
                clear own4 hb4 hk4 HOX HBX HKX
                clear HBb HXb
                have HBb := HBc
                have HXb := HXc
                clear HBc HXc
                have HOX := HO4
                have HBX := HB4
                have HKX := HK4
                clear HO4 HB4 HK4
                go_wp2_with (at_builtin; have hh := HOX.out.alloc (.cells #[.int .u8 58] 5); have k1 : (m4 + 1) * 1 ≤ 140737488355328 := (by omega); have k2 : m4 + 1 ≤ maxLen := (by unfold maxLen; omega); have k3 : w0.heap.size ≤ (World.alloc w4 (.cells #[.int .u8 58] 5)).heap.size := (by have := HBX.out.size; rw [World.size_alloc]; omega); have k4 := cell_new w4 [.int .u8 58] 5 (World.heap w4).size rfl; refine wpList_app _ rfl (.tmp 90) (.tmp 91) 71 rfl w0.heap.size 5 (.int .u8 0) 1 Tryd.underlying71 info_byteQ rfl (.slice A4q m4 c4q) (m4) _ rfl hh [.int .u8 58] 1 rfl (by omega) _ (by first | rfl | simp) k4 (by intro u hu; simp at hu; subst hu; rfl) k1 k2 k3 ?_; clear hh k1 k2 k3 k4; intro g5 c5 w5 own5 hg5 hgg5 hb5; have HBc := Lib.hid ((HBb.out.alloc (.cells #[.int .u8 58] 5)).keepT (KeepsT.grown (HOX.out.alloc (.cells #[.int .u8 58] 5)) hg5)); have HXc := Lib.hid ((HXb.out.alloc (.cells #[.int .u8 58] 5)).keepT (KeepsT.grown (HOX.out.alloc (.cells #[.int .u8 58] 5)) hg5)); have xc0 : w5.cell? ⟨wr.heap.size, 0, none⟩ = some (.int .i64 x.kind) := HXc.out.c 0; have xc1 : w5.cell? ⟨wr.heap.size, 1, none⟩ = some (.bool x.flag) := HXc.out.c 1; have xc2 : w5.cell? ⟨wr.heap.size, 2, none⟩ = some (.int .i64 x.num) := HXc.out.c 2; have xc3 : w5.cell? ⟨wr.heap.size, 3, none⟩ = some (.string x.text) := HXc.out.c 3; have xc4 : w5.cell? ⟨wr.heap.size, 4, none⟩ = some (.slice A3 x.items.length c3') := HXc.out.c 4; have xc5 : w5.cell? ⟨wr.heap.size, 5, none⟩ = some (.slice A4 x.keys.length c4') := HXc.out.c 5; have xsh := HXc.out.sh; have hnx : wr.heap.size < w5.heap.size := HXc.out.lt)
                have HO5 := Lib.hid (ownM_more (cs := [58]) own5 (by simp [byteCells]))
                have HB5 := Lib.hid ((HBX.out.alloc HBX.out.size (.cells #[.int .u8 58] 5)).trans hb5)
                have HK5 := Lib.hid ((HKX.out.trans (KeepsT.alloc _ (.cells #[.int .u8 58] 5))).trans (KeepsT.grown (HOX.out.alloc (.cells #[.int .u8 58] 5)) hg5))
                clear own5 hg5 hgg5 hb5 HOX HBX HKX
                have HOX := HO5
                have HBX := HB5
                have HKX := HK5
                clear HO5 HB5 HK5
                obtain ⟨q, hq⟩ : ∃ q, ownQ (d + 1) x = q := ⟨_, rfl⟩
                have hcall := HIH.out x _ _ ((some ⟨g5, 0, none⟩)) ((m4 + 1)) c5 (d + 1) _ HSz.out HVx.out HBX.out HOX.out (by omega) hd1
                rw [hq] at hcall hol
                have HPs2 := Lib.hid HPs.out
                have HPb2 := Lib.hid HPb.out
                rw [hq] at HPs2 HPb2
                clear hq HPs HPb
                refine hcall.mono ?_
                clear hcall
                rintro e w8 ⟨A8, m8, c8, rfl, hb8, hk8, ho8⟩
                have HB8 := Lib.hid hb8
                have HK8 := Lib.hid (HKX.out.trans hk8)
                have HO8 := Lib.hid ho8
                clear hb8 hk8 ho8 HOX HBX HKX
                obtain ⟨q1, q2⟩ := q
                by_cases hz8 : q1 = 0
                · subst hz8
                  have HO9 := Lib.hid (HO8.out rfl)
                  have hm8 := ownM_len HO9.out
                  rw [List.length_append] at hm8
                  have HP9 := Lib.hid (HPs2.out rfl)
                  have hhl : (headQ true v.keys j).length = (([44] : List UInt8) ++ (quoteL ky.data.toList ++ [58])).length := by rw [HHd.out]
                  simp only [List.length_append, List.length_cons, List.length_nil] at hm8 hml0 hhl
                  have hol2 : q2.length + 4 ≤ 160 * valW x := hol
                  clear hol HO8 HPs2 HPb2
                  go_wp2_with fail
                  go_roundw
                  case rel =>
                    refine ⟨j + 1, m8, A8, c8, acc ++ headQ true v.keys j ++ q2, by omega, by go_num, rfl, (show OwnM _ _ _ _ _ from ?_), HP9.out, HB8.out, HK8.out, by omega⟩
                    have h9 := HO9.out
                    have e9 : bs ++ [123] ++ (acc ++ headQ true v.keys j ++ q2) = bs ++ [123] ++ acc ++ [44] ++ quoteL ky.data.toList ++ [58] ++ q2 := by rw [HHd.out]; simp only [List.append_assoc, List.nil_append, List.cons_append]
                    rw [e9]
                    exact h9
                  case measure => simp [intOf]; omega
                · have tq : (q1 != 0) = true := by simp [hz8]
                  have HE9 := Lib.hid (show (ownQ d v).1 = q1 by rw [HQ.out]; exact HPb2.out hz8)
                  have HZ8 := Lib.hid hz8
                  clear hz8 HPs2 HPb2 HO8 hol
                  go_wp2_with fail
                  go_ret2
                  refine ⟨A8, m8, c8, by rw [HE9.out]; rfl, HB8.out, HK2.out.trans HK8.out, fun h => absurd (HE9.out.symm.trans h) HZ8.out⟩
              · have hky : v.keys[j]? = none := List.getElem?_eq_none (by omega)
                have HHd := Lib.hid (show headQ true v.keys j = [44] ++ (quoteL (⟨#[]⟩ : ByteArray).data.toList ++ [58]) by rw [HHd0, hky]; rw [if_neg (by omega)]; rfl)
                have hks : (0 : Nat) + 1 ≤ 1 := Nat.le_refl _
                clear hky HHd0
                go_wp2_with (at_builtin; have hh := HOX.out.alloc (.cells #[.int .u8 44] 5); have k1 : (mk + 1) * 1 ≤ 140737488355328 := (by omega); have k2 : mk + 1 ≤ maxLen := (by unfold maxLen; omega); have k3 : w0.heap.size ≤ (World.alloc (wr.alloc (.cells #[.int .i64 x.kind, .bool x.flag, .int .i64 x.num, .string x.text, .slice A3 x.items.length c3', .slice A4 x.keys.length c4'] 35)) (.cells #[.int .u8 44] 5)).heap.size := (by have := HBX.out.size; rw [World.size_alloc]; omega); have k4 := cell_new (wr.alloc (.cells #[.int .i64 x.kind, .bool x.flag, .int .i64 x.num, .string x.text, .slice A3 x.items.length c3', .slice A4 x.keys.length c4'] 35)) [.int .u8 44] 5 (wr.heap.size + 1) (by simp); refine wpList_app _ rfl (.tmp 72) (.tmp 73) 71 rfl w0.heap.size 5 (.int .u8 0) 1 Tryd.underlying71 info_byteQ rfl (.slice Ao mk co) (mk) _ rfl hh [.int .u8 44] 1 rfl (by omega) _ (by first | rfl | simp) k4 (by intro u hu; simp at hu; subst hu; rfl) k1 k2 k3 ?_; clear hh k1 k2 k3 k4; intro g3 c3 w3 own3 hg3 hgg3 hb3; have HBc := Lib.hid ((HBb.out.alloc (.cells #[.int .u8 44] 5)).keepT (KeepsT.grown (HOX.out.alloc (.cells #[.int .u8 44] 5)) hg3)); have HXc := Lib.hid ((HXb.out.alloc (.cells #[.int .u8 44] 5)).keepT (KeepsT.grown (HOX.out.alloc (.cells #[.int .u8 44] 5)) hg3)); have bc03 : w3.cell? ⟨nb, 0, none⟩ = some (.int .i64 v.kind) := HBc.out.c 0; have bc53 : w3.cell? ⟨nb, 5, none⟩ = some (.slice Ak v.keys.length ck) := HBc.out.c 5; have bsh3 := HBc.out.sh; have hnw3 : nb < w3.heap.size := HBc.out.lt)
                have HO3 := Lib.hid (ownM_more (cs := [44]) own3 (by simp [byteCells]))
                have HB3 := Lib.hid ((HBX.out.alloc HBX.out.size (.cells #[.int .u8 44] 5)).trans hb3)
                have HK3 := Lib.hid ((HKX.out.trans (KeepsT.alloc _ (.cells #[.int .u8 44] 5))).trans (KeepsT.grown (HOX.out.alloc (.cells #[.int .u8 44] 5)) hg3))
                clear own3 hg3 hgg3 hb3 HOX HBX HKX
                have HOX := HO3
                have HBX := HB3
                have HKX := HK3
                clear HO3 HB3 HK3
                clear HBb HXb
                have HBb := HBc
                have HXb := HXc
                clear HBc HXc
                refine (quoteText_q w0 _ (some ⟨g3, 0, none⟩) (mk + 1) c3 (⟨#[]⟩ : ByteArray) _ HBX.out HOX.out (by show _ + 6 * 0 + 2 ≤ _; omega)).mono ?_
                rintro e w4 ⟨A4q, m4, c4q, rfl, own4, hb4, hk4⟩
                have HBc := Lib.hid (HBb.out.keepT hk4)
                have HXc := Lib.hid (HXb.out.keepT hk4)
                have HO4 := Lib.hid own4
                have HB4 := Lib.hid hb4
                have HK4 := Lib.hid (HKX.out.trans hk4)
                have hm4 := ownM_len HO4.out
                simp only [List.length_append, List.length_cons, List.length_nil] at hm4 hml0
                have hql := quoteL_len (⟨#[]⟩ : ByteArray).data.toList
                have hql0 : (⟨#[]⟩ : ByteArray).data.toList.length = 0 := rfl
                rw [hql0] at hql
                clear own4 hb4 hk4 HOX HBX HKX
                clear HBb HXb
                have HBb := HBc
                have HXb := HXc
                clear HBc HXc
                have HOX := HO4
                have HBX := HB4
                have HKX := HK4
                clear HO4 HB4 HK4
                go_wp2_with (at_builtin; have hh := HOX.out.alloc (.cells #[.int .u8 58] 5); have k1 : (m4 + 1) * 1 ≤ 140737488355328 := (by omega); have k2 : m4 + 1 ≤ maxLen := (by unfold maxLen; omega); have k3 : w0.heap.size ≤ (World.alloc w4 (.cells #[.int .u8 58] 5)).heap.size := (by have := HBX.out.size; rw [World.size_alloc]; omega); have k4 := cell_new w4 [.int .u8 58] 5 (World.heap w4).size rfl; refine wpList_app _ rfl (.tmp 90) (.tmp 91) 71 rfl w0.heap.size 5 (.int .u8 0) 1 Tryd.underlying71 info_byteQ rfl (.slice A4q m4 c4q) (m4) _ rfl hh [.int .u8 58] 1 rfl (by omega) _ (by first | rfl | simp) k4 (by intro u hu; simp at hu; subst hu; rfl) k1 k2 k3 ?_; clear hh k1 k2 k3 k4; intro g5 c5 w5 own5 hg5 hgg5 hb5; have HBc := Lib.hid ((HBb.out.alloc (.cells #[.int .u8 58] 5)).keepT (KeepsT.grown (HOX.out.alloc (.cells #[.int .u8 58] 5)) hg5)); have HXc := Lib.hid ((HXb.out.alloc (.cells #[.int .u8 58] 5)).keepT (KeepsT.grown (HOX.out.alloc (.cells #[.int .u8 58] 5)) hg5)); have xc0 : w5.cell? ⟨wr.heap.size, 0, none⟩ = some (.int .i64 x.kind) := HXc.out.c 0; have xc1 : w5.cell? ⟨wr.heap.size, 1, none⟩ = some (.bool x.flag) := HXc.out.c 1; have xc2 : w5.cell? ⟨wr.heap.size, 2, none⟩ = some (.int .i64 x.num) := HXc.out.c 2; have xc3 : w5.cell? ⟨wr.heap.size, 3, none⟩ = some (.string x.text) := HXc.out.c 3; have xc4 : w5.cell? ⟨wr.heap.size, 4, none⟩ = some (.slice A3 x.items.length c3') := HXc.out.c 4; have xc5 : w5.cell? ⟨wr.heap.size, 5, none⟩ = some (.slice A4 x.keys.length c4') := HXc.out.c 5; have xsh := HXc.out.sh; have hnx : wr.heap.size < w5.heap.size := HXc.out.lt)
                have HO5 := Lib.hid (ownM_more (cs := [58]) own5 (by simp [byteCells]))
                have HB5 := Lib.hid ((HBX.out.alloc HBX.out.size (.cells #[.int .u8 58] 5)).trans hb5)
                have HK5 := Lib.hid ((HKX.out.trans (KeepsT.alloc _ (.cells #[.int .u8 58] 5))).trans (KeepsT.grown (HOX.out.alloc (.cells #[.int .u8 58] 5)) hg5))
                clear own5 hg5 hgg5 hb5 HOX HBX HKX
                have HOX := HO5
                have HBX := HB5
                have HKX := HK5
                clear HO5 HB5 HK5
                obtain ⟨q, hq⟩ : ∃ q, ownQ (d + 1) x = q := ⟨_, rfl⟩
                have hcall := HIH.out x _ _ ((some ⟨g5, 0, none⟩)) ((m4 + 1)) c5 (d + 1) _ HSz.out HVx.out HBX.out HOX.out (by omega) hd1
                rw [hq] at hcall hol
                have HPs2 := Lib.hid HPs.out
                have HPb2 := Lib.hid HPb.out
                rw [hq] at HPs2 HPb2
                clear hq HPs HPb
                refine hcall.mono ?_
                clear hcall
                rintro e w8 ⟨A8, m8, c8, rfl, hb8, hk8, ho8⟩
                have HB8 := Lib.hid hb8
                have HK8 := Lib.hid (HKX.out.trans hk8)
                have HO8 := Lib.hid ho8
                clear hb8 hk8 ho8 HOX HBX HKX
                obtain ⟨q1, q2⟩ := q
                by_cases hz8 : q1 = 0
                · subst hz8
                  have HO9 := Lib.hid (HO8.out rfl)
                  have hm8 := ownM_len HO9.out
                  rw [List.length_append] at hm8
                  have HP9 := Lib.hid (HPs2.out rfl)
                  have hhl : (headQ true v.keys j).length = (([44] : List UInt8) ++ (quoteL (⟨#[]⟩ : ByteArray).data.toList ++ [58])).length := by rw [HHd.out]
                  simp only [List.length_append, List.length_cons, List.length_nil] at hm8 hml0 hhl
                  have hol2 : q2.length + 4 ≤ 160 * valW x := hol
                  clear hol HO8 HPs2 HPb2
                  go_wp2_with fail
                  go_roundw
                  case rel =>
                    refine ⟨j + 1, m8, A8, c8, acc ++ headQ true v.keys j ++ q2, by omega, by go_num, rfl, (show OwnM _ _ _ _ _ from ?_), HP9.out, HB8.out, HK8.out, by omega⟩
                    have h9 := HO9.out
                    have e9 : bs ++ [123] ++ (acc ++ headQ true v.keys j ++ q2) = bs ++ [123] ++ acc ++ [44] ++ quoteL (⟨#[]⟩ : ByteArray).data.toList ++ [58] ++ q2 := by rw [HHd.out]; simp only [List.append_assoc, List.nil_append, List.cons_append]
                    rw [e9]
                    exact h9
                  case measure => simp [intOf]; omega
                · have tq : (q1 != 0) = true := by simp [hz8]
                  have HE9 := Lib.hid (show (ownQ d v).1 = q1 by rw [HQ.out]; exact HPb2.out hz8)
                  have HZ8 := Lib.hid hz8
                  clear hz8 HPs2 HPb2 HO8 hol
                  go_wp2_with fail
                  go_ret2
                  refine ⟨A8, m8, c8, by rw [HE9.out]; rfl, HB8.out, HK2.out.trans HK8.out, fun h => absurd (HE9.out.symm.trans h) HZ8.out⟩
            · have HHd0 : headQ true v.keys j = (if j = 0 then [] else [44]) ++ (if true = true then quoteL ((v.keys[j]?).getD ⟨#[]⟩).data.toList ++ [58] else []) := rfl
              by_cases hkj : j < v.keys.length
              · have hAk2 := hAk (by intro e; rw [e] at hkj; simp at hkj)
                subst hAk2
                obtain ⟨ky, hky⟩ : ∃ s, v.keys[j]? = some s := ⟨_, List.getElem?_eq_getElem hkj⟩
                obtain ⟨kc0, _⟩ := HKc.out j ky hky
                have HKC := Lib.hid kc0
                have hks : strsW (v.keys.drop j) = ky.size + 1 + strsW (v.keys.drop (j + 1)) := strsW_drop hky
                have HHd := Lib.hid (show headQ true v.keys j = [] ++ (quoteL ky.data.toList ++ [58]) by rw [HHd0, hky]; rw [if_pos (by omega)]; rfl)
                clear hky kc0 HHd0
                have kc := Keeps.of_below HBXw.out _ _ HKC.out
                have hkb := World.block_lt_of_cell? _ _ kc
                simp only at hkb
                go_wp2_with fail
                refine (quoteText_q w0 _ Ao mk co ky _ HBX.out HOX.out (by skip; omega)).mono ?_
                rintro e w4 ⟨A4q, m4, c4q, rfl, own4, hb4, hk4⟩
                have HBc := Lib.hid (HBb.out.keepT hk4)
                have HXc := Lib.hid (HXb.out.keepT hk4)
                have HO4 := Lib.hid own4
                have HB4 := Lib.hid hb4
                have HK4 := Lib.hid (HKX.out.trans hk4)
                have hm4 := ownM_len HO4.out
                simp only [List.length_append, List.length_cons, List.length_nil] at hm4 hml0
                have hql := quoteL_len ky.data.toList
                rw [size_toList] at hql
                clear own4 hb4 hk4 HOX HBX HKX
                clear HBb HXb
                have HBb := HBc
                have HXb := HXc
                clear HBc HXc
                have HOX := HO4
                have HBX := HB4
                have HKX := HK4
                clear HO4 HB4 HK4
                go_wp2_with (at_builtin; have hh := HOX.out.alloc (.cells #[.int .u8 58] 5); have k1 : (m4 + 1) * 1 ≤ 140737488355328 := (by omega); have k2 : m4 + 1 ≤ maxLen := (by unfold maxLen; omega); have k3 : w0.heap.size ≤ (World.alloc w4 (.cells #[.int .u8 58] 5)).heap.size := (by have := HBX.out.size; rw [World.size_alloc]; omega); have k4 := cell_new w4 [.int .u8 58] 5 (World.heap w4).size rfl; refine wpList_app _ rfl (.tmp 90) (.tmp 91) 71 rfl w0.heap.size 5 (.int .u8 0) 1 Tryd.underlying71 info_byteQ rfl (.slice A4q m4 c4q) (m4) _ rfl hh [.int .u8 58] 1 rfl (by omega) _ (by first | rfl | simp) k4 (by intro u hu; simp at hu; subst hu; rfl) k1 k2 k3 ?_; clear hh k1 k2 k3 k4; intro g5 c5 w5 own5 hg5 hgg5 hb5; have HBc := Lib.hid ((HBb.out.alloc (.cells #[.int .u8 58] 5)).keepT (KeepsT.grown (HOX.out.alloc (.cells #[.int .u8 58] 5)) hg5)); have HXc := Lib.hid ((HXb.out.alloc (.cells #[.int .u8 58] 5)).keepT (KeepsT.grown (HOX.out.alloc (.cells #[.int .u8 58] 5)) hg5)); have xc0 : w5.cell? ⟨wr.heap.size, 0, none⟩ = some (.int .i64 x.kind) := HXc.out.c 0; have xc1 : w5.cell? ⟨wr.heap.size, 1, none⟩ = some (.bool x.flag) := HXc.out.c 1; have xc2 : w5.cell? ⟨wr.heap.size, 2, none⟩ = some (.int .i64 x.num) := HXc.out.c 2; have xc3 : w5.cell? ⟨wr.heap.size, 3, none⟩ = some (.string x.text) := HXc.out.c 3; have xc4 : w5.cell? ⟨wr.heap.size, 4, none⟩ = some (.slice A3 x.items.length c3') := HXc.out.c 4; have xc5 : w5.cell? ⟨wr.heap.size, 5, none⟩ = some (.slice A4 x.keys.length c4') := HXc.out.c 5; have xsh := HXc.out.sh; have hnx : wr.heap.size < w5.heap.size := HXc.out.lt)
                have HO5 := Lib.hid (ownM_more (cs := [58]) own5 (by simp [byteCells]))
                have HB5 := Lib.hid ((HBX.out.alloc HBX.out.size (.cells #[.int .u8 58] 5)).trans hb5)
                have HK5 := Lib.hid ((HKX.out.trans (KeepsT.alloc _ (.cells #[.int .u8 58] 5))).trans (KeepsT.grown (HOX.out.alloc (.cells #[.int .u8 58] 5)) hg5))
                clear own5 hg5 hgg5 hb5 HOX HBX HKX
                have HOX := HO5
                have HBX := HB5
                have HKX := HK5
                clear HO5 HB5 HK5
                obtain ⟨q, hq⟩ : ∃ q, ownQ (d + 1) x = q := ⟨_, rfl⟩
                have hcall := HIH.out x _ _ ((some ⟨g5, 0, none⟩)) ((m4 + 1)) c5 (d + 1) _ HSz.out HVx.out HBX.out HOX.out (by omega) hd1
                rw [hq] at hcall hol
                have HPs2 := Lib.hid HPs.out
                have HPb2 := Lib.hid HPb.out
                rw [hq] at HPs2 HPb2
                clear hq HPs HPb
                refine hcall.mono ?_
                clear hcall
                rintro e w8 ⟨A8, m8, c8, rfl, hb8, hk8, ho8⟩
                have HB8 := Lib.hid hb8
                have HK8 := Lib.hid (HKX.out.trans hk8)
                have HO8 := Lib.hid ho8
                clear hb8 hk8 ho8 HOX HBX HKX
                obtain ⟨q1, q2⟩ := q
                by_cases hz8 : q1 = 0
                · subst hz8
                  have HO9 := Lib.hid (HO8.out rfl)
                  have hm8 := ownM_len HO9.out
                  rw [List.length_append] at hm8
                  have HP9 := Lib.hid (HPs2.out rfl)
                  have hhl : (headQ true v.keys j).length = (([] : List UInt8) ++ (quoteL ky.data.toList ++ [58])).length := by rw [HHd.out]
                  simp only [List.length_append, List.length_cons, List.length_nil] at hm8 hml0 hhl
                  have hol2 : q2.length + 4 ≤ 160 * valW x := hol
                  clear hol HO8 HPs2 HPb2
                  go_wp2_with fail
                  go_roundw
                  case rel =>
                    refine ⟨j + 1, m8, A8, c8, acc ++ headQ true v.keys j ++ q2, by omega, by go_num, rfl, (show OwnM _ _ _ _ _ from ?_), HP9.out, HB8.out, HK8.out, by omega⟩
                    have h9 := HO9.out
                    have e9 : bs ++ [123] ++ (acc ++ headQ true v.keys j ++ q2) = bs ++ [123] ++ acc ++ quoteL ky.data.toList ++ [58] ++ q2 := by rw [HHd.out]; simp only [List.append_assoc, List.nil_append, List.cons_append]
                    rw [e9]
                    exact h9
                  case measure => simp [intOf]; omega
                · have tq : (q1 != 0) = true := by simp [hz8]
                  have HE9 := Lib.hid (show (ownQ d v).1 = q1 by rw [HQ.out]; exact HPb2.out hz8)
                  have HZ8 := Lib.hid hz8
                  clear hz8 HPs2 HPb2 HO8 hol
                  go_wp2_with fail
                  go_ret2
                  refine ⟨A8, m8, c8, by rw [HE9.out]; rfl, HB8.out, HK2.out.trans HK8.out, fun h => absurd (HE9.out.symm.trans h) HZ8.out⟩
              · have hky : v.keys[j]? = none := List.getElem?_eq_none (by omega)
                have HHd := Lib.hid (show headQ true v.keys j = [] ++ (quoteL (⟨#[]⟩ : ByteArray).data.toList ++ [58]) by rw [HHd0, hky]; rw [if_pos (by omega)]; rfl)
                have hks : (0 : Nat) + 1 ≤ 1 := Nat.le_refl _
                clear hky HHd0
                go_wp2_with fail
                refine (quoteText_q w0 _ Ao mk co (⟨#[]⟩ : ByteArray) _ HBX.out HOX.out (by show _ + 6 * 0 + 2 ≤ _; omega)).mono ?_
                rintro e w4 ⟨A4q, m4, c4q, rfl, own4, hb4, hk4⟩
                have HBc := Lib.hid (HBb.out.keepT hk4)
                have HXc := Lib.hid (HXb.out.keepT hk4)
                have HO4 := Lib.hid own4
                have HB4 := Lib.hid hb4
                have HK4 := Lib.hid (HKX.out.trans hk4)
                have hm4 := ownM_len HO4.out
                simp only [List.length_append, List.length_cons, List.length_nil] at hm4 hml0
                have hql := quoteL_len (⟨#[]⟩ : ByteArray).data.toList
                have hql0 : (⟨#[]⟩ : ByteArray).data.toList.length = 0 := rfl
                rw [hql0] at hql
                clear own4 hb4 hk4 HOX HBX HKX
                clear HBb HXb
                have HBb := HBc
                have HXb := HXc
                clear HBc HXc
                have HOX := HO4
                have HBX := HB4
                have HKX := HK4
                clear HO4 HB4 HK4
                go_wp2_with (at_builtin; have hh := HOX.out.alloc (.cells #[.int .u8 58] 5); have k1 : (m4 + 1) * 1 ≤ 140737488355328 := (by omega); have k2 : m4 + 1 ≤ maxLen := (by unfold maxLen; omega); have k3 : w0.heap.size ≤ (World.alloc w4 (.cells #[.int .u8 58] 5)).heap.size := (by have := HBX.out.size; rw [World.size_alloc]; omega); have k4 := cell_new w4 [.int .u8 58] 5 (World.heap w4).size rfl; refine wpList_app _ rfl (.tmp 90) (.tmp 91) 71 rfl w0.heap.size 5 (.int .u8 0) 1 Tryd.underlying71 info_byteQ rfl (.slice A4q m4 c4q) (m4) _ rfl hh [.int .u8 58] 1 rfl (by omega) _ (by first | rfl | simp) k4 (by intro u hu; simp at hu; subst hu; rfl) k1 k2 k3 ?_; clear hh k1 k2 k3 k4; intro g5 c5 w5 own5 hg5 hgg5 hb5; have HBc := Lib.hid ((HBb.out.alloc (.cells #[.int .u8 58] 5)).keepT (KeepsT.grown (HOX.out.alloc (.cells #[.int .u8 58] 5)) hg5)); have HXc := Lib.hid ((HXb.out.alloc (.cells #[.int .u8 58] 5)).keepT (KeepsT.grown (HOX.out.alloc (.cells #[.int .u8 58] 5)) hg5)); have xc0 : w5.cell? ⟨wr.heap.size, 0, none⟩ = some (.int .i64 x.kind) := HXc.out.c 0; have xc1 : w5.cell? ⟨wr.heap.size, 1, none⟩ = some (.bool x.flag) := HXc.out.c 1; have xc2 : w5.cell? ⟨wr.heap.size, 2, none⟩ = some (.int .i64 x.num) := HXc.out.c 2; have xc3 : w5.cell? ⟨wr.heap.size, 3, none⟩ = some (.string x.text) := HXc.out.c 3; have xc4 : w5.cell? ⟨wr.heap.size, 4, none⟩ = some (.slice A3 x.items.length c3') := HXc.out.c 4; have xc5 : w5.cell? ⟨wr.heap.size, 5, none⟩ = some (.slice A4 x.keys.length c4') := HXc.out.c 5; have xsh := HXc.out.sh; have hnx : wr.heap.size < w5.heap.size := HXc.out.lt)
                have HO5 := Lib.hid (ownM_more (cs := [58]) own5 (by simp [byteCells]))
                have HB5 := Lib.hid ((HBX.out.alloc HBX.out.size (.cells #[.int .u8 58] 5)).trans hb5)
                have HK5 := Lib.hid ((HKX.out.trans (KeepsT.alloc _ (.cells #[.int .u8 58] 5))).trans (KeepsT.grown (HOX.out.alloc (.cells #[.int .u8 58] 5)) hg5))
                clear own5 hg5 hgg5 hb5 HOX HBX HKX
                have HOX := HO5
                have HBX := HB5
                have HKX := HK5
                clear HO5 HB5 HK5
                obtain ⟨q, hq⟩ : ∃ q, ownQ (d + 1) x = q := ⟨_, rfl⟩
                have hcall := HIH.out x _ _ ((some ⟨g5, 0, none⟩)) ((m4 + 1)) c5 (d + 1) _ HSz.out HVx.out HBX.out HOX.out (by omega) hd1
                rw [hq] at hcall hol
                have HPs2 := Lib.hid HPs.out
                have HPb2 := Lib.hid HPb.out
                rw [hq] at HPs2 HPb2
                clear hq HPs HPb
                refine hcall.mono ?_
                clear hcall
                rintro e w8 ⟨A8, m8, c8, rfl, hb8, hk8, ho8⟩
                have HB8 := Lib.hid hb8
                have HK8 := Lib.hid (HKX.out.trans hk8)
                have HO8 := Lib.hid ho8
                clear hb8 hk8 ho8 HOX HBX HKX
                obtain ⟨q1, q2⟩ := q
                by_cases hz8 : q1 = 0
                · subst hz8
                  have HO9 := Lib.hid (HO8.out rfl)
                  have hm8 := ownM_len HO9.out
                  rw [List.length_append] at hm8
                  have HP9 := Lib.hid (HPs2.out rfl)
                  have hhl : (headQ true v.keys j).length = (([] : List UInt8) ++ (quoteL (⟨#[]⟩ : ByteArray).data.toList ++ [58])).length := by rw [HHd.out]
                  simp only [List.length_append, List.length_cons, List.length_nil] at hm8 hml0 hhl
                  have hol2 : q2.length + 4 ≤ 160 * valW x := hol
                  clear hol HO8 HPs2 HPb2
                  go_wp2_with fail
                  go_roundw
                  case rel =>
                    refine ⟨j + 1, m8, A8, c8, acc ++ headQ true v.keys j ++ q2, by omega, by go_num, rfl, (show OwnM _ _ _ _ _ from ?_), HP9.out, HB8.out, HK8.out, by omega⟩
                    have h9 := HO9.out
                    have e9 : bs ++ [123] ++ (acc ++ headQ true v.keys j ++ q2) = bs ++ [123] ++ acc ++ quoteL (⟨#[]⟩ : ByteArray).data.toList ++ [58] ++ q2 := by rw [HHd.out]; simp only [List.append_assoc, List.nil_append, List.cons_append]
                    rw [e9]
                    exact h9
                  case measure => simp [intOf]; omega
                · have tq : (q1 != 0) = true := by simp [hz8]
                  have HE9 := Lib.hid (show (ownQ d v).1 = q1 by rw [HQ.out]; exact HPb2.out hz8)
                  have HZ8 := Lib.hid hz8
                  clear hz8 HPs2 HPb2 HO8 hol
                  go_wp2_with fail
                  go_ret2
                  refine ⟨A8, m8, c8, by rw [HE9.out]; rfl, HB8.out, HK2.out.trans HK8.out, fun h => absurd (HE9.out.symm.trans h) HZ8.out⟩
          · have hfin := hpr.out.fin (by omega)
            have HR := Lib.hid (show ownQ d v = (0, 123 :: (acc ++ [125])) by rw [HQ.out, hfin])
            clear hfin hpr
            go_wp2_with (at_builtin; have hh := HOX.out.alloc (.cells #[.int .u8 125] 5); have k1 : (mk + 1) * 1 ≤ 140737488355328 := (by omega); have k2 : mk + 1 ≤ maxLen := (by unfold maxLen; omega); have k3 : w0.heap.size ≤ (World.alloc wr (.cells #[.int .u8 125] 5)).heap.size := (by have := HBX.out.size; rw [World.size_alloc]; omega); have k4 := cell_new wr [.int .u8 125] 5 (World.heap wr).size rfl; refine wpList_app _ rfl (.tmp 106) (.tmp 109) 71 rfl w0.heap.size 5 (.int .u8 0) 1 Tryd.underlying71 info_byteQ rfl (.slice Ao mk co) (mk) _ rfl hh [.int .u8 125] 1 rfl (by omega) _ (by first | rfl | simp) k4 (by intro u hu; simp at hu; subst hu; rfl) k1 k2 k3 ?_; clear hh k1 k2 k3 k4; intro g9 c9 w9 own9 hg9 hgg9 hb9)
            have HO9 := Lib.hid (ownM_more (cs := [125]) own9 (by simp [byteCells]))
            have HB9 := Lib.hid ((HBX.out.alloc HBX.out.size (.cells #[.int .u8 125] 5)).trans hb9)
            have HK9 := Lib.hid ((HKX.out.trans (KeepsT.alloc _ (.cells #[.int .u8 125] 5))).trans (KeepsT.grown (HOX.out.alloc (.cells #[.int .u8 125] 5)) hg9))
            clear own9 hg9 hgg9 hb9 HOX HBX HKX
            have HOX := HO9
            have HBX := HB9
            have HKX := HK9
            clear HO9 HB9 HK9
            go_ret2
            rw [HR.out]
            refine ⟨_, _, _, rfl, HBX.out, HK2.out.trans HKX.out, fun _ => ?_⟩
            have e9 : bs ++ (123 :: (acc ++ [125])) = bs ++ [123] ++ acc ++ [125] := by simp
            rw [e9]
            exact HOX.out
    · have hval : 1 ≤ valW v ∧ v.text.size + 1 ≤ valW v := by unfold valW; omega
      have t0 : (v.kind == 0) = false := by simp; omega
      have t1 : (v.kind == 1) = false := by simp; omega
      have t2 : (v.kind == 2) = false := by simp; omega
      have t3 : (v.kind == 3) = false := by simp; omega
      have t7 : (v.kind == 7) = false := by simp; omega
      have t4 : (v.kind == 4) = false := by simp; omega
      have t5 : (v.kind == 5) = false := by simp; omega
      have t6 : (v.kind == 6) = false := by simp; omega
      have HQ := Lib.hid (show ownQ d v = (10, []) by rw [ownQ_eq, if_neg (by omega), leafQ, if_neg (by omega), if_neg (by omega), if_neg (by omega)])
      clear hx
      go_enter Tryd.func43, Tryd.ntmps43
      go_wp2_with fail
      go_ret2
      rw [HQ.out]
      exact ⟨_, _, _, rfl, HBX.out, HKX.out, fun h => absurd h (by decide)⟩

end Go.Proofs.YtebhbgamdhjdkaaDoor
