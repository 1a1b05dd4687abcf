/-
  ship.ReadIndex.
-/
import Derived.Test.YtfeecoeeiangnaaDoorReadTerm
import Derived.Test.YtfeecoeeiangnaaDoorReadLens
import Derived.Test.YtfeecoeeiangnaaDoorIdxFault
import Derived.Laws.ResultCell
namespace Go.Proofs.YtfeecoeeiangnaaDoor
open Go.RowKit Go.Deep

theorem idx_done {fn : Func} {a : Act} {W : World} {Post : Ending → World → Prop} {n : Nat} {cs : Array Value} {code : Int} (hfn : fn.results = #[.cell 2 26, .tmp 3]) (hb : CB W n 26 cs) (hs : cs.size = 3)
    (hp : a.tmps.getD 2 undef = .pointer (some ⟨n, 0, none⟩)) (hc : a.tmps.getD 3 undef = .int .i64 code) (hd : a.defers = []) (h : Post (.returned (.tuple #[.agg cs, .int .i64 code])) W) : bodyPost Tryd.prog fn Post .ret a W := by
  refine bodyPost_ret ?_ hd h
  rw [results_cell_tmp hfn, hp, hc]
  have h2 := run_loadVar_row (P := Tryd.prog) W n 26 26 cs (0, 0) _ hb Tryd.underlying26 rfl (by rw [hs]; kernel_rfl)
  simp [asAddr, h2, Result.andThen]

def strLen : Value → Nat
  | .string s => s.size
  | _ => 0
theorem IdxOwn.base {w : World} {B B' : Nat} {dv sv tv : Value} {s : St} {L : List (TermR × Value × Value)} (h : IdxOwn w B' dv sv tv s L) (hB : B ≤ B') : IdxOwn w B dv sv tv s L :=
  ⟨h.oL, own_base h.od hB, own_base h.os hB, own_base h.ot hB, fun x hx => ⟨own_base (h.ow x hx).1 hB, own_base (h.ow x hx).2 hB⟩, h.oi⟩
def ReadPost (N : Nat) (l : List UInt8) (w : World) (e : Ending) (w' : World) : Prop :=
  ∃ (dv sv tv : Value) (L : List (TermR × Value × Value)), e = .returned (.tuple #[.agg #[dv, sv, tv], .int .i64 (readE l)]) ∧ IdxOwn w' N dv sv tv (readS l) L ∧ Below N w w'
theorem ReadPost.err {N : Nat} {l : List UInt8} {w w' : World} {v : Int} (h : readE l = v) (hv : v ≠ 0) (hb : Below N w w') : ReadPost N l w (.returned (.tuple #[.agg #[.slice none 0 0, .slice none 0 0, .slice none 0 0], .int .i64 v])) w' :=
  ⟨_, _, _, [], by rw [h], by rw [readS, if_neg (by rw [h]; exact hv)]; exact IdxOwn.start _ _, hb⟩
theorem ReadPost.ok {N : Nat} {l : List UInt8} {w w' : World} {dv sv tv : Value} {L : List (TermR × Value × Value)} {s : St} (h : readE l = 0) (hs : endS st0 (textL l) = s) (ho : IdxOwn w' N dv sv tv s L) (hb : Below N w w') : ReadPost N l w (.returned (.tuple #[.agg #[dv, sv, tv], .int .i64 0])) w' :=
  ⟨_, _, _, L, by rw [h], by rw [readS, if_pos h, hs]; exact ho, hb⟩
theorem readE_large {l : List UInt8} (h : 400000 < l.length) : readE l = 4 := by rw [readE, if_pos h]
theorem readE_open {l : List UInt8} (h : l.length ≤ 400000) (h1 : l ≠ []) (h2 : Lib.hasSuffix l [10] = false) : readE l = 8 := by
  rw [readE, if_neg (by omega), if_pos]
  rw [h2, isNE h1]; rfl
theorem readE_rest {l : List UInt8} (h : l.length ≤ 400000) (h2 : l = [] ∨ Lib.hasSuffix l [10] = true) : readE l = if okAll st0 (textL l) = false then 8 else idxE (endS st0 (textL l)).D (endS st0 (textL l)).S (endS st0 (textL l)).T := by
  rw [readE, if_neg (by omega), if_neg]
  rcases h2 with h2 | h2
  · rw [h2]; simp
  · rw [h2]; simp
theorem readE_bad {l : List UInt8} (h : l.length ≤ 400000) (h2 : l = [] ∨ Lib.hasSuffix l [10] = true) {s : St} {x : List UInt8} {r : List (List UInt8)} (ho : okAll st0 (textL l) = okAll s (x :: r)) (hx : lineOk s.T x = false) : readE l = 8 := by
  rw [readE_rest h h2, if_pos]
  rw [ho, okAll, hx]; rfl
theorem readE_end {l : List UInt8} (h : l.length ≤ 400000) (h2 : l = [] ∨ Lib.hasSuffix l [10] = true) {s : St} (ho : okAll st0 (textL l) = okAll s []) (he : endS st0 (textL l) = endS s []) : readE l = idxE s.D s.S s.T := by
  rw [readE_rest h h2, if_neg (by rw [ho]; simp [okAll]), he]; rfl
theorem line_doc {T : List TermR} {l : List UInt8} (h : Lib.hasPrefix l docW0 = true) : lineOk T l = (T.isEmpty && docOk (l.drop 4)) := by rw [lineOk, if_pos h]
theorem line_term {T : List TermR} {l : List UInt8} (h : Lib.hasPrefix l docW0 = false) (h2 : Lib.hasPrefix l termW0 = true) : lineOk T l = termOk (l.drop 5) := by rw [lineOk, if_neg (by rw [h]; simp), if_pos h2]
theorem line_none {T : List TermR} {l : List UInt8} (h : Lib.hasPrefix l docW0 = false) (h2 : Lib.hasPrefix l termW0 = false) : lineOk T l = false := by rw [lineOk, if_neg (by rw [h]; simp), if_neg (by rw [h2]; simp)]
theorem lineS_doc {s : St} {l : List UInt8} (h : Lib.hasPrefix l docW0 = true) : lineS s l = ⟨s.D ++ [docD (l.drop 4)], s.S ++ [((numV (docM (l.drop 4)) : Nat) : Int)], s.T⟩ := by rw [lineS, if_pos h]
theorem lineS_term {s : St} {l : List UInt8} (h : Lib.hasPrefix l docW0 = false) : lineS s l = ⟨s.D, s.S, s.T ++ [termD (l.drop 5)]⟩ := by rw [lineS, if_neg (by rw [h]; simp)]

theorem IdxOwn.set3 {w : World} {B n : Nat} {dv sv tv : Value} {s : St} {L : List (TermR × Value × Value)} {cs : Array Value} {x y z : Value} (h : IdxOwn w B dv sv tv s L) (hc : CB w n 26 cs) : IdxOwn (((w.setCell ⟨n, 0, none⟩ x).setCell ⟨n, 1, none⟩ y).setCell ⟨n, 2, none⟩ z) B dv sv tv s L :=
  ((h.box hc (by decide) (by decide) (by decide) x).box (hc.put 0 x) (by decide) (by decide) (by decide) y).box ((hc.put 0 x).put 1 y) (by decide) (by decide) (by decide) z
/-- where a reader stands between two lines -/
structure Reads (x : List UInt8) (N : Nat) (w : World) (wr : World) (dv sv tv : Value) (st : St) (L : List (TermR × Value × Value)) (Ls : List (List UInt8)) : Prop where
  hx : CB wr (N + 1) 26 #[dv, sv, tv]
  hr : CB wr N 26 #[.slice none 0 0, .slice none 0 0, .slice none 0 0]
  ho : IdxOwn wr (N + 1) dv sv tv st L
  hok : okAll st0 (textL x) = okAll st Ls
  hen : endS st0 (textL x) = endS st Ls
  hw : stW st + remW Ls ≤ 400000
  hs : st.S.length = st.D.length
  hb : Below N w wr
theorem Reads.below {x : List UInt8} {N : Nat} {w wr wr' : World} {dv sv tv : Value} {st : St} {L : List (TermR × Value × Value)} {Ls : List (List UInt8)} (h : Reads x N w wr dv sv tv st L Ls) (hb : Below wr.heap.size wr wr') : Reads x N w wr' dv sv tv st L Ls := by
  have hlt : N < wr.heap.size := h.hr.lt
  exact ⟨h.hx.below hb, h.hr.below hb, h.ho.below hb, h.hok, h.hen, h.hw, h.hs, h.hb.trans (hb.mono (by omega))⟩
theorem Reads.next {x : List UInt8} {N : Nat} {w wr wr' : World} {dv sv tv dv' sv' tv' : Value} {st : St} {L L' : List (TermR × Value × Value)} {l : List UInt8} {Ls : List (List UInt8)} (h : Reads x N w wr dv sv tv st L (l :: Ls)) (hl : lineOk st.T l = true)
    (hx : CB wr' (N + 1) 26 #[dv', sv', tv']) (ho : IdxOwn wr' (N + 1) dv' sv' tv' (lineS st l) L') (hb : Below (N + 1) wr wr') : Reads x N w wr' dv' sv' tv' (lineS st l) L' Ls := by
  obtain ⟨h1, h2⟩ := lineS_W st l hl
  have h3 := h.hw
  have h4 : remW (l :: Ls) = l.length + 1 + remW Ls := rfl
  exact ⟨hx, h.hr.belowB hb (by omega), ho, by rw [h.hok, okAll, hl]; rfl, by rw [h.hen]; rfl, by omega, h2.2 h.hs, h.hb.trans (hb.mono (by omega))⟩
theorem Reads.sizes {x : List UInt8} {N : Nat} {w wr : World} {dv sv tv : Value} {st : St} {L : List (TermR × Value × Value)} {Ls : List (List UInt8)} (h : Reads x N w wr dv sv tv st L Ls) : (∀ d ∈ st.D, d.addr.size ≤ 1048576 ∧ d.title.size ≤ 1048576) ∧ (∀ t ∈ st.T, t.word.size ≤ 1048576) ∧ (idxT st.D st.S st.T).length ≤ 1073741824 ∧ st.D.length ≤ 1048576 ∧ st.S.length ≤ 1048576 ∧ L.length ≤ 1048576 := by
  have h1 := h.hw
  have h2 := stW_D st
  have h3 := stW_T st
  have h4 := h.hs
  have h5 := congrArg List.length h.ho.oL
  rw [List.length_map] at h5
  have h6 := h.ho.at.text_le (n := 400000) (by omega)
  refine ⟨fun d hd => ?_, fun t ht => ?_, by omega, by omega, by omega, by omega⟩
  · have := stW_d st hd; omega
  · have := stW_t st ht; omega

set_option maxRecDepth 100000 in
set_option maxHeartbeats 8000000 in
theorem readIndex_q (s : ByteArray) (w : World) (hm : MaxAt w) (htab : TabOk w) : Calls Tryd.prog 6 #[.string s] w (ReadPost w.heap.size s.data.toList w) := by
  have HMx := Lib.hid hm; clear hm
  have HTb := Lib.hid htab; clear htab
  obtain ⟨N, hN⟩ : ∃ N, w.heap.size = N := ⟨_, rfl⟩
  rw [hN]
  have HN := Lib.hid hN
  have HRes := Lib.hid (show CB (w.alloc (.cells #[.slice none 0 0, .slice none 0 0, .slice none 0 0] 26)) N 26 #[.slice none 0 0, .slice none 0 0, .slice none 0 0] by rw [← hN]; exact CB.new w _ _)
  by_cases hbig : 400000 < s.size
  · have HE := Lib.hid (readE_large (l := s.data.toList) (by rw [size_toList]; exact hbig))
    have hbig1 : (400000 : Int) < (s.size : Int) := by omega
    go_enter Tryd.func6, Tryd.ntmps6
    go_wp2_with fail
    refine idx_done rfl HRes.out rfl rfl rfl rfl (ReadPost.err HE.out (by decide) ?_)
    exact (Below.refl _ _).alloc (by omega) _
  have hle : (s.size : Int) ≤ 400000 := by omega
  have hle2 : s.data.toList.length ≤ 400000 := by rw [size_toList]; omega
  have HLe := Lib.hid hle2; clear hle2
  obtain ⟨vs, hvs⟩ : ∃ v, Lib.hasSuffix s.data.toList [10] = v := ⟨_, rfl⟩
  have HVs := Lib.hid hvs
  have hcase : s.data.toList = [] ∨ s.data.toList ≠ [] := by by_cases h : s.data.toList = []; exact Or.inl h; exact Or.inr h
  have hl63 : s.size ≤ 9223372036854775807 := by omega
  by_cases hbad : s.data.toList ≠ [] ∧ vs = false
  · obtain ⟨h1, rfl⟩ := hbad
    have HE := Lib.hid (readE_open HLe.out h1 HVs.out)
    have e1 := isE_false h1
    clear h1 hcase hvs
    go_enter Tryd.func6, Tryd.ntmps6
    go_wp2_with (go_at_call 16; go_must (refine (hasSuffix_v s ⟨#[10]⟩ false _ hl63 HVs.out).mono ?_); rintro e w1 ⟨rfl, rfl⟩)
    refine idx_done rfl HRes.out rfl rfl rfl rfl (ReadPost.err HE.out (by decide) ?_)
    exact (Below.refl _ _).alloc (by omega) _
  have hform : s.data.toList = [] ∨ Lib.hasSuffix s.data.toList [10] = true := by
    rcases hcase with h | h
    · exact Or.inl h
    · right
      rw [HVs.out]
      cases vs
      · exact absurd ⟨h, rfl⟩ hbad
      · rfl
  have HF := Lib.hid hform
  have HLft := Lib.hid (textL_left hform)
  have hgo : (s.data.toList = []) ∨ (s.data.toList ≠ [] ∧ vs = true) := by
    rcases hcase with h | h
    · exact Or.inl h
    · refine Or.inr ⟨h, ?_⟩
      cases vs
      · exact absurd ⟨h, rfl⟩ hbad
      · rfl
  clear hform hcase hbad hvs
  rcases hgo with h1 | ⟨h1, h2⟩
  have e1 := isE_true h1
  clear h1
  go_enter Tryd.func6, Tryd.ntmps6
  go_wp2_with fail
  rotate_left
  have e1 := isE_false h1
  subst h2
  clear h1
  go_enter Tryd.func6, Tryd.ntmps6
  go_wp2_with (go_at_call 16; go_must (refine (hasSuffix_v s ⟨#[10]⟩ true _ hl63 HVs.out).mono ?_); rintro e w1 ⟨rfl, rfl⟩)
  all_goals
    clear e1
    have HS := Lib.hid (show Reads s.data.toList N w ((w.alloc (.cells #[.slice none 0 0, .slice none 0 0, .slice none 0 0] 26)).alloc (.cells #[.slice none 0 0, .slice none 0 0, .slice none 0 0] 26)) (.slice none 0 0) (.slice none 0 0) (.slice none 0 0) st0 [] (textL s.data.toList) from by
      have q1 := CB.new (w.alloc (.cells #[.slice none 0 0, .slice none 0 0, .slice none 0 0] 26)) #[.slice none 0 0, .slice none 0 0, .slice none 0 0] 26
      rw [World.size_alloc, HN.out] at q1
      have q2 := (CB.new w #[.slice none 0 0, .slice none 0 0, .slice none 0 0] 26).alloc (.cells #[.slice none 0 0, .slice none 0 0, .slice none 0 0] 26)
      rw [HN.out] at q2
      refine ⟨q1, q2, IdxOwn.start _ _, rfl, rfl, ?_, rfl, ((Below.refl _ _).alloc (by have := HN.out; omega) _).alloc (by have := HN.out; rw [World.size_alloc]; omega) _⟩
      have q3 := HLft.out.rem
      have q4 := HLe.out
      have q5 : stW st0 = 0 := rfl
      omega)
    go_loopw [0] (fun t0 wr => ∃ (tx : ByteArray) (dv sv tv : Value) (st : St) (L : List (TermR × Value × Value)) (Ls : List (List UInt8)), t0 = .string tx ∧ Hid (Reads s.data.toList N w wr dv sv tv st L Ls) ∧ Hid (Left tx.data.toList Ls)) (fun t0 _ => strLen t0)
    case atStart => exact ⟨s, _, _, _, _, _, _, rfl, HS, HLft⟩
    case round =>
      obtain ⟨tx, dv, sv, tv, st, L, Ls, rfl, HR, HL⟩ := hrel
      by_cases ht : tx.data.toList = []
      · have e1 := isE_true ht
        have hLs : Ls = [] := by have h1 := HL.out; rw [ht] at h1; exact h1.done
        subst hLs
        obtain ⟨A1, c1, rfl, _, _, _⟩ := own_form HR.out.ho.od
        obtain ⟨A2, c2, rfl, _, _, _⟩ := own_form HR.out.ho.os
        obtain ⟨A3, c3, rfl, _, _, _⟩ := own_form HR.out.ho.ot
        have HE := Lib.hid (readE_end HLe.out HF.out HR.out.hok HR.out.hen)
        have HSz := Lib.hid HR.out.sizes
        have HMr := Lib.hid (HMx.out.keep (Keeps.of_below (by rw [← HN.out] at HR; exact HR.out.hb)))
        have HTr := Lib.hid (HTb.out.keep (by rw [HN.out]; exact HR.out.hb))
        obtain ⟨v, hv⟩ : ∃ v, idxE st.D st.S st.T = v := ⟨_, rfl⟩
        have HV := Lib.hid hv; clear hv ht
        have x0 := HR.out.hx.c 0
        have x1 := HR.out.hx.c 1
        have x2 := HR.out.hx.c 2
        by_cases hv0 : v = 0
        · subst hv0
          go_wp2_with (go_at_call 21; go_must (refine (indexFault_q st.D st.S st.T _ _ _ _ HR.out.ho.at HSz.out.1 HSz.out.2.1 HSz.out.2.2.1 HTr.out HMr.out).mono ?_); rw [HV.out]; rintro e w5 ⟨rfl, hb⟩; have HR5 := Lib.hid (HR.out.below hb); clear hb; have y0 := HR5.out.hx.c 0; have y1 := HR5.out.hx.c 1; have y2 := HR5.out.hx.c 2; have r0 := HR5.out.hr.c 0; have r1 := HR5.out.hr.c 1; have r2 := HR5.out.hr.c 2; have f0 := HR5.out.hr.f 0; have f1 := HR5.out.hr.f 1; have f2 := HR5.out.hr.f 2; have fs := HR5.out.hr.sh)
          refine idx_done rfl (((HR5.out.hr.put 0 _).put 1 _).put 2 _) rfl rfl rfl rfl ?_
          exact ReadPost.ok (HE.out.trans HV.out) (by rw [HR5.out.hen]; rfl) (((HR5.out.ho.base (Nat.le_succ N)).set3 HR5.out.hr)) (((HR5.out.hb.setCell (p := ⟨N, 0, none⟩) (Nat.le_refl N) _).setCell (p := ⟨N, 1, none⟩) (Nat.le_refl N) _).setCell (p := ⟨N, 2, none⟩) (Nat.le_refl N) _)
        · go_wp2_with (go_at_call 21; go_must (refine (indexFault_q st.D st.S st.T _ _ _ _ HR.out.ho.at HSz.out.1 HSz.out.2.1 HSz.out.2.2.1 HTr.out HMr.out).mono ?_); rw [HV.out]; rintro e w5 ⟨rfl, hb⟩; have HR5 := Lib.hid (HR.out.below hb); clear hb; have y0 := HR5.out.hx.c 0; have y1 := HR5.out.hx.c 1; have y2 := HR5.out.hx.c 2; have r0 := HR5.out.hr.c 0; have r1 := HR5.out.hr.c 1; have r2 := HR5.out.hr.c 2; have f0 := HR5.out.hr.f 0; have f1 := HR5.out.hr.f 1; have f2 := HR5.out.hr.f 2; have fs := HR5.out.hr.sh)
          refine idx_done rfl (((HR5.out.hr.put 0 _).put 1 _).put 2 _) rfl rfl rfl rfl ?_
          exact ReadPost.err (HE.out.trans HV.out) hv0 (((HR5.out.hb.setCell (p := ⟨N, 0, none⟩) (Nat.le_refl N) _).setCell (p := ⟨N, 1, none⟩) (Nat.le_refl N) _).setCell (p := ⟨N, 2, none⟩) (Nat.le_refl N) _)
      · have e1 := isE_false ht
        obtain ⟨r, hr1, hr2, hr3⟩ := HL.out.step ht
        subst hr1
        have HL2 := Lib.hid hr2
        have hlen := bef_len 10 tx.data.toList
        have hmeas : (aft 10 tx.data.toList).tail.length < tx.size := by
          rw [List.length_tail]
          have h5 : 1 ≤ (aft 10 tx.data.toList).length := by cases h6 : aft 10 tx.data.toList with | nil => exact absurd h6 hr3 | cons _ _ => simp
          rw [size_toList] at hlen
          omega
        have hwr := HR.out.hw
        have hrw : remW (bef 10 tx.data.toList :: r) = (bef 10 tx.data.toList).length + 1 + remW r := rfl
        have htxr := HL.out.rem
        rw [size_toList] at htxr
        obtain ⟨a, ha⟩ : ∃ a : ByteArray, a.data.toList = bef 10 tx.data.toList := ⟨⟨(bef 10 tx.data.toList).toArray⟩, rfl⟩
        obtain ⟨z, hz⟩ : ∃ a : ByteArray, a.data.toList = (aft 10 tx.data.toList).tail := ⟨⟨((aft 10 tx.data.toList).tail).toArray⟩, rfl⟩
        have htx : tx.size ≤ 1048576 := by omega
        have has : a.size ≤ 1048576 := by rw [← ha, size_toList] at hlen; rw [size_toList] at hlen; omega
        have HA := Lib.hid ha
        have HZ := Lib.hid hz
        have HMe := Lib.hid (show z.size < tx.size by rw [← size_toList z, hz]; exact hmeas)
        rw [← ha] at HR
        rw [← hz] at HL2
        have HMr := Lib.hid (HMx.out.keep (Keeps.of_below (by rw [← HN.out] at HR; exact HR.out.hb)))
        have HSz := Lib.hid HR.out.sizes
        clear ha hz hr2 hr3 hlen hmeas hwr hrw htxr ht HL
        cases hp1 : Lib.hasPrefix a.data.toList docW0
        · have HP1 := Lib.hid (show Lib.hasPrefix a.data.toList (⟨#[100, 111, 99, 32]⟩ : ByteArray).data.toList = false from hp1)
          cases hp2 : Lib.hasPrefix a.data.toList termW0
          · have HP2 := Lib.hid (show Lib.hasPrefix a.data.toList (⟨#[116, 101, 114, 109, 32]⟩ : ByteArray).data.toList = false from hp2)
            have HE := Lib.hid (readE_bad HLe.out HF.out HR.out.hok (line_none hp1 hp2))
            clear hp1 hp2
            go_wp2_with (first | (go_at_call 17; go_must (refine (cutC_q tx a z 10 _ htx HMr.out HA.out HZ.out).mono ?_); rintro e w5 ⟨rfl, hb⟩; have HR5 := Lib.hid (HR.out.below hb); clear hb; have r0 := HR5.out.hr.c 0; have r1 := HR5.out.hr.c 1; have r2 := HR5.out.hr.c 2; have f0 := HR5.out.hr.f 0; have f1 := HR5.out.hr.f 1; have f2 := HR5.out.hr.f 2; have fs := HR5.out.hr.sh) | (go_at_call 18; (with_reducible refine (hasPrefix_v a ⟨#[100, 111, 99, 32]⟩ false _ HP1.out).mono ?_); rintro e w6 ⟨rfl, rfl⟩) | (go_at_call 18; (with_reducible refine (hasPrefix_v a ⟨#[116, 101, 114, 109, 32]⟩ false _ HP2.out).mono ?_); rintro e w7 ⟨rfl, rfl⟩))
            refine idx_done rfl (((HR5.out.hr.put 0 _).put 1 _).put 2 _) rfl rfl rfl rfl ?_
            exact ReadPost.err HE.out (by decide) (((HR5.out.hb.setCell (p := ⟨N, 0, none⟩) (Nat.le_refl N) _).setCell (p := ⟨N, 1, none⟩) (Nat.le_refl N) _).setCell (p := ⟨N, 2, none⟩) (Nat.le_refl N) _)
          · have HP2 := Lib.hid (show Lib.hasPrefix a.data.toList (⟨#[116, 101, 114, 109, 32]⟩ : ByteArray).data.toList = true from hp2)
            have h5 := prefix_len hp2
            rw [size_toList] at h5
            have h5a : (5 : Int) ≤ (a.size : Int) := by simp [termW0] at h5; omega
            obtain ⟨y, hy⟩ : ∃ y, a.extract 5 a.size = y := ⟨_, rfl⟩
            have hyd : y.data.toList = a.data.toList.drop 5 := by rw [← hy, ext_drop]
            have hys : y.size ≤ 1048576 := by rw [← hy, ByteArray.size_extract]; omega
            have hLk := line_term (T := st.T) hp1 hp2
            rw [← hyd] at hLk
            have hSk := lineS_term (s := st) hp1
            rw [← hyd] at hSk
            have HLk := Lib.hid hLk
            have HSk := Lib.hid hSk
            clear hp1 hp2 h5 hyd hLk hSk
            cases hto : termOk y.data.toList
            · have HTo := Lib.hid hto
              have HE := Lib.hid (readE_bad HLe.out HF.out HR.out.hok (HLk.out.trans hto))
              clear hto
              go_wp2_with (first | (go_at_call 17; go_must (refine (cutC_q tx a z 10 _ htx HMr.out HA.out HZ.out).mono ?_); rintro e w5 ⟨rfl, hb⟩; have HR5 := Lib.hid (HR.out.below hb); clear hb; have r0 := HR5.out.hr.c 0; have r1 := HR5.out.hr.c 1; have r2 := HR5.out.hr.c 2; have f0 := HR5.out.hr.f 0; have f1 := HR5.out.hr.f 1; have f2 := HR5.out.hr.f 2; have fs := HR5.out.hr.sh) | (go_at_call 18; (with_reducible refine (hasPrefix_v a ⟨#[100, 111, 99, 32]⟩ false _ HP1.out).mono ?_); rintro e w6 ⟨rfl, rfl⟩) | (go_at_call 18; (with_reducible refine (hasPrefix_v a ⟨#[116, 101, 114, 109, 32]⟩ true _ HP2.out).mono ?_); rintro e w7 ⟨rfl, rfl⟩) | (go_at_call 20; go_must (refine (readTerm_q (N + 1) (N + 1) st dv sv tv L y _ (Nat.le_refl _) HR5.out.hx HR5.out.ho hys HSz.out.2.2.2.2.2 (HMx.out.keep (Keeps.of_below (by rw [← HN.out] at HR5; exact HR5.out.hb)))).mono ?_); rintro e w8 ⟨rfl, hb8, hpo⟩; rw [HTo.out]; have HB8 := Lib.hid hb8; have HPo := Lib.hid hpo; have HRr := Lib.hid (HR5.out.hr.belowB hb8 (Nat.lt_succ_self N)); have HBb := Lib.hid (HR5.out.hb.trans (hb8.mono (Nat.le_succ N))); clear hb8 hpo r0 r1 r2 f0 f1 f2 fs; have r0 := HRr.out.c 0; have r1 := HRr.out.c 1; have r2 := HRr.out.c 2; have f0 := HRr.out.f 0; have f1 := HRr.out.f 1; have f2 := HRr.out.f 2; have fs := HRr.out.sh))
              refine idx_done rfl (((HRr.out.put 0 _).put 1 _).put 2 _) rfl rfl rfl rfl ?_
              exact ReadPost.err HE.out (by decide) (((HBb.out.setCell (p := ⟨N, 0, none⟩) (Nat.le_refl N) _).setCell (p := ⟨N, 1, none⟩) (Nat.le_refl N) _).setCell (p := ⟨N, 2, none⟩) (Nat.le_refl N) _)
            · have HTo := Lib.hid hto
              clear hto
              go_wp2_with (first | (go_at_call 17; go_must (refine (cutC_q tx a z 10 _ htx HMr.out HA.out HZ.out).mono ?_); rintro e w5 ⟨rfl, hb⟩; have HR5 := Lib.hid (HR.out.below hb); clear hb; have r0 := HR5.out.hr.c 0; have r1 := HR5.out.hr.c 1; have r2 := HR5.out.hr.c 2; have f0 := HR5.out.hr.f 0; have f1 := HR5.out.hr.f 1; have f2 := HR5.out.hr.f 2; have fs := HR5.out.hr.sh) | (go_at_call 18; (with_reducible refine (hasPrefix_v a ⟨#[100, 111, 99, 32]⟩ false _ HP1.out).mono ?_); rintro e w6 ⟨rfl, rfl⟩) | (go_at_call 18; (with_reducible refine (hasPrefix_v a ⟨#[116, 101, 114, 109, 32]⟩ true _ HP2.out).mono ?_); rintro e w7 ⟨rfl, rfl⟩) | (go_at_call 20; go_must (refine (readTerm_q (N + 1) (N + 1) st dv sv tv L y _ (Nat.le_refl _) HR5.out.hx HR5.out.ho hys HSz.out.2.2.2.2.2 (HMx.out.keep (Keeps.of_below (by rw [← HN.out] at HR5; exact HR5.out.hb)))).mono ?_); rintro e w8 ⟨rfl, hb8, hpo⟩; rw [HTo.out]; have HB8 := Lib.hid hb8; have HPo := Lib.hid hpo; have HRr := Lib.hid (HR5.out.hr.belowB hb8 (Nat.lt_succ_self N)); have HBb := Lib.hid (HR5.out.hb.trans (hb8.mono (Nat.le_succ N))); clear hb8 hpo r0 r1 r2 f0 f1 f2 fs; have r0 := HRr.out.c 0; have r1 := HRr.out.c 1; have r2 := HRr.out.c 2; have f0 := HRr.out.f 0; have f1 := HRr.out.f 1; have f2 := HRr.out.f 2; have fs := HRr.out.sh))
              obtain ⟨dv', sv', tv', L', hcx, hox⟩ := HPo.out HTo.out
              rw [← HSk.out] at hox
              have HR8 := Lib.hid (HR5.out.next (HLk.out.trans HTo.out) hcx hox HB8.out)
              go_roundw
              case rel => exact ⟨z, _, _, _, _, _, _, rfl, HR8, HL2⟩
              case measure => exact HMe.out
        · have HP1 := Lib.hid (show Lib.hasPrefix a.data.toList (⟨#[100, 111, 99, 32]⟩ : ByteArray).data.toList = true from hp1)
          have h5 := prefix_len hp1
          rw [size_toList] at h5
          have h5a : (4 : Int) ≤ (a.size : Int) := by simp [docW0] at h5; omega
          obtain ⟨y, hy⟩ : ∃ y, a.extract 4 a.size = y := ⟨_, rfl⟩
          have hyd : y.data.toList = a.data.toList.drop 4 := by rw [← hy, ext_drop]
          have hys : y.size ≤ 1048576 := by rw [← hy, ByteArray.size_extract]; omega
          have hLk := line_doc (T := st.T) hp1
          rw [← hyd] at hLk
          have hSk := lineS_doc (s := st) hp1
          rw [← hyd] at hSk
          have HLk := Lib.hid hLk
          have HSk := Lib.hid hSk
          clear hp1 h5 hyd hLk hSk
          cases hdo : (st.T.isEmpty && docOk y.data.toList)
          · have HDo := Lib.hid hdo
            have HE := Lib.hid (readE_bad HLe.out HF.out HR.out.hok (HLk.out.trans hdo))
            clear hdo
            go_wp2_with (first | (go_at_call 17; go_must (refine (cutC_q tx a z 10 _ htx HMr.out HA.out HZ.out).mono ?_); rintro e w5 ⟨rfl, hb⟩; have HR5 := Lib.hid (HR.out.below hb); clear hb; have r0 := HR5.out.hr.c 0; have r1 := HR5.out.hr.c 1; have r2 := HR5.out.hr.c 2; have f0 := HR5.out.hr.f 0; have f1 := HR5.out.hr.f 1; have f2 := HR5.out.hr.f 2; have fs := HR5.out.hr.sh) | (go_at_call 18; (with_reducible refine (hasPrefix_v a ⟨#[100, 111, 99, 32]⟩ true _ HP1.out).mono ?_); rintro e w6 ⟨rfl, rfl⟩) | (go_at_call 19; go_must (refine (readDoc_no (N + 1) (N + 1) st dv sv tv L y _ HR5.out.hx HR5.out.ho hys HDo.out).mono ?_); rintro e w8 ⟨rfl, hb8⟩; have HR9 := Lib.hid (HR5.out.below hb8); clear hb8 r0 r1 r2 f0 f1 f2 fs; have r0 := HR9.out.hr.c 0; have r1 := HR9.out.hr.c 1; have r2 := HR9.out.hr.c 2; have f0 := HR9.out.hr.f 0; have f1 := HR9.out.hr.f 1; have f2 := HR9.out.hr.f 2; have fs := HR9.out.hr.sh))
            refine idx_done rfl (((HR9.out.hr.put 0 _).put 1 _).put 2 _) rfl rfl rfl rfl ?_
            exact ReadPost.err HE.out (by decide) (((HR9.out.hb.setCell (p := ⟨N, 0, none⟩) (Nat.le_refl N) _).setCell (p := ⟨N, 1, none⟩) (Nat.le_refl N) _).setCell (p := ⟨N, 2, none⟩) (Nat.le_refl N) _)
          · have HDo := Lib.hid hdo
            have h9 : st.T = [] ∧ docOk y.data.toList = true := by simpa using hdo
            obtain ⟨h9a, h9b⟩ := h9
            have hL0 : L = [] := by have h8 := HR.out.ho.oL; rw [h9a] at h8; exact List.map_eq_nil_iff.1 h8
            subst hL0
            have HDk := Lib.hid h9b
            clear hdo h9a h9b
            go_wp2_with (first | (go_at_call 17; go_must (refine (cutC_q tx a z 10 _ htx HMr.out HA.out HZ.out).mono ?_); rintro e w5 ⟨rfl, hb⟩; have HR5 := Lib.hid (HR.out.below hb); clear hb; have r0 := HR5.out.hr.c 0; have r1 := HR5.out.hr.c 1; have r2 := HR5.out.hr.c 2; have f0 := HR5.out.hr.f 0; have f1 := HR5.out.hr.f 1; have f2 := HR5.out.hr.f 2; have fs := HR5.out.hr.sh) | (go_at_call 18; (with_reducible refine (hasPrefix_v a ⟨#[100, 111, 99, 32]⟩ true _ HP1.out).mono ?_); rintro e w6 ⟨rfl, rfl⟩) | (go_at_call 19; go_must (refine (readDoc_yes (N + 1) (N + 1) st dv sv tv y _ (Nat.le_refl _) HR5.out.hx HR5.out.ho hys ⟨HSz.out.2.2.2.1, HSz.out.2.2.2.2.1⟩ HDk.out).mono ?_); rintro e w8 ⟨rfl, hDn⟩; have HDn := Lib.hid hDn; clear hDn))
            obtain ⟨dv', sv', tv', hcx, hox, hbx⟩ := HDn.out
            rw [← HSk.out] at hox
            have HR8 := Lib.hid (HR5.out.next (HLk.out.trans HDo.out) hcx hox hbx)
            go_roundw
            case rel => exact ⟨z, _, _, _, _, _, _, rfl, HR8, HL2⟩
            case measure => exact HMe.out

end Go.Proofs.YtfeecoeeiangnaaDoor
