/-
  ship.Search.
-/
import Derived.Test.YtjcegmbfipjdcaaGreatDoorHitSort
import Derived.Test.YtjcegmbfipjdcaaGreatDoorScoreMem
import Derived.Test.YtjcegmbfipjdcaaGreatDoorIdxFault
import Derived.Test.YtjcegmbfipjdcaaGreatDoorWords2
import Derived.Test.YtjcegmbfipjdcaaGreatDoorRowCopy
import Derived.StillTail
import Derived.StillTailTactics
import Derived.Maps.AppendAt
namespace Go.Proofs.YtjcegmbfipjdcaaGreatDoor
open Go.RowKit Go.ChangeShapes Go.WideShapes Go.Deep

/-- the error of a search -/
def seE (D : List DocR) (S : List Int) (T : List TermR) (q : ByteArray) (most : Int) : Int := if idxE D S T ≠ 0 then idxE D S T else if 200 < q.size then 4 else if most < 0 ∨ 50 < most then 2 else 0
theorem seE_idx {D : List DocR} {S : List Int} {T : List TermR} {q : ByteArray} {most v : Int} (h : idxE D S T = v) (hv : ¬ v = 0) : seE D S T q most = v := by rw [seE, if_pos (by rw [h]; exact hv), h]
theorem seE_long {D : List DocR} {S : List Int} {T : List TermR} {q : ByteArray} {most : Int} (h : idxE D S T = 0) (hq : 200 < q.size) : seE D S T q most = 4 := by rw [seE, if_neg (by rw [h]; simp), if_pos hq]
theorem seE_most {D : List DocR} {S : List Int} {T : List TermR} {q : ByteArray} {most : Int} (h : idxE D S T = 0) (hq : q.size ≤ 200) (hm : most < 0 ∨ 50 < most) : seE D S T q most = 2 := by rw [seE, if_neg (by rw [h]; simp), if_neg (by omega), if_pos hm]
theorem seE_ok {D : List DocR} {S : List Int} {T : List TermR} {q : ByteArray} {most : Int} (h : idxE D S T = 0) (hq : q.size ≤ 200) (h0 : 0 ≤ most) (h1 : most ≤ 50) : seE D S T q most = 0 := by rw [seE, if_neg (by rw [h]; simp), if_neg (by omega), if_neg (by omega)]
/-- the stems of the words of a query -/
def stemsQ (q : ByteArray) : List (List UInt8) := (wordsAux q.data.toList []).map stemL
def askB (Q : List (List UInt8)) (t : TermR) : Bool := Q.contains (wordOf t)
/-- the hits, not yet in order -/
def hitsQ (D : List DocR) (S : List Int) (T : List TermR) (q : ByteArray) : List HitV := hitsK D (scoresT D.length S (T.filter (askB (stemsQ q)))) D.length
def SearchPost (N : Nat) (D : List DocR) (S : List Int) (T : List TermR) (q : ByteArray) (most : Int) (w : World) (e : Ending) (w' : World) : Prop :=
  Below N w w' ∧ ((seE D S T q most ≠ 0 ∧ e = .returned (.tuple #[.slice none 0 0, .int .i64 (seE D S T q most)])) ∨
   (seE D S T q most = 0 ∧ ∃ (v : Value) (R : List HitV), R.Perm (hitsQ D S T q) ∧ R.Pairwise HitR ∧ e = .returned (.tuple #[v, .int .i64 0]) ∧ w'.ownsRow N 40 2 v (R.take most.toNat).length (hitsC (R.take most.toNat))))
theorem SearchPost.err {N : Nat} {D : List DocR} {S : List Int} {T : List TermR} {q : ByteArray} {most v : Int} {w w' : World} (h : seE D S T q most = v) (hv : ¬ v = 0) (hb : Below N w w') : SearchPost N D S T q most w (.returned (.tuple #[.slice none 0 0, .int .i64 v])) w' :=
  ⟨hb, Or.inl ⟨by rw [h]; exact hv, by rw [h]⟩⟩
/-- the words met so far, as a map -/
def wantM (L : List (List UInt8)) : List UInt8 → Option Bool := fun s => if L.contains s then some true else none
theorem wantM_snoc (L : List (List UInt8)) (x : List UInt8) : wantM (L ++ [x]) = putF (wantM L) x true := by
  funext s
  unfold wantM putF
  by_cases h : s = x
  · subst h; simp
  · simp [h]
theorem wantM_get (L : List (List UInt8)) (s : List UInt8) : (wantM L s).getD false = L.contains s := by
  unfold wantM
  cases h : L.contains s <;> simp
theorem zero_boolS (w : World) : (zeroValue 4).run Tryz.prog w = .ok (.bool false) w := by kernel_rfl
theorem run_want {L : List (List UInt8)} {W : World} {b n : Nat} {s : ByteArray} {v : Bool} (h : BMap Tryz.prog 9 4 W b n (wantM L)) (hs : s.size ≤ maxLen) (hv : L.contains s.data.toList = v) : (Instr.lookup 68 (.map (some b)) (.string s) false).run Tryz.prog W = .ok (.bool v) W := by
  rw [bmap_look h Tryz.underlying9 Tryz.underlying4 Tryz.underlying68 hs (zero_boolS W), wantM_get, hv]

theorem own_low {w : World} {B B' : Nat} {e : TypeId} {K n : Nat} {v : Value} {xs : List Value} (h : w.ownsRow B' e K v n xs) (hB : B ≤ B') : w.ownsRow B e K v n xs := by
  obtain ⟨h1, h2⟩ := h
  rcases h2 with h2 | ⟨g, cap, cur, h3, h4, h5⟩
  · exact ⟨h1, Or.inl h2⟩
  · exact ⟨h1, Or.inr ⟨g, cap, cur, h3, Nat.le_trans hB h4, h5⟩⟩
theorem hitsC_take : ∀ (L : List HitV) (k : Nat), (hitsC L).take (k * 2) = hitsC (L.take k)
  | [], k => by simp [hitsC]
  | x :: r, 0 => by simp [hitsC]
  | x :: r, k + 1 => by
    have ih := hitsC_take r k
    rw [show hitsC (x :: r) = .string x.addr :: .int .i64 x.score :: hitsC r from rfl, show (k + 1) * 2 = k * 2 + 1 + 1 by omega, List.take_succ_cons, List.take_succ_cons, ih, List.take_succ_cons]
    rfl
theorem SearchPost.hits {N N' : Nat} {D : List DocR} {S : List Int} {T : List TermR} {q : ByteArray} {mo n kk : Nat} {w w' : World} {A7 : Option Addr} {c7 : Nat} {Hs R : List HitV} (hq : hitsQ D S T q = Hs) (he : seE D S T q (mo : Int) = 0) (hp : R.Perm Hs) (hs : R.Pairwise HitR) (hl : Hs.length = n) (hk : kk = min mo n) (hN : N ≤ N')
    (ho : w'.ownsRow N' 40 2 (.slice A7 kk c7) kk ((hitsC R).take (kk * 2))) (hb : Below N w w') : SearchPost N D S T q (mo : Int) w (.returned (.tuple #[.slice A7 kk c7, .int .i64 0])) w' := by
  refine ⟨hb, Or.inr ⟨he, _, R, by rw [hq]; exact hp, hs, rfl, ?_⟩⟩
  have hr : R.length = n := by rw [hp.length_eq, hl]
  have e1 : ((mo : Int)).toNat = mo := by simp
  have e2 : (R.take mo).length = kk := by rw [List.length_take, hr, hk]
  have e3 : R.take kk = R.take mo := by
    rw [hk, ← hr, ← List.take_take, List.take_length]
  rw [e1, e2, ← e3, ← hitsC_take]
  exact own_low ho hN

theorem turned_keeps {w w' : World} {b : Nat} (h : w.mapTurned w' b) {es : Array MapEntry} {clock : Nat} (hm : w.heap[b]? = some (.map es clock)) : Keeps w w' := fun a v ha => by
  have hb := World.block_lt_of_cell? _ _ ha
  have hne : a.block ≠ b := by intro e; subst e; simp [World.cell?, hm] at ha
  have hk := h.grown.block a.block hb (by intro e; exact hne (Option.some.inj e))
  unfold World.cell? at ha ⊢
  rw [hk]; exact ha

def RHit (da : ByteArray) (v : Int) (W1 : World) (x : Value) (w : World) : Prop := ∃ g : Nat, x = .slice (some ⟨g, 0, none⟩) 1 1 ∧ W1.heap.size ≤ g ∧ CB w g 40 #[.string da, .int .i64 v]
theorem RHit.below {da : ByteArray} {v : Int} {W1 w w' : World} {x : Value} (h : RHit da v W1 x w) (hb : Below w.heap.size w w') : RHit da v W1 x w' := by obtain ⟨g, h1, h2, h3⟩ := h; exact ⟨g, h1, h2, h3.below hb⟩
theorem RHit.cells {g : Nat} {da : ByteArray} {v : Int} {w : World} (h : CB w g 40 #[.string da, .int .i64 v]) : ∀ (j : Nat) (u : Value), [Value.string da, Value.int .i64 v][j]? = some u → w.cell? ⟨g, j, none⟩ = some u := by
  intro j u hu
  have hc := h.c j
  rw [hc]
  simpa using hu
theorem hit_two (da : ByteArray) (v : Int) : ∀ u ∈ [Value.string da, Value.int .i64 v], u.oneCell' = true := by
  intro u hu
  simp only [List.mem_cons, List.not_mem_nil, or_false] at hu
  rcases hu with rfl | rfl <;> rfl
def InvHit (fr : Value → Value → Value → Value → Value → Value → Value → Value → Value → Value → Act) (A9 : Option Addr) (n cc nb b o dl c i : Nat) (da : ByteArray) (v : Int) (W1 : World) (L : Array Bool) (a : Act) (w : World) : Prop :=
  ∃ x0 x1 x2 x3 x4 x5 x6 x7 x8 x9 : Value, a = fr x0 x1 x2 x3 x4 x5 x6 x7 x8 x9 ∧ Below W1.heap.size W1 w ∧ (L.getD 0 false = true → x0 = .slice A9 n cc) ∧ (L.getD 1 false = true → x1 = .pointer (some ⟨nb, 0, none⟩)) ∧ (L.getD 2 false = true → x2 = .slice (some ⟨b, o, none⟩) dl c) ∧ (L.getD 3 false = true → x3 = .int .i64 i) ∧ (L.getD 4 false = true → x4 = .pointer (some ⟨b, o + i * 3, none⟩)) ∧ (L.getD 5 false = true → x5 = .pointer (some ⟨b, o + i * 3, none⟩)) ∧ (L.getD 6 false = true → x6 = .string da) ∧ (L.getD 7 false = true → x7 = .int .i64 v) ∧ (L.getD 8 false = true → x8 = .agg #[.string da, .int .i64 v]) ∧ (L.getD 9 false = true → RHit da v W1 x9 w)
theorem InvHit.start {m : Nat} {fr : Value → Value → Value → Value → Value → Value → Value → Value → Value → Value → Act} {A9 : Option Addr} {n cc nb b o dl c i : Nat} {da : ByteArray} {v : Int} {W1 : World} {a : Act} (x0 x1 x2 x3 x4 x5 x6 x7 x8 x9 : Value) (h : a = fr x0 x1 x2 x3 x4 x5 x6 x7 x8 x9) : InvHit fr A9 n cc nb b o dl c i da v W1 (Array.replicate m false) a W1 :=
  ⟨x0, x1, x2, x3, x4, x5, x6, x7, x8, x9, h, Below.refl _ _, (fun h => by rw [getD_replicate_false] at h; cases h), (fun h => by rw [getD_replicate_false] at h; cases h), (fun h => by rw [getD_replicate_false] at h; cases h), (fun h => by rw [getD_replicate_false] at h; cases h), (fun h => by rw [getD_replicate_false] at h; cases h), (fun h => by rw [getD_replicate_false] at h; cases h), (fun h => by rw [getD_replicate_false] at h; cases h), (fun h => by rw [getD_replicate_false] at h; cases h), (fun h => by rw [getD_replicate_false] at h; cases h), (fun h => by rw [getD_replicate_false] at h; cases h)⟩

set_option maxRecDepth 100000 in
set_option maxHeartbeats 8000000 in
theorem search_q (D : List DocR) (S : List Int) (T : List TermR) (dv sv tv : Value) (q : ByteArray) (most : Int) (w : World) (h : IdxAt w dv sv tv D S T) (hz : ∀ d ∈ D, d.addr.size ≤ 1048576 ∧ d.title.size ≤ 1048576) (hw : ∀ t ∈ T, t.word.size ≤ 1048576) (hlen : (idxT D S T).length ≤ 1073741824) (htab : TabOk w) (hm : MaxAt w) (hq : q.size ≤ 1048576) :
    Calls Tryz.prog 8 #[.agg #[dv, sv, tv], .string q, .int .i64 most] w (SearchPost w.heap.size D S T q most w) := by
  have HI := Lib.hid h
  obtain ⟨⟨A, c, b, o, rfl, hlc1, hc, hA1, hcell1⟩, ⟨A2, c2, b2, o2, rfl, hlc2, hc2, hA2, hcell2⟩, ⟨A3, c3, b3, o3, dvs, mvs, rfl, hlc3, hc3, hA3, hcell3⟩⟩ := h
  unfold maxLen at hc hc2 hc3
  have HA1 := Lib.hid hA1; clear hA1
  have HA2 := Lib.hid hA2; clear hA2
  have HA3 := Lib.hid hA3; clear hA3
  have HC1 := Lib.hid hcell1; clear hcell1
  have HC2 := Lib.hid hcell2; clear hcell2
  have HC3 := Lib.hid hcell3; clear hcell3
  have HZ := Lib.hid hz; clear hz
  have HW := Lib.hid hw; clear hw
  have HLen := Lib.hid hlen; clear hlen
  have HTab := Lib.hid htab; clear htab
  have HM := Lib.hid hm; clear hm
  obtain ⟨fe, hfe⟩ : ∃ fe, idxE D S T = fe := ⟨_, rfl⟩
  have HF := Lib.hid hfe
  clear hfe
  have hmm := @run_makeMap Tryz.prog
  go_enter Tryz.func8, Tryz.ntmps8
  go_wp2_with fail
  obtain ⟨W0, hW0⟩ : ∃ W0, w.alloc (.cells #[.slice A D.length c, .slice A2 S.length c2, .slice A3 T.length c3] 33) = W0 := ⟨_, rfl⟩
  have HX0 := Lib.hid (show CB W0 w.heap.size 33 #[.slice A D.length c, .slice A2 S.length c2, .slice A3 T.length c3] by rw [← hW0]; exact CB.new _ _ _)
  have HB0 := Lib.hid (show Below w.heap.size w W0 by rw [← hW0]; exact (Below.refl _ _).alloc (Nat.le_refl _) _)
  rw [hW0]
  clear hW0
  obtain ⟨nb, hnb⟩ : ∃ nb, w.heap.size = nb := ⟨_, rfl⟩
  rw [hnb] at HX0
  have HNb := Lib.hid hnb
  rw [hnb]
  clear hnb
  refine (indexFault_q D S T _ _ _ W0 (HI.out.keep (Keeps.of_below HB0.out)) HZ.out HW.out HLen.out (HTab.out.keep HB0.out) (HM.out.keep (Keeps.of_below HB0.out))).mono ?_
  rw [HF.out]
  rintro e w1 ⟨rfl, hb⟩
  have HX1 := Lib.hid (HX0.out.below hb); have HB1 := Lib.hid (show Below nb w w1 by rw [← HNb.out]; exact HB0.out.trans (hb.mono HB0.out.size)); clear hb; have bx0 := HX1.out.c 0; have bx1 := HX1.out.c 1; have bx2 := HX1.out.c 2; have bsh := HX1.out.sh
  have hNw1 : nb < w1.heap.size := HX1.out.lt
  by_cases hz : fe = 0
  case neg =>
    have HEv := Lib.hid (seE_idx (q := q) (most := most) HF.out hz)
    go_wp2_with fail
    go_ret2
    exact SearchPost.err HEv.out hz (by rw [HNb.out]; exact HB1.out)
  subst hz
  by_cases hq2 : 200 < q.size
  · have HEv := Lib.hid (seE_long (most := most) HF.out hq2)
    go_wp2_with fail
    go_ret2
    exact SearchPost.err HEv.out (by decide) (by rw [HNb.out]; exact HB1.out)
  by_cases hm0 : most < 0
  · have HEv := Lib.hid (seE_most (q := q) (most := most) HF.out (by omega) (Or.inl hm0))
    go_wp2_with fail
    go_ret2
    exact SearchPost.err HEv.out (by decide) (by rw [HNb.out]; exact HB1.out)
  by_cases hm1 : 50 < most
  · have HEv := Lib.hid (seE_most (q := q) (most := most) HF.out (by omega) (Or.inr hm1))
    go_wp2_with fail
    go_ret2
    exact SearchPost.err HEv.out (by decide) (by rw [HNb.out]; exact HB1.out)
  have HEv := Lib.hid (seE_ok (q := q) (most := most) HF.out (by omega) (by omega) (by omega : most ≤ 50))
  go_wp2_with fail
  have hbm : w1.heap.size < (w1.alloc (.map #[] 0)).heap.size := by simp
  obtain ⟨bm, hbm0⟩ : ∃ bm, w1.heap.size = bm := ⟨_, rfl⟩
  have HM1 := Lib.hid (show BMap Tryz.prog 9 4 (w1.alloc (.map #[] 0)) bm 0 (wantM []) by rw [← hbm0]; exact mapR_made w1)
  obtain ⟨W2, hW2⟩ : ∃ W2, w1.alloc (.map #[] 0) = W2 := ⟨_, rfl⟩
  have HX2 := Lib.hid (show CB W2 nb 33 #[.slice A D.length c, .slice A2 S.length c2, .slice A3 T.length c3] by rw [← hW2]; exact HX1.out.alloc _)
  have HB2 := Lib.hid (show Below nb w W2 by rw [← hW2]; exact HB1.out.alloc (by omega) _)
  rw [hbm0] at hNw1 hbm
  rw [hW2] at hbm HM1
  rw [hW2, hbm0]
  obtain ⟨L, hL⟩ : ∃ L, wordsAux q.data.toList [] = L := ⟨_, rfl⟩
  have HLw := Lib.hid (show ∀ x ∈ L, x.length ≤ 30 by rw [← hL]; exact word_le _ _)
  have hLn : L.length ≤ q.size + 1 := by rw [← hL]; have := words_many q.data.toList []; rw [size_toList] at this; exact this
  have hcall := words_any q W2 hq
  rw [hL] at hcall
  have HL := Lib.hid hL
  clear hbm0 hW2 hL bx0 bx1 bx2 bsh HX1
  refine hcall.mono ?_
  rintro e w3 ⟨v, rfl, ho, hb⟩
  obtain ⟨Aw, cw, bw, ow, rfl, hlw, hcw, hAw, hcellw⟩ := ho
  have hsl : (strCells L).length = L.length := by simp [strCells]
  rw [hsl] at hlw
  rw [hsl]
  unfold maxLen at hcw
  have HAw := Lib.hid hAw
  have HCw := Lib.hid hcellw
  have HX3 := Lib.hid (HX2.out.below hb)
  have HB3 := Lib.hid (HB2.out.trans (hb.mono (Nat.le_of_lt HX2.out.lt)))
  have HM3 := Lib.hid (HM1.out.below hb)
  have hs3 : bm < w3.heap.size := by have := hb.size; omega
  clear hb hAw hcellw hbm HX2 HB2 HM1 hcall
  obtain ⟨N3, hN3⟩ : ∃ n, w3.heap.size = n := ⟨_, rfl⟩
  have HN3 := Lib.hid hN3
  rw [hN3] at hs3
  clear hN3
  go_wp2_with fail
  go_loopw [40] (fun t40 wr => ∃ j : Nat, j ≤ L.length ∧ t40 = .int .i64 j ∧ Hid (BMap Tryz.prog 9 4 wr bm j (wantM ((L.take j).map stemL))) ∧ Hid (CB wr nb 33 #[.slice A D.length c, .slice A2 S.length c2, .slice A3 T.length c3]) ∧ Hid (Below nb w wr) ∧ Hid (Keeps w3 wr)) (fun t _ => L.length - (intOf t).toNat)
  case atStart => exact ⟨0, Nat.zero_le _, rfl, HM3, HX3, HB3, Lib.hid (Keeps.refl _)⟩
  case round =>
    clear HM3 HX3 HB3
    obtain ⟨j, hj, rfl, HM, HX, HB, HK⟩ := hrel
    by_cases hlt : j < L.length
    · obtain ⟨x, hx⟩ : ∃ x, L[j]? = some x := ⟨_, List.getElem?_eq_getElem hlt⟩
      obtain rfl : Aw = some ⟨bw, ow, none⟩ := HAw.out (by intro h0; rw [← List.length_eq_zero_iff, hsl] at h0; omega)
      have kx := HK.out _ _ (HCw.out j (.string ⟨x.toArray⟩) (by simp [strCells, hx]))
      have hxl := HLw.out x (List.mem_of_getElem? hx)
      have hxs : (⟨x.toArray⟩ : ByteArray).size ≤ 1048576 := by show x.toArray.size ≤ _; simp; omega
      obtain ⟨xs, hxs0⟩ : ∃ xs : ByteArray, (⟨x.toArray⟩ : ByteArray) = xs := ⟨_, rfl⟩
      rw [hxs0] at kx hxs
      have hst := shipStem_any xs wr hxs
      obtain ⟨y, hy⟩ : ∃ y : ByteArray, (⟨(stemL xs.data.toList).toArray⟩ : ByteArray) = y := ⟨_, rfl⟩
      have hys : y.size ≤ 1048576 := by rw [← hy, ← hxs0]; show (stemL x.toArray.toList).toArray.size ≤ _; simp; have := stem_le x; omega
      have HY := Lib.hid (show (L.take (j + 1)).map stemL = (L.take j).map stemL ++ [y.data.toList] by rw [List.take_add_one, hx, ← hy, ← hxs0]; simp)
      rw [hy] at hst
      have HST := Lib.hid hst
      clear hst hy hxs0 hx
      go_wp2_with (first
        | (go_at_call 30; go_must (refine HST.out.mono ?_); rintro e w4 ⟨rfl, hb4⟩; have HB4 := Lib.hid hb4; clear hb4)
        | (at_mapUpdate; go_must (refine wpList_storeR rfl _ _ _ 68 rfl Tryz.underlying9 Tryz.underlying68 (HM.out.below HB4.out) (by unfold maxLen; omega) rfl y (by unfold maxLen; omega) _ true rfl rfl (plainElem_bool Tryz.underlying4 true) ?_); intro w5 hm5 ht5; have HM5 := Lib.hid hm5; have HT5 := Lib.hid ht5; clear hm5 ht5))
      go_roundw
      case rel =>
        have hbw := HB4.out.size
        have hlm := HM.out.lt
        have hKb : Keeps wr w5 := (Keeps.of_below HB4.out).trans (by obtain ⟨es, ck, hmb⟩ := (HM.out.below HB4.out).block; exact turned_keeps HT5.out hmb)
        refine ⟨j + 1, by omega, by go_num, ?_, ?_, ?_, Lib.hid (HK.out.trans hKb)⟩
        · rw [HY.out, wantM_snoc]; exact Lib.hid HM5.out
        · exact Lib.hid ((HX.out.below HB4.out).other HT5.out.grown (by intro e; have := Option.some.inj e; omega))
        · exact Lib.hid ((HB.out.trans (HB4.out.mono (by omega))).trans (turned_below HT5.out (by omega) (by omega)))
      case measure => simp [intOf]; omega
    · obtain rfl : j = L.length := by omega
      rw [List.take_length] at HM
      have bx0 := HX.out.c 0
      have bx1 := HX.out.c 1
      have bx2 := HX.out.c 2
      have bsh := HX.out.sh
      obtain ⟨hfs, hD⟩ := front_sizes (idxE_parts HF.out).1
      have HFs := Lib.hid hfs; clear hfs
      have hT4 := idx_terms_le HF.out
      obtain ⟨i0, hi, hz0, hz1, hz2⟩ := info_parts info_int
      have hnbr : nb ≤ wr.heap.size := Nat.le_of_lt HX.out.lt
      go_wp2_with (at_make; go_must (refine wpList_make_full _ rfl _ _ 30 rfl nb 3 i0 (.int .i64 0) 1 Tryz.underlying30 hi hz0 hz1 .i64 .i64 _ _ D.length rfl rfl rfl rfl (by rw [hz2]; omega) (by unfold maxLen; omega) hnbr ?_); intro w6 own6 hg6; have HO6 := Lib.hid own6; have HG6 := Lib.hid hg6; clear own6 hg6; have HX6 := Lib.hid (HX.out.other HG6.out (by simp)); have cx0 := HX6.out.c 0; have cx1 := HX6.out.c 1; have cx2 := HX6.out.c 2; have csh := HX6.out.sh)
      obtain ⟨g, hg⟩ : ∃ g, wr.heap.size = g := ⟨_, rfl⟩
      have hgn : nb < g := by rw [← hg]; exact HX.out.lt
      have hgb : bm < g := by rw [← hg]; exact HM.out.lt
      have HXK := Lib.hid (show XK g (fun W => BMap Tryz.prog 9 4 W bm L.length (wantM (L.map stemL))) from ⟨fun w1 w2 h hb => MapR.below h hb, fun w1 i v h => MapR.setCell h (by show bm ≠ g; omega) v⟩)
      have HSW6 := Lib.hid (show SW w nb g (.slice A D.length c) (.slice A2 S.length c2) (.slice A3 T.length c3) (fun W => BMap Tryz.prog 9 4 W bm L.length (wantM (L.map stemL))) (List.replicate D.length 0) w6 from ⟨HB.out.grown HG6.out (by omega) (fun k hk => by cases hk), HX6.out, by
        have := own_blockI (hg ▸ HO6.out)
        rw [Nat.mul_one, show (madeCells (Value.int .i64 0).cells D.length).toList = (scC (List.replicate D.length 0)).toList from by rw [← scC_zero]; rfl] at this
        exact this, HM.out.kept HG6.out (by simp), hgn⟩)
      have HOS6 := Lib.hid (OutSc.zero D.length S)
      rw [hg]
      clear bx0 bx1 bx2 bsh cx0 cx1 cx2 csh hi hz0 hz1 hz2 HX6 HX HB HM hg hnbr
      go_loopw [55] (fun t55 wv => ∃ (j : Nat) (sc : List Int), j ≤ T.length ∧ t55 = .int .i64 j ∧ Hid (OutSc D.length S ((T.take j).filter (askB (L.map stemL))) sc) ∧ Hid (SW w nb g (.slice A D.length c) (.slice A2 S.length c2) (.slice A3 T.length c3) (fun W => BMap Tryz.prog 9 4 W bm L.length (wantM (L.map stemL))) sc wv)) (fun t _ => T.length - (intOf t).toNat)
      case atStart => exact ⟨0, _, Nat.zero_le _, rfl, HOS6, HSW6⟩
      case round =>
        clear HOS6 HSW6
        obtain ⟨j, sc, hj, rfl, HOS, HSW⟩ := hrel
        by_cases hlt : j < T.length
        · have hA3' := HA3.out (by rintro rfl; simp at hlt)
          subst hA3'
          obtain ⟨⟨word, ds, ms⟩, hn⟩ : ∃ n, T[j]? = some n := ⟨_, List.getElem?_eq_getElem hlt⟩
          have HTe := Lib.hid (idx_term HF.out hn)
          have hwz := HW.out _ (List.mem_of_getElem? hn)
          simp only at hwz
          obtain ⟨q0, q1, q2, qd, qm⟩ := (HC3.out j _ hn).keep (Keeps.of_below (by rw [HNb.out]; exact HSW.out.below))
          obtain ⟨dq, hdq⟩ : ∃ dq, dvs j = dq := ⟨_, rfl⟩
          obtain ⟨mq, hmq⟩ : ∃ mq, mvs j = mq := ⟨_, rfl⟩
          rw [hdq] at q1 qd
          rw [hmq] at q2 qm
          simp only at q0 q1 q2 qd qm
          have QD := Lib.hid (hdq ▸ (HC3.out j _ hn).d)
          have QM := Lib.hid (hmq ▸ (HC3.out j _ hn).m)
          clear qd qm
          obtain ⟨Ad, cd, bd, od, e1, hlcd, hcd, hAd, hcelld⟩ := id QD.out
          obtain ⟨Am, cm, bq, oq, e2, hlcm, hcm, hAm, hcellm⟩ := id QM.out
          simp only at e1 e2 hlcd hlcm hAd hAm hcelld hcellm
          unfold maxLen at hcd hcm
          have HCd := Lib.hid hcelld; clear hcelld
          have HCm := Lib.hid hcellm; clear hcellm
          have HAd := Lib.hid hAd; clear hAd
          have HAm := Lib.hid hAm; clear hAm
          have HN := Lib.hid hn
          clear hn hdq hmq
          subst e1 e2
          obtain ⟨W1, hW1⟩ : ∃ W1, wr.alloc (.cells #[.string word, .slice Ad ds.length cd, .slice Am ms.length cm] 71) = W1 := ⟨_, rfl⟩
          have HT1 := Lib.hid (show CB W1 wr.heap.size 71 #[.string word, .slice Ad ds.length cd, .slice Am ms.length cm] by rw [← hW1]; exact CB.new wr _ _)
          have HS1 := Lib.hid (show SW w nb g (.slice A D.length c) (.slice A2 S.length c2) (.slice (some ⟨b3, o3, none⟩) T.length c3) (fun W => BMap Tryz.prog 9 4 W bm L.length (wantM (L.map stemL))) sc W1 by rw [← hW1]; exact HSW.out.alloc HXK.out _)
          have HgT := Lib.hid (show g < wr.heap.size from HSW.out.sc.lt)
          have hnt := HT1.out.lt
          obtain ⟨nt, hnt0⟩ : ∃ nt, wr.heap.size = nt := ⟨_, rfl⟩
          rw [hnt0] at HT1 HgT hnt
          have HW1 := Lib.hid hW1
          have HNt := Lib.hid hnt0
          have HGo := Lib.hid (show (T.take (j + 1)).filter (askB (L.map stemL)) = (T.take j).filter (askB (L.map stemL)) ++ (if askB (L.map stemL) ⟨word, ds, ms⟩ = true then [⟨word, ds, ms⟩] else []) by
            rw [List.take_add_one, HN.out, List.filter_append]
            simp [List.filter_cons])
          clear hW1 hnt0
          cases hask : askB (L.map stemL) ⟨word, ds, ms⟩ with
          | false =>
            have HRun := Lib.hid (run_want HS1.out.x (by unfold maxLen; omega) (show (L.map stemL).contains word.data.toList = false from hask))
            rw [hask] at HGo
            clear hask
            go_wp2_with (at_lookup; rw [HW1.out]; go_must (refine wpList_lookR rfl _ _ 68 false rfl word _ rfl rfl HRun.out ?_))
            go_roundw
            case rel => exact ⟨j + 1, sc, by omega, by go_num, by rw [HGo.out]; simpa using HOS, HS1⟩
            case measure => simp [intOf]; omega
          | true =>
            have HRun := Lib.hid (run_want HS1.out.x (by unfold maxLen; omega) (show (L.map stemL).contains word.data.toList = true from hask))
            rw [hask, if_pos rfl] at HGo
            clear hask
            obtain ⟨hdl0, hdlm⟩ := term_lens HTe.out
            have hdl9 := Nat.le_trans (term_short HTe.out) hD
            simp only at hdl0 hdlm hdl9
            have HLm := Lib.hid hdlm; clear hdlm
            have bx0 := HS1.out.box.c 0
            have bx1 := HS1.out.box.c 1
            have bx2 := HS1.out.box.c 2
            have bsh := HS1.out.box.sh
            have tx0 := HT1.out.c 0
            have tx1 := HT1.out.c 1
            have tx2 := HT1.out.c 2
            have tsh := HT1.out.sh
            obtain ⟨M0, hM0⟩ : ∃ M0, D.length / ds.length = M0 := ⟨_, rfl⟩
            have hM9 : M0 ≤ 120 := by rw [← hM0]; exact Nat.le_trans (Nat.div_le_self _ _) hD
            have hdv : (D.length : Int).tdiv (ds.length : Int) = (M0 : Int) := by rw [← hM0, Int.tdiv_eq_ediv_of_nonneg (by omega)]; rfl
            have hdz : ((ds.length : Int) == 0) = false := by rw [beq_eq_false_iff_ne]; omega
            have hdn : ¬ (ds.length : Int) = 0 := by omega
            have hwM : IntKind.i64.wrap (M0 : Int) = (M0 : Int) := IntWalk.i64_in _ (by omega)
            have HB9 := Lib.hid (show bitsN M0 ≤ 7 from bitsN_small 7 M0 (by omega))
            have HM0 := Lib.hid hM0
            clear hM0
            go_wp2_with (at_lookup; rw [HW1.out, HNt.out]; go_must (refine wpList_lookR rfl _ _ 68 false rfl word _ rfl rfl HRun.out ?_))
            clear HRun q0 q1 q2 bx0 bx1 bx2 bsh tx0 tx1 tx2 tsh hdv hdz hdn hwM
            go_loopw [15, 16] (fun t15 t16 wv => ∃ m k : Nat, m ≤ M0 ∧ t16 = .int .i64 m ∧ t15 = .int .i64 k ∧ Hid (k + bitsN m = bitsN M0) ∧ Hid (SW w nb g (.slice A D.length c) (.slice A2 S.length c2) (.slice (some ⟨b3, o3, none⟩) T.length c3) (fun W => BMap Tryz.prog 9 4 W bm L.length (wantM (L.map stemL))) sc wv) ∧ Hid (CB wv nt 71 #[.string word, .slice Ad ds.length cd, .slice Am ms.length cm])) (fun _ t _ => (intOf t).toNat)
            case atStart => exact ⟨M0, 0, Nat.le_refl _, rfl, rfl, Lib.hid (by simp), HS1, HT1⟩
            case round =>
              clear HS1 HT1 HW1 HNt HSW
              obtain ⟨m, k, hm9, rfl, rfl, HK9, HSv, HTv⟩ := hrel
              by_cases hp : 0 < m
              · have hp1 : (0 : Int) < (m : Int) := by omega
                have hh := half_intB m
                have HB8 := Lib.hid (bitsN_eq m hp)
                have hk9 : (k : Int) ≤ 1000 := by have := HK9.out; have := HB9.out; omega
                have hw2 : IntKind.i64.wrap ((m / 2 : Nat) : Int) = ((m / 2 : Nat) : Int) := IntWalk.i64_in _ (by omega)
                go_wp2_with fail
                go_roundw
                case rel => exact ⟨m / 2, k + 1, by omega, by go_num, by go_num, Lib.hid (by have := HK9.out; have := HB8.out; omega), HSv, HTv⟩
                case measure => simp [intOf]; omega
              · have HK8 := Lib.hid (show k = bitsN M0 by have h8 := HK9.out; rw [show m = 0 by omega] at h8; simpa [bitsN] using h8)
                have hp1 : ¬ (0 : Int) < (m : Int) := by omega
                have hk7 : k ≤ 7 := by have := HK8.out; have := HB9.out; omega
                have tx0 := HTv.out.c 0
                have tx1 := HTv.out.c 1
                have tx2 := HTv.out.c 2
                have tsh := HTv.out.sh
                clear HK9
                obtain ⟨Lt, hLt⟩ : ∃ Lt, (T.take j).filter (askB (L.map stemL)) = Lt := ⟨_, rfl⟩
                have hLt9 : Lt.length ≤ 400000 := by rw [← hLt]; have := List.length_filter_le (askB (L.map stemL)) (T.take j); rw [List.length_take] at this; omega
                have HLt := Lib.hid hLt
                rw [hLt] at HOS
                clear hLt
                go_wp2_with fail
                clear tx0 tx1 tx2 tsh
                go_loopw [80] (fun t80 wv => ∃ (i : Nat) (sc2 : List Int), i ≤ ds.length ∧ t80 = .int .i64 i ∧ Hid (InSc D.length S Lt ⟨word, ds, ms⟩ i sc2) ∧ Hid (SW w nb g (.slice A D.length c) (.slice A2 S.length c2) (.slice (some ⟨b3, o3, none⟩) T.length c3) (fun W => BMap Tryz.prog 9 4 W bm L.length (wantM (L.map stemL))) sc2 wv) ∧ Hid (CB wv nt 71 #[.string word, .slice Ad ds.length cd, .slice Am ms.length cm])) (fun t _ => ds.length - (intOf t).toNat)
                case atStart => exact ⟨0, _, Nat.zero_le _, rfl, HOS.out.start _, HSv, HTv⟩
                case round =>
                  clear HSv HTv HOS
                  obtain ⟨i, sc2, hi9, rfl, HIS, HSx, HTx⟩ := hrel
                  by_cases hlt2 : i < ds.length
                  · obtain ⟨d, hd⟩ : ∃ d, ds[i]? = some d := ⟨_, List.getElem?_eq_getElem hlt2⟩
                    obtain ⟨m9, hm9⟩ : ∃ m, ms[i]? = some m := ⟨_, List.getElem?_eq_getElem (by rw [← HLm.out]; exact hlt2)⟩
                    obtain ⟨hd0, hd1, hmm1, hmm2⟩ := term_post HTe.out hd hm9
                    obtain ⟨dn, rfl⟩ : ∃ dn : Nat, d = (dn : Int) := ⟨d.toNat, by omega⟩
                    obtain ⟨z, hz9⟩ : ∃ z, S[dn]? = some z := ⟨_, List.getElem?_eq_getElem (by rw [HFs.out]; omega)⟩
                    obtain ⟨v, hv9⟩ : ∃ v, sc2[dn]? = some v := ⟨_, List.getElem?_eq_getElem (by rw [HIS.out.len]; omega)⟩
                    obtain ⟨hz0, hz1⟩ := idx_size HF.out hz9
                    obtain ⟨hv0, hv1⟩ := HIS.out.small hLt9 (by omega) hv9
                    have HKp := Lib.hid (Keeps.of_below (w := w) (by rw [HNb.out]; exact HSx.out.below))
                    obtain rfl := HAd.out (by intro h0; subst h0; simp at hlt2)
                    obtain rfl := HAm.out (by intro h0; subst h0; cases hm9)
                    obtain rfl := HA2.out (by intro h0; subst h0; cases hz9)
                    have kd := HKp.out _ _ (HCd.out i _ hd).1
                    have km := HKp.out _ _ (HCm.out i _ hm9).1
                    have kz := HKp.out _ _ (HC2.out dn _ hz9).1
                    have kv := (HSx.out.sc.c dn).trans (scC_get hv9)
                    have kf := HSx.out.sc.f dn
                    obtain ⟨hP0, hP1, hX0, hX1⟩ := add_val (m := m9) (W := (k : Int)) (z := z) ⟨hmm1, hmm2⟩ (by omega) ⟨hz0, hz1⟩
                    have HNx := Lib.hid (fun h1 h2 => HIS.out.next (dn := dn) (m := m9) (z := z) (v := v) hd hm9 hz9 hv9 h1 h2)
                    rw [HM0.out, ← HK8.out] at HNx
                    obtain ⟨P, hP⟩ : ∃ P, m9 * 1000 * (k : Int) = P := ⟨_, rfl⟩
                    rw [hP] at hP0 hP1 hX0 hX1 HNx
                    obtain ⟨Y, hY⟩ : ∃ Y, z + 10 = Y := ⟨_, rfl⟩
                    have hY0 : 10 ≤ Y := by omega
                    rw [hY] at hX0 hX1 HNx
                    obtain ⟨X, hX⟩ : ∃ X, P.tdiv Y = X := ⟨_, rfl⟩
                    rw [hX] at hX0 hX1 HNx
                    have HNx2 := Lib.hid (HNx.out hX0 hX1)
                    have e1 : IntKind.i64.wrap (m9 * 1000) = m9 * 1000 := IntWalk.i64_in _ (by omega)
                    have e2 : IntKind.i64.wrap P = P := IntWalk.i64_in _ (by omega)
                    have e3 : IntKind.i64.wrap Y = Y := IntWalk.i64_in _ (by omega)
                    have e4 : (Y == 0) = false := by rw [beq_eq_false_iff_ne]; omega
                    have e4b : ¬ Y = 0 := by omega
                    have e5 : IntKind.i64.wrap X = X := IntWalk.i64_in _ (by omega)
                    have e6 : IntKind.i64.wrap (v + X) = v + X := IntWalk.i64_in _ (by omega)
                    have bx0 := HSx.out.box.c 0
                    have bx1 := HSx.out.box.c 1
                    have bx2 := HSx.out.box.c 2
                    have bsh := HSx.out.box.sh
                    have tx0 := HTx.out.c 0
                    have tx1 := HTx.out.c 1
                    have tx2 := HTx.out.c 2
                    have tsh := HTx.out.sh
                    have kf2 : (World.drew wr).frozen? ⟨g, dn, none⟩ = false := kf
                    have hdi : (dn : Int) < (D.length : Int) := by omega
                    have hdi2 : (dn : Int) < (S.length : Int) := by rw [HFs.out]; omega
                    have hii : (i : Int) < (ms.length : Int) := by rw [← HLm.out]; omega
                    have HSd := Lib.hid (HSx.out.drew HXK.out)
                    have HTd := Lib.hid (show CB (World.drew wr) nt 71 #[.string word, .slice (some ⟨bd, od, none⟩) ds.length cd, .slice (some ⟨bq, oq, none⟩) ms.length cm] from HTx.out)
                    clear hd hm9 hz9 hv9 HNx
                    go_wp2_with fail
                    go_still_tail 21, (by kernel_rfl)
                    change wpList _ _ _ _ _ (World.drew wr)
                    go_wp2_with fail
                    go_roundw
                    case rel => exact ⟨i + 1, _, by omega, by go_num, HNx2, Lib.hid (HSx.out.put HXK.out dn _ |>.drew HXK.out), Lib.hid ((HTx.out.other (grown_setB _ _ _ _) (by have := HgT.out; intro e; have := Option.some.inj e; omega)).drew)⟩
                    case measure => simp [intOf]; omega
                  · obtain rfl : i = ds.length := by omega
                    go_wp2_with fail
                    go_roundw
                    case rel => exact ⟨j + 1, sc2, by omega, by go_num, by rw [HGo.out, HLt.out]; exact Lib.hid (HIS.out.done hdl9), HSx⟩
                    case measure => simp [intOf]; omega
        · obtain rfl : j = T.length := by omega
          rw [List.take_length] at HOS
          have hscl := HOS.out.len
          have HScl := Lib.hid hscl; clear hscl
          have HSBx := Lib.hid HSW.out.box
          have HSSc := Lib.hid HSW.out.sc
          have HSBl := Lib.hid HSW.out.below
          have HRi := Lib.hid (idx_drise HF.out)
          obtain ⟨go, hgo⟩ : ∃ go, wr.heap.size = go := ⟨_, rfl⟩
          have hggo : g < go := by rw [← hgo]; exact HSW.out.sc.lt
          obtain ⟨W5, hW5⟩ : ∃ W5, wr.alloc (.cells #[.slice none 0 0] 34) = W5 := ⟨_, rfl⟩
          have HO5 := Lib.hid (show CB W5 go 34 #[.slice none 0 0] by rw [← hW5, ← hgo]; exact CB.new wr _ _)
          have HX5 := Lib.hid (show CB W5 nb 33 #[.slice A D.length c, .slice A2 S.length c2, .slice A3 T.length c3] by rw [← hW5]; exact HSBx.out.alloc _)
          have HS5 := Lib.hid (show CB W5 g 3 (scC sc) by rw [← hW5]; exact HSSc.out.alloc _)
          have HB5 := Lib.hid (show Below nb w W5 by rw [← hW5]; exact HSBl.out.alloc (by omega) _)
          have hs5 : go < W5.heap.size := HO5.out.lt
          have HW5 := Lib.hid hW5
          have HGo5 := Lib.hid hgo
          clear hW5 hgo HSBx HSSc HSBl HSW
          go_wp2_with fail
          rw [HW5.out, HGo5.out]
          go_loopw [110] (fun t110 wv => ∃ (i n cc : Nat) (A9 : Option Addr), i ≤ D.length ∧ t110 = .int .i64 i ∧ n ≤ i ∧ Hid ((hitsK D sc i).length = n) ∧ Hid (wv.ownsRow (go + 1) 40 2 (.slice A9 n cc) n (hitsC (hitsK D sc i))) ∧ Hid (CB wv go 34 #[.slice A9 n cc]) ∧ Hid (CB wv nb 33 #[.slice A D.length c, .slice A2 S.length c2, .slice A3 T.length c3]) ∧ Hid (CB wv g 3 (scC sc)) ∧ Hid (Below nb w wv) ∧ go < wv.heap.size) (fun t _ => D.length - (intOf t).toNat)
          case atStart => exact ⟨0, 0, 0, none, Nat.zero_le _, rfl, Nat.le_refl _, Lib.hid rfl, Lib.hid (World.ownsRow_nil _ _ _ _), HO5, HX5, HS5, HB5, hs5⟩
          case round =>
            clear HO5 HX5 HS5 HB5 hs5 HW5 HGo5
            obtain ⟨i, n, cc, A9, hi9, rfl, hni, HLn, HOw, HCo, HCx, HCs, HBv, hsv⟩ := hrel
            by_cases hlt3 : i < D.length
            · obtain ⟨d, hd⟩ : ∃ d, D[i]? = some d := ⟨_, List.getElem?_eq_getElem hlt3⟩
              obtain ⟨v, hv9⟩ : ∃ v, sc[i]? = some v := ⟨_, List.getElem?_eq_getElem (by rw [HScl.out]; exact hlt3)⟩
              have kv := (HCs.out.c i).trans (scC_get hv9)
              by_cases hv0 : 0 < v
              · have hii : (i : Int) < (D.length : Int) := by omega
                obtain rfl := HA1.out (by intro h0; subst h0; cases hd)
                have kd := ((HC1.out i d hd).keep (Keeps.of_below (by rw [HNb.out]; exact HBv.out))).c0
                have bx0 := HCx.out.c 0
                have bsh := HCx.out.sh
                have ox0 := HCo.out.c 0
                have osh := HCo.out.sh
                go_wp2_with fail
                refine wp_region_any (by kernel_rfl) ?_
                change wpAny _ _ _ _ _ _ _ wr.drew
                obtain ⟨W3, hW3⟩ : ∃ W3, wr.drew = W3 := ⟨_, rfl⟩
                have HCo3 := Lib.hid (show CB W3 go 34 #[.slice A9 n cc] by rw [← hW3]; exact HCo.out.drew)
                have HCx3 := Lib.hid (show CB W3 nb 33 #[.slice (some ⟨b, o, none⟩) D.length c, .slice A2 S.length c2, .slice A3 T.length c3] by rw [← hW3]; exact HCx.out.drew)
                have HCs3 := Lib.hid (show CB W3 g 3 (scC sc) by rw [← hW3]; exact HCs.out.drew)
                have KD3 := Lib.hid (show W3.cell? ⟨b, o + i * 3, none⟩ = some (.string d.addr) by rw [← hW3]; exact kd)
                have HOw3 := Lib.hid (show W3.ownsRow (go + 1) 40 2 (.slice A9 n cc) n (hitsC (hitsK D sc i)) by rw [← hW3]; exact own_drew HOw.out)
                have HBv3 := Lib.hid (show Below nb w W3 by rw [← hW3]; exact HBv.out.drew)
                have hsv3 : go < W3.heap.size := by rw [← hW3]; exact hsv
                have HEq := Lib.hid (show hitsK D sc (i + 1) = hitsK D sc i ++ [⟨d.addr, v⟩] by rw [hitsK_succ, List.getD_eq_getElem?_getD, hv9]; simp [hv0, hd])
                obtain ⟨da, hda⟩ : ∃ da, d.addr = da := ⟨_, rfl⟩
                rw [hda] at KD3 HEq
                rw [hW3]
                clear hW3 kd kv bx0 bsh ox0 osh hd hv9 hda HCo HCx HCs HOw HBv
                refine wpAny_inv [0, 1, 2, 3, 4, 5, 6, 7, 8, 9] (InvHit (fun v117 v118 v119 v120 v121 v122 v123 v124 v125 v126 => ⟨#[.agg #[.slice (some ⟨b, o, none⟩) D.length c, .slice A2 S.length c2, .slice A3 T.length c3], .string q, .int .i64 most, .pointer (some ⟨nb, 0, none⟩), undef, undef, .slice none 0 0, .int .i64 0, .int .i64 0, .map (some bm), undef, u11, .slice (some ⟨g, 0, none⟩) D.length D.length, undef, u14, u15, u16, u17, u18, .pointer (some ⟨go, 0, none⟩), .int .i64 ↑i, .int .i64 v, .agg #[.slice (some ⟨b, o, none⟩) D.length c, .slice A2 S.length c2, .slice A3 T.length c3], .int .i64 0, .int .i64 0, .bool false, undef, .string q, .int .i64 ↑q.size, .bool (decide ((200 : Int) < (q.size : Int))), .int .i64 most, .bool (decide (most < (0 : Int))), .bool (decide (most < (0 : Int))), .int .i64 most, .bool (decide ((50 : Int) < most)), .bool (decide (most < (0 : Int)) || decide ((50 : Int) < most)), .map (some bm), .string q, .slice Aw L.length cw, .int .i64 ↑L.length, .int .i64 ↑L.length, .bool false, u42, u43, u44, u45, u46, u47, .pointer (some ⟨nb, 0, none⟩), .slice (some ⟨b, o, none⟩) D.length c, .int .i64 ↑D.length, .slice (some ⟨g, 0, none⟩) D.length D.length, .pointer (some ⟨nb, 2, none⟩), .slice A3 T.length c3, .int .i64 ↑T.length, .int .i64 ↑T.length, .bool false, u57, u58, u59, u60, u61, u62, u63, u64, u65, u66, u67, u68, u69, u70, u71, u72, u73, u74, u75, u76, u77, u78, u79, u80, u81, u82, u83, u84, u85, u86, u87, u88, u89, u90, u91, u92, u93, u94, u95, u96, u97, u98, u99, u100, u101, u102, u103, u104, u105, u106, u107, .slice (some ⟨g, 0, none⟩) D.length D.length, .int .i64 ↑D.length, .int .i64 ↑i, .bool true, .int .i64 ↑i, .pointer (some ⟨g, i, none⟩), .int .i64 v, .int .i64 v, .bool true, v117, v118, v119, v120, v121, v122, v123, v124, v125, v126, u127, u128, undef, undef, undef, undef, undef, undef, undef, undef, undef, undef, undef], []⟩) A9 n cc nb b o D.length c i da v W3) #[true, true, true, true, true, true, true, true, true, true, false, false] (g := 2) (by kernel_rfl) (by kernel_rfl) (by kernel_rfl) (InvHit.start u117 u118 u119 u120 u121 u122 u123 u124 u125 u126 rfl) ?step ?last
                case step =>
                  intro i hi L a' w' hs hr hI
                  obtain ⟨x0, x1, x2, x3, x4, x5, x6, x7, x8, x9, rfl, hB, h0, h1, h2, h3, h4, h5, h6, h7, h8, h9⟩ := hI
                  simp only [List.mem_cons, List.not_mem_nil, or_false] at hi
                  rcases hi with rfl | rfl | rfl | rfl | rfl | rfl | rfl | rfl | rfl | rfl
                  · have z := (HCo3.out.below hB).c 0
                    simp only [List.getElem?_toArray, List.getElem?_cons_zero] at z
                    refine wpOp_step rfl (fun K hK => ?_)
                    go_simp
                    exact hK _ _ ⟨_, _, _, _, _, _, _, _, _, _, rfl, hB, fun _ => rfl, fun h => h1 (getD_was (by decide) h), fun h => h2 (getD_was (by decide) h), fun h => h3 (getD_was (by decide) h), fun h => h4 (getD_was (by decide) h), fun h => h5 (getD_was (by decide) h), fun h => h6 (getD_was (by decide) h), fun h => h7 (getD_was (by decide) h), fun h => h8 (getD_was (by decide) h), fun h => h9 (getD_was (by decide) h)⟩
                  · refine wpOp_step rfl (fun K hK => ?_)
                    go_simp
                    exact hK _ _ ⟨_, _, _, _, _, _, _, _, _, _, rfl, hB, fun h => h0 (getD_was (by decide) h), fun _ => rfl, fun h => h2 (getD_was (by decide) h), fun h => h3 (getD_was (by decide) h), fun h => h4 (getD_was (by decide) h), fun h => h5 (getD_was (by decide) h), fun h => h6 (getD_was (by decide) h), fun h => h7 (getD_was (by decide) h), fun h => h8 (getD_was (by decide) h), fun h => h9 (getD_was (by decide) h)⟩
                  · have q1 := h1 (ready_dep hr (by kernel_rfl))
                    subst q1
                    have z := (HCx3.out.below hB).c 0
                    simp only [List.getElem?_toArray, List.getElem?_cons_zero] at z
                    refine wpOp_step rfl (fun K hK => ?_)
                    go_simp
                    exact hK _ _ ⟨_, _, _, _, _, _, _, _, _, _, rfl, hB, fun h => h0 (getD_was (by decide) h), fun _ => rfl, fun _ => rfl, fun h => h3 (getD_was (by decide) h), fun h => h4 (getD_was (by decide) h), fun h => h5 (getD_was (by decide) h), fun h => h6 (getD_was (by decide) h), fun h => h7 (getD_was (by decide) h), fun h => h8 (getD_was (by decide) h), fun h => h9 (getD_was (by decide) h)⟩
                  · refine wpOp_step rfl (fun K hK => ?_)
                    go_simp
                    exact hK _ _ ⟨_, _, _, _, _, _, _, _, _, _, rfl, hB, fun h => h0 (getD_was (by decide) h), fun h => h1 (getD_was (by decide) h), fun h => h2 (getD_was (by decide) h), fun _ => rfl, fun h => h4 (getD_was (by decide) h), fun h => h5 (getD_was (by decide) h), fun h => h6 (getD_was (by decide) h), fun h => h7 (getD_was (by decide) h), fun h => h8 (getD_was (by decide) h), fun h => h9 (getD_was (by decide) h)⟩
                  · have q2 := h2 (ready_dep hr (by kernel_rfl))
                    have q3 := h3 (ready_dep hr (by kernel_rfl))
                    subst q2
                    subst q3
                    refine wpOp_step rfl (fun K hK => ?_)
                    go_simp
                    exact hK _ _ ⟨_, _, _, _, _, _, _, _, _, _, rfl, hB, fun h => h0 (getD_was (by decide) h), fun h => h1 (getD_was (by decide) h), fun _ => rfl, fun _ => rfl, fun _ => rfl, fun h => h5 (getD_was (by decide) h), fun h => h6 (getD_was (by decide) h), fun h => h7 (getD_was (by decide) h), fun h => h8 (getD_was (by decide) h), fun h => h9 (getD_was (by decide) h)⟩
                  · have q4 := h4 (ready_dep hr (by kernel_rfl))
                    subst q4
                    refine wpOp_step rfl (fun K hK => ?_)
                    go_simp
                    exact hK _ _ ⟨_, _, _, _, _, _, _, _, _, _, rfl, hB, fun h => h0 (getD_was (by decide) h), fun h => h1 (getD_was (by decide) h), fun h => h2 (getD_was (by decide) h), fun h => h3 (getD_was (by decide) h), fun _ => rfl, fun _ => rfl, fun h => h6 (getD_was (by decide) h), fun h => h7 (getD_was (by decide) h), fun h => h8 (getD_was (by decide) h), fun h => h9 (getD_was (by decide) h)⟩
                  · have q5 := h5 (ready_dep hr (by kernel_rfl))
                    subst q5
                    have z := Keeps.of_below hB _ _ KD3.out
                    refine wpOp_step rfl (fun K hK => ?_)
                    go_simp
                    exact hK _ _ ⟨_, _, _, _, _, _, _, _, _, _, rfl, hB, fun h => h0 (getD_was (by decide) h), fun h => h1 (getD_was (by decide) h), fun h => h2 (getD_was (by decide) h), fun h => h3 (getD_was (by decide) h), fun h => h4 (getD_was (by decide) h), fun _ => rfl, fun _ => rfl, fun h => h7 (getD_was (by decide) h), fun h => h8 (getD_was (by decide) h), fun h => h9 (getD_was (by decide) h)⟩
                  · refine wpOp_step rfl (fun K hK => ?_)
                    go_simp
                    exact hK _ _ ⟨_, _, _, _, _, _, _, _, _, _, rfl, hB, fun h => h0 (getD_was (by decide) h), fun h => h1 (getD_was (by decide) h), fun h => h2 (getD_was (by decide) h), fun h => h3 (getD_was (by decide) h), fun h => h4 (getD_was (by decide) h), fun h => h5 (getD_was (by decide) h), fun h => h6 (getD_was (by decide) h), fun _ => rfl, fun h => h8 (getD_was (by decide) h), fun h => h9 (getD_was (by decide) h)⟩
                  · have q6 := h6 (ready_dep hr (by kernel_rfl))
                    have q7 := h7 (ready_dep hr (by kernel_rfl))
                    subst q6
                    subst q7
                    refine wpOp_step rfl (fun K hK => ?_)
                    go_simp
                    exact hK _ _ ⟨_, _, _, _, _, _, _, _, _, _, rfl, hB, fun h => h0 (getD_was (by decide) h), fun h => h1 (getD_was (by decide) h), fun h => h2 (getD_was (by decide) h), fun h => h3 (getD_was (by decide) h), fun h => h4 (getD_was (by decide) h), fun h => h5 (getD_was (by decide) h), fun _ => rfl, fun _ => rfl, fun _ => rfl, fun h => h9 (getD_was (by decide) h)⟩
                  · have q8 := h8 (ready_dep hr (by kernel_rfl))
                    subst q8
                    refine wpOp_step rfl (fun K hK => ?_)
                    go_simp
                    exact hK _ _ ⟨_, _, _, _, _, _, _, _, _, _, rfl, hB.alloc hB.size _, fun h => h0 (getD_was (by decide) h), fun h => h1 (getD_was (by decide) h), fun h => h2 (getD_was (by decide) h), fun h => h3 (getD_was (by decide) h), fun h => h4 (getD_was (by decide) h), fun h => h5 (getD_was (by decide) h), fun h => h6 (getD_was (by decide) h), fun h => h7 (getD_was (by decide) h), fun _ => rfl, fun _ => ⟨_, rfl, hB.size, CB.new _ _ _⟩⟩
                case last =>
                  intro a' w' hI
                  obtain ⟨x0, x1, x2, x3, x4, x5, x6, x7, x8, x9, rfl, hB, h0, h1, h2, h3, h4, h5, h6, h7, h8, h9⟩ := hI
                  have q0 := h0 rfl
                  have q9 := h9 rfl
                  clear h0 h1 h2 h3 h4 h5 h6 h7 h8 h9
                  subst q0
                  obtain ⟨gh, rfl, hgh, hcb⟩ := q9
                  refine wpAny_of_seqA 2 10 rfl (by kernel_rfl) ?_
                  simp only [List.drop_succ_cons, List.drop_zero]
                  have HB4 := Lib.hid (HBv3.out.trans (hB.mono (by omega)))
                  have hsz := hB.size
                  have HOw4 := Lib.hid (own_keepB2 HOw3.out hB)
                  have HCo4 := Lib.hid (HCo3.out.below hB)
                  have HCx4 := Lib.hid (HCx3.out.below hB)
                  have HCs4 := Lib.hid (HCs3.out.below hB)
                  refine wpList_push _ rfl (.tmp 117) (.tmp 126) 34 rfl (go + 1) 40 _ 2 24 Tryz.underlying34 info_hit rfl (by omega) (.slice A9 n cc) n _ rfl HOw4.out [.string da, .int .i64 v] rfl gh rfl (RHit.cells hcb) (hit_two da v) (by omega) (by unfold maxLen; omega) (by omega) ?_
                  intro g9 c9 w9 own9 hg9 hgg9 hb9
                  have hgo9 := (own_block_ge own9) g9 rfl
                  have HO9 := Lib.hid own9
                  have HCo9 := Lib.hid (CB.grownT HOw4.out hg9 HCo4.out (by decide))
                  have HCx9 := Lib.hid (CB.grownT HOw4.out hg9 HCx4.out (by decide))
                  have HCs9 := Lib.hid (CB.grownT HOw4.out hg9 HCs4.out (by decide))
                  have HB9 := Lib.hid (HB4.out.trans (hb9.mono (by omega)))
                  have hs9 := HCo9.out.lt
                  have ox0 := HCo9.out.c 0
                  have of0 := HCo9.out.f 0
                  clear own9 hg9 hgg9 hb9
                  go_wp2_with fail
                  go_roundw
                  case rel =>
                    refine ⟨i + 1, n + 1, c9, some ⟨g9, 0, none⟩, by omega, by go_num, by omega, ?_, ?_, Lib.hid (HCo9.out.put 0 _), Lib.hid (HCx9.out.other (grown_setB _ _ _ _) (by intro e; have := Option.some.inj e; omega)), Lib.hid (HCs9.out.other (grown_setB _ _ _ _) (by intro e; have := Option.some.inj e; omega)), Lib.hid (HB9.out.setCell (by show nb ≤ go; omega) _), ?_⟩
                    · rw [HEq.out]; exact Lib.hid (by rw [List.length_append, HLn.out]; rfl)
                    · rw [HEq.out, hitsC_snoc]
                      exact Lib.hid (HO9.out.kept (grown_setB _ _ _ _) (Or.inr (fun e => by have e8 : g9 = go := Option.some.inj e; omega)))
                    · exact Nat.lt_of_lt_of_le hs9 (grown_setB _ _ _ _).size
                  case measure => simp [intOf]; omega
              · have HEq := Lib.hid (show hitsK D sc (i + 1) = hitsK D sc i by rw [hitsK_succ, List.getD_eq_getElem?_getD, hv9]; simp [hv0])
                have hv1 : decide (0 < v) = false := by simpa using hv0
                go_wp2_with fail
                go_roundw
                case rel => exact ⟨i + 1, n, cc, A9, by omega, by go_num, by omega, by rw [HEq.out]; exact HLn, by rw [HEq.out]; exact HOw, HCo, HCx, HCs, HBv, hsv⟩
                case measure => simp [intOf]; omega
            · obtain rfl : i = D.length := by omega
              obtain ⟨Hs, hHs⟩ : ∃ Hs, hitsK D sc D.length = Hs := ⟨_, rfl⟩
              have HQs := Lib.hid (show hitsQ D S T q = Hs by rw [hitsQ, stemsQ, HL.out, ← HOS.out.eq]; exact hHs)
              have HAp := Lib.hid (show HApart Hs by rw [← hHs]; exact rise_apart (hitsK_rise HRi.out sc _))
              rw [hHs] at HLn HOw
              clear hHs HOS HRi HScl
              have ox0 := HCo.out.c 0
              have osh := HCo.out.sh
              have HOge := Lib.hid (own_block_ge HOw.out)
              have HNe := Lib.hid (show (Value.slice A9 n cc).ownBlock ≠ some go from fun e9 => by have := HOge.out _ e9; omega)
              have hOw2 := HOw.out
              rw [← HLn.out] at hOw2
              have hcall := sortHits_q (go + 1) go _ Hs wr hOw2 (by rw [HLn.out]; omega) (by rw [HLn.out]; exact ox0) (by rw [HLn.out]; exact HNe.out)
              rw [HLn.out] at hcall
              clear hOw2
              have HCall := Lib.hid hcall; clear hcall
              have hm5 : most = ((most.toNat : Nat) : Int) := by omega
              obtain ⟨mo, hmo⟩ : ∃ mo : Nat, most = (mo : Int) := ⟨_, hm5⟩
              clear hm5
              subst hmo
              have hmo9 : mo ≤ 50 := by omega
              obtain ⟨kk, hkk⟩ : ∃ kk : Nat, min (mo : Int) (n : Int) = (kk : Int) := ⟨min mo n, by omega⟩
              have hkn : kk ≤ n := by omega
              have hkm : kk = min mo n := by omega
              have HKm := Lib.hid hkm; clear hkm
              have hkk9 : kk ≤ 50 := by have := HKm.out; omega
              have hform : (∃ g9, A9 = some ⟨g9, 0, none⟩) ∨ (A9 = none ∧ n = 0 ∧ cc = 0) := by
                rcases HOw.out.2 with ⟨h5, h0⟩ | ⟨g9, cap9, cur9, hv9, _⟩
                · right
                  simp only [Value.slice.injEq] at h5
                  exact ⟨h5.1, h0, h5.2.2⟩
                · left
                  simp only [Value.slice.injEq] at hv9
                  exact ⟨g9, hv9.1⟩
              have hncc : n ≤ cc := by obtain ⟨A8, c8, h8, h9, h10, _⟩ := own_form HOw.out; cases h8; exact h10
              rcases hform with ⟨g9, rfl⟩ | ⟨rfl, hn0, hc0⟩
              · go_wp2_with (first | (go_at_call 15; go_must (refine HCall.out.mono ?_); rintro e w6 ⟨rfl, R, hp6, hs6, own6, hg6⟩; rw [HLn.out] at own6; have HO6 := Lib.hid own6; have HP6 := Lib.hid hp6; have HS6 := Lib.hid hs6; have HCo6 := Lib.hid (HCo.out.other hg6 (fun e9 => HNe.out e9.symm)); have HB6 := Lib.hid (HBv.out.grown hg6 (by omega) (fun k hk => by have := HOge.out k hk; omega)); clear own6 hg6 hp6 hs6; have ox6 := HCo6.out.c 0; have osh6 := HCo6.out.sh; have hs6z := HB6.out.size) | (at_builtin; go_loud (go_must (refine wpList_copyK _ rfl (.const (.slice none 0 0)) (.tmp 138) 34 rfl 40 _ 2 24 Tryz.underlying34 info_hit rfl (by omega) rfl (go + 1) _ _ _ _ (hitsC R) HO6.out (hitsC_one R) (by omega) rfl (by omega) (by unfold maxLen; omega) ?_)); intro A7 c7 w7 own7 hb7; have HO7 := Lib.hid own7; have HB7 := Lib.hid (HB6.out.trans (hb7.mono (by have := HNb.out; omega))); clear own7 hb7))
                go_ret2
                exact SearchPost.hits HQs.out HEv.out (HP6.out.trans (List.Perm.refl _)) (hits_sorted (HAp.out.perm HP6.out.symm) HS6.out) HLn.out HKm.out (by have := HNb.out; omega) HO7.out (by rw [HNb.out]; exact HB7.out)
              · subst hn0
                subst hc0
                obtain rfl : kk = 0 := by omega
                have hkk0 : min (mo : Int) (0 : Int) = 0 := by omega
                go_wp2_with (first | (go_at_call 15; go_must (refine HCall.out.mono ?_); rintro e w6 ⟨rfl, R, hp6, hs6, own6, hg6⟩; rw [HLn.out] at own6; have HO6 := Lib.hid own6; have HP6 := Lib.hid hp6; have HS6 := Lib.hid hs6; have HCo6 := Lib.hid (HCo.out.other hg6 (fun e9 => HNe.out e9.symm)); have HB6 := Lib.hid (HBv.out.grown hg6 (by omega) (fun k hk => by have := HOge.out k hk; omega)); clear own6 hg6 hp6 hs6; have ox6 := HCo6.out.c 0; have osh6 := HCo6.out.sh; have hs6z := HB6.out.size) | (at_builtin; go_loud (go_must (refine wpList_copyK _ rfl (.const (.slice none 0 0)) (.tmp 138) 34 rfl 40 _ 2 24 Tryz.underlying34 info_hit rfl (by omega) rfl (go + 1) _ _ _ _ (hitsC R) HO6.out (hitsC_one R) (by omega) rfl (by omega) (by unfold maxLen; omega) ?_)); intro A7 c7 w7 own7 hb7; have HO7 := Lib.hid own7; have HB7 := Lib.hid (HB6.out.trans (hb7.mono (by have := HNb.out; omega))); clear own7 hb7))
                go_ret2
                exact SearchPost.hits HQs.out HEv.out (HP6.out.trans (List.Perm.refl _)) (hits_sorted (HAp.out.perm HP6.out.symm) HS6.out) HLn.out HKm.out (by have := HNb.out; omega) HO7.out (by rw [HNb.out]; exact HB7.out)
end Go.Proofs.YtjcegmbfipjdcaaGreatDoor
