/-
  MarkRenders is proved, in its second form: for all documents and ids whose reading stays below the given bound, HTML and Render give the reference's HTMLOf, or the specified error.
-/
import Derived.Test.YtikijmjcmpkkdaaGreatDoorHtmlDoc
import Derived.Test.YtikijmjcmpkkdaaGreatDoorCont
import Derived.Lib.Strings
import Derived.Test.YtikijmjcmpkkdaaGreatDoorHtmlRBlk
import Derived.Test.YtikijmjcmpkkdaaGreatDoorLaw
import Derived.Test.YtikijmjcmpkkdaaGreatDoorCards
import Derived.Test.YtikijmjcmpkkdaaGreatDoorTie
import Derived.OpenShut
import Derived.Deep.DeepHandedRow
import Derived.Lib.LaidTab
import Derived.Lay
namespace Go.Proofs.YtikijmjcmpkkdaaGreatDoor
open Go.RowKit Go.Deep

theorem cells_byte : Tryz.prog.cellsOf 5 = 1 := by kernel_rfl

set_option maxHeartbeats 2000000 in
set_option maxRecDepth 100000 in
/-- what the builder holds, as a string -/
theorem hString_q (B b : Nat) (l : List UInt8) (iv : Value) (w : World) (h : HAt B b l iv w) (hBw : B ≤ w.heap.size) :
    Calls Tryz.prog 36 #[.pointer (some ⟨b, 0, none⟩)] w fun e w' => e = .returned (.string ⟨l.toArray⟩) ∧ Below B w w' := by
  obtain ⟨hB, p, v, hp, hbk, hown, hne⟩ := h
  have hUS0 := fun (W : World) (q : Option Addr) => Lib.run_unsafeString_none (P := Tryz.prog) W 86 3 9 q
  cases l with
  | nil =>
    rcases hown.2 with ⟨rfl, _⟩ | ⟨g, cap, cur, rfl, hbg, hg, _, _, _, _⟩
    · have c1 : w.drew.cell? ⟨b, 1, none⟩ = some (.slice none 0 0) := hbk.c 1
      have hSD : (Builtin.unsafeSliceData_ #[53] 86 #[.slice none 0 0]).run Tryz.prog w.drew = .ok (.pointer none) w.drew := rfl
      clear hown hne hbk hp
      go_enter Tryz.func36, Tryz.ntmps36
      go_wp2
      go_region
      all_goals (go_wp2; go_ret; exact ⟨rfl, Below.drew (Below.refl B w)⟩)
    · by_cases hc0 : cap = 0
      · subst hc0
        have hlt := hbk.lt
        have c1 : w.drew.cell? ⟨b, 1, none⟩ = some (.slice (some ⟨g, 0, none⟩) 0 0) := hbk.c 1
        have hSD : (Builtin.unsafeSliceData_ #[53] 86 #[.slice (some ⟨g, 0, none⟩) 0 0]).run Tryz.prog w.drew = .ok (.pointer (some ⟨w.drew.heap.size, 0, none⟩)) (w.drew.alloc (.view ⟨g, 0, none⟩ 5)) :=
          Lib.run_unsafeSliceData_zero w.drew _ _ 5 Tryz.underlying86 ⟨g, 0, none⟩ 0 (5, cur.size) (by have hg' : w.drew.heap[g]? = some (.cells cur 5 (0, 0)) := hg; simp [World.shape?, hg'])
        have c2 : (w.drew.alloc (.view ⟨g, 0, none⟩ 5)).cell? ⟨b, 1, none⟩ = some (.slice (some ⟨g, 0, none⟩) 0 0) := (hbk.drew.alloc _).c 1
        have c3 : (w.alloc (.view ⟨g, 0, none⟩ 5)).drew.cell? ⟨b, 1, none⟩ = some (.slice (some ⟨g, 0, none⟩) 0 0) := c2
        have c0 : w.cell? ⟨b, 1, none⟩ = some (.slice (some ⟨g, 0, none⟩) 0 0) := c1
        clear hown hne hbk hp
        go_enter Tryz.func36, Tryz.ntmps36
        go_wp2
        go_region
        all_goals (go_wp2; go_ret; exact ⟨rfl, (Below.drew (Below.refl B w)).alloc hBw _⟩)
      · have c1 : w.drew.cell? ⟨b, 1, none⟩ = some (.slice (some ⟨g, 0, none⟩) 0 cap) := hbk.c 1
        have hSD : (Builtin.unsafeSliceData_ #[53] 86 #[.slice (some ⟨g, 0, none⟩) 0 cap]).run Tryz.prog w.drew = .ok (.pointer (some ⟨g, 0, none⟩)) w.drew := Lib.run_unsafeSliceData_row _ _ _ _ _ _ hc0
        clear hc0 hown hne hbk hp
        go_enter Tryz.func36, Tryz.ntmps36
        go_wp2
        go_region
        all_goals (go_wp2; go_ret; exact ⟨rfl, Below.drew (Below.refl B w)⟩)
  | cons x r =>
    obtain ⟨l, hl⟩ : ∃ l, x :: r = l := ⟨_, rfl⟩
    have h0 : l ≠ [] := by rw [← hl]; simp
    rw [hl] at hown ⊢
    clear hl
    have hl0 : l.length ≠ 0 := by simpa using h0
    obtain ⟨g, cap, cur, rfl, hbg, hg, hnc, hcm, hcs, htake⟩ : ∃ g cap cur, v = .slice (some ⟨g, 0, none⟩) l.length cap ∧ B ≤ g ∧ w.heap[g]? = some (.cells cur 5 (0, 0)) ∧ l.length ≤ cap ∧ cap ≤ maxLen ∧ cur.size = cap * 1 ∧ cur.toList.take (l.length * 1) = byteCells l := by
      rcases hown.2 with ⟨_, hz⟩ | ⟨g, cap, cur, hv, r⟩
      · exact absurd hz hl0
      · exact ⟨g, cap, cur, hv, r⟩
    have c1 : w.drew.cell? ⟨b, 1, none⟩ = some (.slice (some ⟨g, 0, none⟩) l.length cap) := hbk.c 1
    have hSD : (Builtin.unsafeSliceData_ #[53] 86 #[.slice (some ⟨g, 0, none⟩) l.length cap]).run Tryz.prog w.drew = .ok (.pointer (some ⟨g, 0, none⟩)) w.drew := Lib.run_unsafeSliceData_row _ _ _ _ _ _ (by omega)
    have hUS : (Builtin.unsafeString_ #[86, 3] 9 #[.pointer (some ⟨g, 0, none⟩), .int .i64 l.length]).run Tryz.prog w.drew = .ok (.string ⟨l.toArray⟩) (w.drew.freeze ⟨g, 0, none⟩ l.length) := by
      refine Lib.run_unsafeString_row w.drew 86 3 9 5 Tryz.underlying86 cells_byte g cur.size (by have hg' : w.drew.heap[g]? = some (.cells cur 5 (0, 0)) := hg; simp [World.shape?, hg']) l h0 (by omega) (by unfold maxLen at hcm; omega) ?_
      intro j x hx
      have := hown.cells (g := g) rfl j (.int .u8 x.toNat) (by simp [byteCells, hx])
      exact this
    clear hUS0 hown hne hbk hp htake
    go_enter Tryz.func36, Tryz.ntmps36
    go_wp2
    go_region
    all_goals (go_wp2; go_ret; exact ⟨rfl, Lib.below_freeze (Below.drew (Below.refl B w)) (p := ⟨g, 0, none⟩) hbg _⟩)

/-- the two results -/
def HtmlRes (full : List UInt8) (z : ByteArray) (en : Int) : Prop := (200000 < full.length ∧ z = ⟨#[]⟩ ∧ en = 4) ∨ (full.length ≤ 200000 ∧ z.data.toList = full ∧ en = 0)
def WrPost (full : List UInt8) (w : World) (e : Ending) (w' : World) : Prop := (∃ z en, e = .returned (.tuple #[.string z, .int .i64 en]) ∧ HtmlRes full z en) ∧ Below w.heap.size w w'
theorem docErr_nodes {l : List Node} (h : docErr l = 0) : nodesErr l 0 = 0 := by
  unfold docErr at h
  by_cases h1 : 4000 < total l
  · rw [if_pos h1] at h; omega
  · rw [if_neg h1] at h
    by_cases h2 : deepB l 0 0 = true
    · rw [if_pos h2] at h; omega
    · rw [if_neg h2] at h; exact h
theorem fresh_le (L : List (List UInt8)) (b : List UInt8) (hL : L.length ≤ 1048576) : (fresh L b).length ≤ b.length + 22 := by
  unfold fresh
  split
  · have h1 := (freeK_spec L b).2.1
    have h2 := Lib.itoa_length_le (freeK L b : Int) (by omega) (by omega)
    unfold nm
    rw [List.length_append, List.length_cons]; omega
  · omega
theorem idsL_le : ∀ (hs : List Node) (k : Nat), hs.length ≤ 4000 → (∀ n ∈ hs, weight n.kids ≤ 1048576) → k ≤ hs.length → ∀ x ∈ idsL (hs.take k), x.length ≤ 1048700
  | hs, 0, _, _, _ => by intro x hx; simp [idsL] at hx
  | hs, k + 1, h4, hw, hk => by
    obtain ⟨n, hn⟩ : ∃ n, hs[k]? = some n := ⟨_, List.getElem?_eq_getElem (by omega)⟩
    rw [idsL_take hn]
    intro x hx
    rcases List.mem_append.1 hx with h | h
    · exact idsL_le hs k h4 hw (by omega) x h
    · simp only [List.mem_singleton] at h
      subst h
      have h1 := fresh_le (idsL (hs.take k)) (baseB (slugN n)) (by rw [idsL_len, List.length_take]; omega)
      have h2 := baseB_len (slugN n)
      have h3 := slugN_len n
      have h5 := hw n (List.mem_of_getElem? hn)
      omega
theorem own_ids_le {l : List Node} (h : docErr l = 0) (hw : weight l ≤ 1048576) : ∀ x ∈ idsL (headsL l), x.length ≤ 1048700 := by
  have h1 := (docErr_zero h).1
  have h2 := heads_len l
  have h3 := idsL_le (headsL l) (headsL l).length (by omega) (fun n hn => by have := heads_weight _ l (Nat.le_refl _) n hn; omega) (Nat.le_refl _)
  rw [List.take_length] at h3
  exact h3

set_option maxHeartbeats 2000000 in
set_option maxRecDepth 100000 in
theorem written_q (l : List Node) (v : Value) (ids : List (List UInt8)) (A : Option Addr) (n c : Nat) (w : World) (h : NodesAt w v l) (hd : docErr l = 0) (hw : weight l ≤ 1048576) (htab : TabOk w) (hids : OnesAt w (.slice A n c) (strCells ids)) (hn : (headsL l).length ≤ ids.length) (hib : ∀ x ∈ ids, x.length ≤ 1048700) :
    Calls Tryz.prog 15 #[v, .slice A n c] w (WrPost (blkL 0 l ids) w) := by
  have hB := fun W hW => blocks_any w w.heap.size htab _ l v [] ids W 0 (Nat.le_refl _) h hw (docErr_nodes hd) (Or.inl rfl) (docErr_zero hd).2 hn hib hW
  have HB := Lib.hid hB
  have H0 : HW w w.heap.size [] ids (w.alloc (.cells #[.pointer none, .slice none 0 0, .slice A n c] 57)) :=
    ⟨(Below.refl _ _).alloc (Nat.le_refl _) _, [], _, Lim.start, by simp, hids, HAt.start _ (Nat.le_refl _)⟩
  have HH := Lib.hid H0
  obtain ⟨full, hf⟩ : ∃ full, blkL 0 l ids = full := ⟨_, rfl⟩
  rw [hf] at HB ⊢
  clear hB h hd hw htab hids hn hib H0 hf
  go_enter Tryz.func15, Tryz.ntmps15
  go_wp2_with fail
  go_must (refine (HB.out _ HH.out).mono ?_)
  rintro e w1 ⟨rfl, ⟨hbel, acc, iv, hlim, hacc, _, hat⟩, _⟩
  rw [List.nil_append] at hlim
  have HBel := Lib.hid hbel
  have HLim := Lib.hid hlim
  have HAt := Lib.hid hat
  have hLen := Lib.hid (hLen_q w.heap.size w.heap.size acc iv w1 hat)
  have hStr := Lib.hid (hString_q w.heap.size w.heap.size acc iv w1 hat hbel.size)
  clear hbel hlim hat
  by_cases hle : acc.length ≤ 200000
  · have t1 : decide (200000 < (acc.length : Int)) = false := by simp; omega
    go_wp2_with (first
      | (go_at_call 35; go_must (refine hLen.out.mono ?_); rintro e w2 ⟨rfl, hw2⟩; obtain rfl := hw2)
      | (go_at_call 36; go_must (refine hStr.out.mono ?_); rintro e w3 ⟨rfl, hb⟩; have HB3 := Lib.hid hb; clear hb))
    go_ret2
    refine ⟨⟨_, _, rfl, Or.inr ?_⟩, HBel.out.trans HB3.out⟩
    rcases HLim.out with h1 | h1
    · exact ⟨by rw [← h1]; exact hle, h1, rfl⟩
    · omega
  · have t1 : decide (200000 < (acc.length : Int)) = true := by simp; omega
    go_wp2_with (go_at_call 35; go_must (refine hLen.out.mono ?_); rintro e w2 ⟨rfl, hw2⟩; obtain rfl := hw2)
    go_ret2
    refine ⟨⟨_, _, rfl, Or.inl ?_⟩, HBel.out⟩
    rcases HLim.out with h1 | h1
    · exact ⟨by rw [← h1]; omega, rfl, rfl⟩
    · exact ⟨h1.2, rfl, rfl⟩

/-- HTML's results, Render's -/
def HtmlPost (l : List Node) (w : World) (e : Ending) (w' : World) : Prop :=
  Below w.heap.size w w' ∧ ((docErr l ≠ 0 ∧ e = .returned (.tuple #[.string ⟨#[]⟩, .int .i64 (docErr l)])) ∨ (docErr l = 0 ∧ ∃ z en, e = .returned (.tuple #[.string z, .int .i64 en]) ∧ HtmlRes (blkL 0 l (idsL (headsL l))) z en))
def RendPost (l : List Node) (ids : List (List UInt8)) (w : World) (e : Ending) (w' : World) : Prop :=
  Below w.heap.size w w' ∧ ((docErr l ≠ 0 ∧ e = .returned (.tuple #[.string ⟨#[]⟩, .int .i64 (docErr l)])) ∨ (docErr l = 0 ∧ ids.length ≠ (headsL l).length ∧ e = .returned (.tuple #[.string ⟨#[]⟩, .int .i64 1])) ∨
    (docErr l = 0 ∧ ids.length = (headsL l).length ∧ ∃ z en, e = .returned (.tuple #[.string z, .int .i64 en]) ∧ HtmlRes (blkL 0 l ids) z en))

set_option maxHeartbeats 2000000 in
set_option maxRecDepth 100000 in
theorem html_q (l : List Node) (v : Value) (w : World) (h : NodesAt w v l) (hw : weight l ≤ 1048576) (htab : TabOk w) : Calls Tryz.prog 5 #[v] w (HtmlPost l w) := by
  have H := Lib.hid h
  have HTab := Lib.hid htab
  have htt : total l ≤ 1073741824 := by have := total_weight _ l (Nat.le_refl _); omega
  by_cases h0 : docErr l = 0
  · have ht : total l ≤ 4000 := (docErr_zero h0).1
    have H0 := Lib.hid h0
    have HIb := Lib.hid (own_ids_le h0 hw)
    have HHl := Lib.hid (show (headsL l).length ≤ (idsL (headsL l)).length by rw [idsL_len]; exact Nat.le_refl _)
    have HHw := Lib.hid hw
    unfold HtmlPost
    clear h h0 htab hw
    have HC := Lib.hid (check_any l v w H.out htt)
    rw [H0.out] at HC
    go_enter Tryz.func5, Tryz.ntmps5
    go_wp2_with fail
    go_must (refine HC.out.mono ?_)
    rintro e w1 ⟨rfl, hb⟩
    have HB := Lib.hid hb; clear hb
    go_wp2_with fail
    go_must (refine (ids_q l v _ (H.out.keep (Keeps.of_below HB.out)) ht HHw.out (HTab.out.keep HB.out)).mono ?_)
    rintro e w2 ⟨A, c, rfl, own, hb2⟩
    have HO := Lib.hid own
    have HB2 := Lib.hid (HB.out.trans (hb2.mono HB.out.size)); clear hb2 own
    obtain ⟨n, hn⟩ : ∃ n, (idsL (headsL l)).length = n := ⟨_, rfl⟩
    rw [hn] at HO
    rw [hn]
    clear hn
    go_wp2_with fail
    go_must (refine (written_q l v (idsL (headsL l)) A n c _ (H.out.keep (Keeps.of_below HB2.out)) H0.out HHw.out (HTab.out.keep HB2.out) (OnesAt.of_own HO.out) HHl.out HIb.out).mono ?_)
    rintro e w3 ⟨⟨z, en, rfl, hres⟩, hb3⟩
    have HRes := Lib.hid hres
    have HB3 := Lib.hid (HB2.out.trans (hb3.mono HB2.out.size)); clear hb3 hres
    go_wp2_with fail
    go_ret2
    exact ⟨HB3.out, Or.inr ⟨H0.out, z, en, rfl, HRes.out⟩⟩
  · clear h htab
    have g1 : (docErr l != 0) = true := by simp [h0]
    have H0 := Lib.hid h0; clear h0
    go_enter Tryz.func5, Tryz.ntmps5
    go_wp2_with fail
    go_must (refine (check_any l v _ H.out htt).mono ?_)
    rintro e w1 ⟨rfl, hb⟩
    have HB := Lib.hid hb; clear hb
    go_wp2_with fail
    go_ret2
    exact ⟨HB.out, Or.inl ⟨H0.out, rfl⟩⟩

set_option maxHeartbeats 2000000 in
set_option maxRecDepth 100000 in
theorem render_q (l : List Node) (v : Value) (ids : List (List UInt8)) (A : Option Addr) (n c : Nat) (w : World) (h : NodesAt w v l) (hw : weight l ≤ 1048576) (htab : TabOk w) (hids : OnesAt w (.slice A n c) (strCells ids)) (hib : ∀ x ∈ ids, x.length ≤ 1048700) (hnl : ids.length = n) :
    Calls Tryz.prog 6 #[v, .slice A n c] w (RendPost l ids w) := by
  have H := Lib.hid h
  have HTab := Lib.hid htab
  have htt : total l ≤ 1073741824 := by have := total_weight _ l (Nat.le_refl _); omega
  have htw : total l ≤ 1048576 := by have := total_weight _ l (Nat.le_refl _); omega
  by_cases h0 : docErr l = 0
  · have H0 := Lib.hid h0
    have HHw := Lib.hid hw
    have HIb := Lib.hid hib
    have HIds := Lib.hid hids
    have HNl := Lib.hid hnl
    have HC := Lib.hid (check_any l v w H.out htt)
    rw [H0.out] at HC
    have hnc : n ≤ 9223372036854775807 := by
      obtain ⟨A', c', b, o, h1, h2, h3, _, _⟩ := hids
      have h4 : n = (strCells ids).length := by injection h1
      unfold maxLen at h3; omega
    clear h h0 htab hw hib hids hnl
    go_enter Tryz.func6, Tryz.ntmps6
    go_wp2_with fail
    go_must (refine HC.out.mono ?_)
    rintro e w1 ⟨rfl, hb⟩
    have HB := Lib.hid hb; clear hb
    go_wp2_with fail
    go_must (refine (headings_any _ _ l v w1 (Nat.le_refl _) (H.out.keep (Keeps.of_below HB.out)) (Keeps.refl _) htw).mono ?_)
    rintro e w2 ⟨A2, c2, ps, rfl, hps, _, _, hb2⟩
    have HPs := Lib.hid (ps_len hps)
    have HB2 := Lib.hid (HB.out.trans (hb2.mono HB.out.size)); clear hb2 hps
    obtain ⟨k, hk⟩ : ∃ k, ps.length = k := ⟨_, rfl⟩
    rw [hk] at HPs
    rw [hk]
    clear hk
    by_cases hnk : n = k
    · have t1 : ((n : Int) != (k : Int)) = false := by simp [hnk]
      have HHl := Lib.hid (show (headsL l).length ≤ ids.length by rw [HNl.out, ← HPs.out, hnk]; exact Nat.le_refl _)
      have HNk := Lib.hid hnk; clear hnk
      go_wp2_with fail
      go_must (refine (written_q l v ids A n c _ (H.out.keep (Keeps.of_below HB2.out)) H0.out HHw.out (HTab.out.keep HB2.out) (HIds.out.keep (Keeps.of_below HB2.out)) HHl.out HIb.out).mono ?_)
      rintro e w3 ⟨⟨z, en, rfl, hres⟩, hb3⟩
      have HRes := Lib.hid hres
      have HB3 := Lib.hid (HB2.out.trans (hb3.mono HB2.out.size)); clear hb3 hres
      go_wp2_with fail
      go_ret2
      exact ⟨HB3.out, Or.inr (Or.inr ⟨H0.out, by rw [HNl.out, HNk.out, HPs.out], z, en, rfl, HRes.out⟩)⟩
    · have t1 : ((n : Int) != (k : Int)) = true := by simp; omega
      have HNk := Lib.hid hnk; clear hnk
      go_wp2_with fail
      go_ret2
      exact ⟨HB2.out, Or.inr (Or.inl ⟨H0.out, by rw [HNl.out, ← HPs.out]; exact HNk.out, rfl⟩)⟩
  · clear h htab hids hib hnl
    have g1 : (docErr l != 0) = true := by simp [h0]
    have H0 := Lib.hid h0; clear h0
    go_enter Tryz.func6, Tryz.ntmps6
    go_wp2_with fail
    go_must (refine (check_any l v _ H.out htt).mono ?_)
    rintro e w1 ⟨rfl, hb⟩
    have HB := Lib.hid hb; clear hb
    go_wp2_with fail
    go_ret2
    exact ⟨HB.out, Or.inl ⟨H0.out, rfl⟩⟩

end Go.Proofs.YtikijmjcmpkkdaaGreatDoor

namespace Go.Proofs.YtikijmjcmpkkdaaGreatDoor
open Go.RowKit Go.Deep

set_option maxRecDepth 100000 in
set_option maxHeartbeats 1000000 in
theorem htmlOf_q (l : List Node) (v : Value) (ids : List (List UInt8)) (A : Option Addr) (n c : Nat) (z : ByteArray) (w : World) (h : NodesAt w v l) (hd : docErr l = 0) (hw : weight l ≤ 1048576) (htab : TabOk w) (hids : OnesAt w (.slice A n c) (strCells ids)) (hn : (headsL l).length ≤ ids.length) (hib : ∀ x ∈ ids, x.length ≤ 1048700)
    (hz : (⟨(blkL 0 l ids).toArray⟩ : ByteArray) = z) : Calls Tryz.prog 26 #[v, .slice A n c] w fun e w' => e = .returned (.string z) ∧ Below w.heap.size w w' := by
  have hR : RW w w.heap.size ids (w.alloc (.cells #[.slice A n c] 71)) := ⟨(Below.refl _ _).alloc (Nat.le_refl _) _, Nat.le_refl _, _, hids, CB.new _ _ _⟩
  have HB := Lib.hid (rblk_any w w.heap.size htab _ l v ids _ 0 (Nat.le_refl _) h hw (docErr_nodes hd) (Or.inl rfl) (docErr_zero hd).2 hn hib hR)
  clear hR h hd hw htab hids hn hib
  go_enter Tryz.func26, Tryz.ntmps26
  go_wp2_with fail
  go_must (refine HB.out.mono ?_)
  rintro e w1 ⟨s, rfl, hs, hr⟩
  have HBl := Lib.hid hr.below
  have HS := Lib.hid (show s = z from bytes_ext (by rw [hs, ← hz]))
  clear hs hr hz
  go_wp2_with fail
  go_ret
  exact ⟨by rw [HS.out]; rfl, HBl.out⟩

set_option maxRecDepth 100000 in
set_option maxHeartbeats 1000000 in
theorem htmlFits_q (l : List Node) (v : Value) (ids : List (List UInt8)) (A : Option Addr) (n c : Nat) (s : ByteArray) (en : Int) (w : World) (h : NodesAt w v l) (hd : docErr l = 0) (hw : weight l ≤ 1048576) (htab : TabOk w) (hids : OnesAt w (.slice A n c) (strCells ids)) (hn : (headsL l).length ≤ ids.length) (hib : ∀ x ∈ ids, x.length ≤ 1048700)
    (hr : HtmlRes (blkL 0 l ids) s en) : Calls Tryz.prog 10 #[.string s, .int .i64 en, v, .slice A n c] w fun e w' => e = .returned (.bool true) ∧ Below w.heap.size w w' := by
  obtain ⟨z, hz⟩ : ∃ z : ByteArray, (⟨(blkL 0 l ids).toArray⟩ : ByteArray) = z := ⟨_, rfl⟩
  have hzs : z.size = (blkL 0 l ids).length := by rw [← hz]; rfl
  have hzb := blk_len (l := l) (i := 0) (ids := ids) (docErr_zero hd).2 hib
  have hzb2 : z.size ≤ 6598164480000 := by omega
  have HC := Lib.hid (htmlOf_q l v ids A n c z w h hd hw htab hids hn hib hz)
  have hr2 : (200000 < z.size ∧ s = ⟨#[]⟩ ∧ en = 4) ∨ (z.size ≤ 200000 ∧ s = z ∧ en = 0) := by
    rcases hr with ⟨h1, h2, h3⟩ | ⟨h1, h2, h3⟩
    · exact Or.inl ⟨by omega, h2, h3⟩
    · exact Or.inr ⟨by omega, bytes_ext (by rw [h2, ← hz]), h3⟩
  clear h hd hw htab hids hn hib hr hz hzs hzb
  rcases hr2 with ⟨h1, rfl, rfl⟩ | ⟨h1, rfl, rfl⟩
  · have t1 : decide (200000 < (z.size : Int)) = true := by simp; omega
    go_enter Tryz.func10, Tryz.ntmps10
    go_wp2_with (go_at_call 26; go_must (refine HC.out.mono ?_); rintro e w1 ⟨rfl, hb⟩; have HB := Lib.hid hb; clear hb)
    go_ret
    exact ⟨rfl, HB.out⟩
  · have t1 : decide (200000 < (s.size : Int)) = false := by simp; omega
    have t2 : (s.toList == s.toList) = true := by simp
    go_enter Tryz.func10, Tryz.ntmps10
    go_wp2_with (go_at_call 26; go_must (refine HC.out.mono ?_); rintro e w1 ⟨rfl, hb⟩; have HB := Lib.hid hb; clear hb)
    go_ret
    exact ⟨rfl, HB.out⟩

set_option maxRecDepth 100000 in
set_option maxHeartbeats 4000000 in
theorem markRenders_walk (l : List Node) (v : Value) (ids : List (List UInt8)) (A : Option Addr) (n c : Nat) (w : World) (h : NodesAt w v l) (hw : weight l ≤ 1048576) (htab : TabOk w) (hids : OnesAt w (.slice A n c) (strCells ids)) (hib : ∀ x ∈ ids, x.length ≤ 1048700) :
    Calls Tryz.prog 3 #[v, .slice A n c] w fun e w' => e = .returned (.bool true) ∧ Below w.heap.size w w' := by
  have hnl : ids.length = n := by
    obtain ⟨A', c', b, o, h1, h2, h3, _, _⟩ := hids
    rw [strCells_len] at h1
    injection h1 with _ h4 _
    exact h4.symm
  have H := Lib.hid h
  have HTab := Lib.hid htab
  have HIds := Lib.hid hids
  have htt : total l ≤ 1073741824 := by have := total_weight _ l (Nat.le_refl _); omega
  have HI := Lib.hid (html_q l v w h hw htab)
  have HR := Lib.hid (fun W (hb : Below w.heap.size w W) => render_q l v ids A n c W (h.keep (Keeps.of_below hb)) hw (htab.keep hb) (hids.keep (Keeps.of_below hb)) hib hnl)
  have HIb := Lib.hid hib
  have HNl := Lib.hid hnl
  have hnc : n ≤ 9223372036854775807 := by
    obtain ⟨A', c', b, o, h1, h2, h3, _, _⟩ := hids
    have h4 : n = (strCells ids).length := by injection h1
    unfold maxLen at h3; omega
  clear h htab hids hib hnl
  by_cases h0 : docErr l = 0
  · have H0 := Lib.hid h0
    have HOl := Lib.hid (own_ids_le h0 hw)
    have HHw := Lib.hid hw
    clear h0
    go_enter Tryz.func3, Tryz.ntmps3
    go_wp2_with fail
    go_must (refine HI.out.mono ?_)
    rintro e w1 ⟨hb, ⟨hx, _⟩ | ⟨_, z1, n1, rfl, hres1⟩⟩
    · exact absurd H0.out hx
    have HB1 := Lib.hid hb; have HRes1 := Lib.hid hres1
    clear hb hres1
    go_wp2_with fail
    have key : ∀ (z2 : ByteArray) (n2 : Int) (w2 : World), Hid (Below w.heap.size w w2) → Hid ((ids.length ≠ (headsL l).length ∧ z2 = ⟨#[]⟩ ∧ n2 = 1) ∨ (ids.length = (headsL l).length ∧ HtmlRes (blkL 0 l ids) z2 n2)) → True := fun _ _ _ _ _ => trivial
    clear key
    go_must (refine (HR.out _ HB1.out).mono ?_)
    rintro e w2 ⟨hb, hres2⟩
    have hres3 : ∃ (z2 : ByteArray) (n2 : Int), e = .returned (.tuple #[.string z2, .int .i64 n2]) ∧ ((ids.length ≠ (headsL l).length ∧ z2 = ⟨#[]⟩ ∧ n2 = 1) ∨ (ids.length = (headsL l).length ∧ HtmlRes (blkL 0 l ids) z2 n2)) := by
      rcases hres2 with ⟨hx, _⟩ | ⟨_, h5, h6⟩ | ⟨_, h5, z, en, h6, h7⟩
      · exact absurd H0.out hx
      · exact ⟨_, _, h6, Or.inl ⟨h5, rfl, rfl⟩⟩
      · exact ⟨z, en, h6, Or.inr ⟨h5, h7⟩⟩
    obtain ⟨z2, n2, rfl, hres4⟩ := hres3
    have HB2 := Lib.hid (HB1.out.trans (hb.mono HB1.out.size)); have HRes2 := Lib.hid hres4
    clear hb hres2 hres4
    go_wp2_with fail
    have HD := Lib.hid (docError_any l v w2 (H.out.keep (Keeps.of_below HB2.out)) htt)
    rw [H0.out] at HD
    go_must (refine HD.out.mono ?_)
    rintro e w3 ⟨rfl, hb⟩
    have HB3 := Lib.hid (HB2.out.trans (hb.mono HB2.out.size)); clear hb
    go_wp2_with fail
    have hent := entriesOf_q l v w3 (H.out.keep (Keeps.of_below HB3.out)) H0.out HHw.out (HTab.out.keep HB3.out)
    have HEl := Lib.hid (show (entK (headsL l) (headsL l).length).length = (headsL l).length from entK_len _ (Nat.le_refl _))
    have HEi := Lib.hid (show entIds (entK (headsL l) (headsL l).length) = idsL (headsL l) by rw [entK_ids _ (Nat.le_refl _), List.take_length])
    obtain ⟨E, hE⟩ : ∃ E, entK (headsL l) (headsL l).length = E := ⟨_, rfl⟩
    rw [hE] at hent HEl HEi
    have HEnt := Lib.hid hent
    obtain ⟨L, hL⟩ : ∃ L, idsL (headsL l) = L := ⟨_, rfl⟩
    have HLl := Lib.hid (show L.length = (headsL l).length by rw [← hL, idsL_len])
    rw [hL] at HEi HRes1 HOl
    obtain ⟨n5, hn5⟩ : ∃ n5, (headsL l).length = n5 := ⟨_, rfl⟩
    have hn54 : n5 ≤ 4000 := by rw [← hn5]; have := heads_len l; have := (docErr_zero H0.out).1; omega
    have HHn := Lib.hid (show (headsL l).length ≤ L.length by rw [HLl.out]; exact Nat.le_refl _)
    rw [hn5] at HEl HLl HRes2
    have HN5 := Lib.hid hn5
    clear hent hE hL hn5
    go_must (refine HEnt.out.mono ?_)
    rintro e w4 ⟨A4, c4, rfl, own4, hb⟩
    rw [HEl.out] at own4
    rw [HEl.out]
    have HO4 := Lib.hid own4
    have HB4 := Lib.hid (HB3.out.trans (hb.mono HB3.out.size))
    clear hb own4
    go_wp2_with fail
    go_must (refine (idsOf_q _ E _ n5 w4 HO4.out HEl.out hn54).mono ?_)
    rintro e w6 ⟨A6, c6, rfl, own6, hb⟩
    rw [HEi.out] at own6
    rw [HEi.out]
    rw [HLl.out] at own6
    rw [HLl.out]
    have HO6 := Lib.hid own6
    have HB6 := Lib.hid (HB4.out.trans (hb.mono HB4.out.size))
    clear hb own6
    go_wp2_with fail
    go_must (refine (htmlFits_q l v L A6 n5 c6 z1 n1 w6 (H.out.keep (Keeps.of_below HB6.out)) H0.out HHw.out (HTab.out.keep HB6.out) (OnesAt.of_own HO6.out) HHn.out HOl.out HRes1.out).mono ?_)
    rintro e w7 ⟨rfl, hb⟩
    have HB7 := Lib.hid (HB6.out.trans (hb.mono HB6.out.size)); clear hb
    rcases HRes2.out with ⟨h5, rfl, rfl⟩ | ⟨h5, h6⟩
    · have t1 : ((n : Int) != (n5 : Int)) = true := by rw [HNl.out] at h5; simp; omega
      clear h5
      go_wp2_with fail
      go_ret
      exact ⟨rfl, HB7.out⟩
    · have t1 : ((n : Int) != (n5 : Int)) = false := by rw [HNl.out] at h5; simp [h5]
      have HR6 := Lib.hid h6
      have HHn2 := Lib.hid (show (headsL l).length ≤ ids.length by rw [HN5.out, h5]; exact Nat.le_refl _)
      clear h5 h6
      go_wp2_with fail
      go_must (refine (htmlFits_q l v ids A n c z2 n2 w7 (H.out.keep (Keeps.of_below HB7.out)) H0.out HHw.out (HTab.out.keep HB7.out) (HIds.out.keep (Keeps.of_below HB7.out)) HHn2.out HIb.out HR6.out).mono ?_)
      rintro e w8 ⟨rfl, hb⟩
      have HB8 := Lib.hid (HB7.out.trans (hb.mono HB7.out.size)); clear hb
      go_wp2_with fail
      go_ret
      exact ⟨rfl, HB8.out⟩
  · have g1 : (docErr l != 0) = true := by simp [h0]
    have H0 := Lib.hid h0; clear h0
    obtain ⟨d, hd⟩ : ∃ d, docErr l = d := ⟨_, rfl⟩
    rw [hd] at g1
    have HD := Lib.hid hd; clear hd
    have g3 : (d == d) = true := by simp
    go_enter Tryz.func3, Tryz.ntmps3
    go_wp2_with fail
    go_must (refine HI.out.mono ?_)
    rintro e w1 ⟨hb, ⟨_, rfl⟩ | ⟨hx, _⟩⟩
    rotate_left
    · exact absurd hx H0.out
    have HB1 := Lib.hid hb
    clear hb
    rw [HD.out]
    go_wp2_with fail
    go_must (refine (HR.out _ HB1.out).mono ?_)
    rintro e w2 ⟨hb, ⟨_, rfl⟩ | ⟨hx, _⟩ | ⟨hx, _⟩⟩
    rotate_left
    · exact absurd hx H0.out
    · exact absurd hx H0.out
    have HB2 := Lib.hid (HB1.out.trans (hb.mono HB1.out.size))
    clear hb
    rw [HD.out]
    go_wp2_with fail
    have HDe := Lib.hid (docError_any l v w2 (H.out.keep (Keeps.of_below HB2.out)) htt)
    rw [HD.out] at HDe
    go_must (refine HDe.out.mono ?_)
    rintro e w3 ⟨rfl, hb⟩
    have HB3 := Lib.hid (HB2.out.trans (hb.mono HB2.out.size))
    clear hb
    go_wp2_with fail
    go_ret
    exact ⟨rfl, HB3.out⟩

theorem cells_strR : Tryz.prog.cellsOf 9 = 1 := by kernel_rfl
/-- a list of strings that came in -/
theorem open_strs {H : Type} {enc : TypeId × Value → H} {w : World} {base : Nat} {spare : Nat → Bool} {held : Bool} (fuel : Nat) (cs : List Value) (x : DataW H × List MemPlace) (h : DataW.trod enc Tryz.prog w base spare held fuel 23 cs = some x) :
    ∃ (v : Value) (l : List (List UInt8)), cs = [v] ∧ OnesAt w v (strCells l) ∧ ∀ y ∈ l, y.length + 1 ≤ Rows.uptoBulk x.1 := by
  obtain ⟨A, len, cap, m, b, o, hm, rfl, hlc, hc, hA, hD, hel⟩ := open_cells Tryz.underlying23 cells_strR (by omega) h
  have key : ∀ i, i < len → ∃ s : List UInt8, w.cell? ⟨b, o + i, none⟩ = some (.string ⟨s.toArray⟩) ∧ ∃ d, (elemsOf x.1)[i]? = some d ∧ s.length + 1 ≤ Rows.uptoBulk d := by
    intro i hi
    obtain ⟨cs', y, hl', hat, hdi, hy⟩ := hel i hi
    obtain ⟨s, e0, z0, w0⟩ := DataW.trod_string Tryz.underlying9 hy
    subst e0
    refine ⟨s.data.toList, by rw [mk_toList]; have := hat 0 (by omega); simpa using this, _, hdi, ?_⟩
    rw [z0]
    simp only [Rows.uptoBulk]
    omega
  obtain ⟨l, hll, hp⟩ := exists_list key
  have hb := bulk_elems x.1
  refine ⟨_, l, rfl, ⟨A, cap, b, o, by rw [strCells_len, hll], by rw [strCells_len, hll]; exact hlc, hc, fun hne => hA ?_, fun i y hi => ?_⟩, fun y hy => ?_⟩
  · rcases Nat.eq_zero_or_pos len with h0 | h0
    · have : l = [] := List.eq_nil_of_length_eq_zero (by omega)
      subst this
      exact absurd rfl hne
    · exact h0
  · simp only [strCells, List.getElem?_map, Option.map_eq_some_iff] at hi
    obtain ⟨s, h1, rfl⟩ := hi
    exact (hp i s h1).1
  · obtain ⟨i, hi⟩ := List.getElem?_of_mem hy
    obtain ⟨_, d, h2, h3⟩ := hp i y hi
    have := bulk_mem (List.mem_of_getElem? h2)
    omega

end Go.Proofs.YtikijmjcmpkkdaaGreatDoor

namespace Go.Proofs.YtikijmjcmpkkdaaGreatDoor
open Go.RowKit Go.ChangeShapes Go.WideShapes Go.ChangeAt Go.Deep

set_option maxRecDepth 100000 in
theorem tab_of_laid {W : World} (h : laidMet Tryz.prog Rows.markRendersUptoRow.laid W) : TabOk W := by
  obtain ⟨ps, hv, _, _⟩ := h
  obtain ⟨_, _, _, _, _, _, _, _, _, _, hv2, _⟩ := hv
  obtain ⟨_, _, _, _, _, _, _, _, _, _, hv3, _⟩ := hv2
  obtain ⟨g', t', cs, fuel, p, q, hg', ht', hvar, hd, _, _⟩ := hv3
  obtain rfl := Option.some.inj ((show Tryz.prog.globalNamed "internal/strconv.uint64pow10" = some 0 by kernel_rfl).symm.trans hg')
  obtain rfl := Option.some.inj ((show (Tryz.prog.globals[0]?).map (·.type) = some 146 by kernel_rfl).symm.trans ht')
  unfold TabOk Lib.TabIs
  rw [hvar, ← Lib.cells_of_tab (k := .u64) (zs := Lib.pow10Tab) Tryz.underlying146 Tryz.underlying119 (by kernel_rfl) (by kernel_rfl) hd]

set_option maxRecDepth 100000 in
theorem markRenders_calls (H : Type) (enc : TypeId × Value → H) (W : World) (base : Nat) (args : Array Value) (ds gs : List (DataW H)) (before : List MemPlace)
    (hval : ∀ (j : Nat) t v, Tryz.f3.params[j]? = some t → args[j]? = some v → Value.okWide Tryz.prog W .any base t v)
    (hW : DataW.Whole enc Tryz.prog Tryz.f3.params.toList Rows.markRendersSpec.vars false W args.toList ds gs before) (hk : Rows.uptoSmall H (ds ++ gs) = true) (hTab : TabOk W) :
    Calls Tryz.prog 3 args W fun e W' => ∃ v, e = .returned v ∧ Rows.markRendersSpec.post enc Tryz.prog Tryz.f3 false true false false W args v W' := by
  have hW' := hW
  obtain ⟨p, q, hA0, hV, rfl, hfz, hnd⟩ := hW
  have hA : DataW.TrodAll enc Tryz.prog W 0 (fun _ => true) true Tryz.f3.params.toList args.toList ds p := hA0
  rw [Tryz.params3] at hA hval
  obtain ⟨v0, v1, d0, d1, p0, p1, rfl, rfl, rfl, h0, h1⟩ := trodAll_two hA
  obtain ⟨rfl, rfl⟩ := trodVars_none hV
  have hbulk : Rows.uptoBulkAll ([d0, d1]) ≤ 1048576 := of_decide_eq_true (by simpa [Rows.uptoSmall] using hk)
  obtain ⟨fu0, g0⟩ := h0
  obtain ⟨u0, l0, e0, n0, w0⟩ := open_nodes _ _ _ g0
  obtain ⟨a0, len0, cap0, rfl⟩ := okWide_slice Tryz.underlying22 (hval 0 22 v0 rfl rfl)
  simp only [Value.cells, List.cons.injEq, and_true] at e0
  subst e0
  obtain ⟨fu1, g1⟩ := h1
  obtain ⟨u1, l1, e1, n1, w1⟩ := open_strs _ _ _ g1
  obtain ⟨a1, len1, cap1, rfl⟩ := okWide_slice Tryz.underlying23 (hval 1 23 v1 rfl rfl)
  simp only [Value.cells, List.cons.injEq, and_true] at e1
  subst e1
  refine (markRenders_walk l0 _ l1 _ _ _ W n0 (by have := bulk_mem (show d0 ∈ [d0, d1] by simp); have : weight l0 + 1 ≤ Rows.uptoBulk d0 := w0; omega) hTab n1 (by intro y hy; have := bulk_mem (show d1 ∈ [d0, d1] by simp); have : y.length + 1 ≤ Rows.uptoBulk d1 := w1 y hy; omega)).mono fun e W' ⟨he, hb⟩ => ?_
  subst he
  refine ⟨_, rfl, law_post rfl rfl (tb := 4) (by kernel_rfl) Tryz.underlying4 ?_ hW' hb⟩
  rw [Tryz.params3]
  intro t ht
  simp only [List.mem_cons, List.not_mem_nil, or_false] at ht
  rcases ht with rfl | rfl
  · exact ⟨by kernel_rfl, of_decide_eq_true (by kernel_rfl)⟩
  · exact ⟨by kernel_rfl, of_decide_eq_true (by kernel_rfl)⟩

set_option maxRecDepth 100000 in
theorem markRenders_met (os : Os) : laidMet Tryz.prog Rows.markRendersUptoRow.laid ((World.laidAll Tryz.prog os Rows.markRendersUptoRow.laid).forCall (fun _ _ => 0) ⟨#[], #[.slice none 0 0, .slice none 0 0], []⟩).memory :=
  laidMet_laidAll _ (by kernel_rfl) (by kernel_rfl)

theorem markRenders_reads (os : Os) {H : Type} (enc : TypeId × Value → H) : ∃ places, DataW.whole enc Tryz.prog ((World.laidAll Tryz.prog os Rows.markRendersUptoRow.laid).forCall (fun _ _ => 0) ⟨#[], #[.slice none 0 0, .slice none 0 0], []⟩).memory Tryz.f3.params.toList Rows.markRendersSpec.vars false (#[(.slice none 0 0 : Value), (.slice none 0 0 : Value)] : Array Value).toList 8 = some ([.nil, .nil], [], places) :=
  ⟨[], by kernel_rfl⟩

set_option maxRecDepth 100000 in
theorem markRenders_lifted (os : Os) (started : os.Started) (H : Type) (enc : TypeId × Value → H) (F : Stop.Interp) :
    ReturnsInHanded {} Tryz.checked os 3 .any ((Rows.OpenSpec.upto Rows.markRendersSpec).preRow enc Tryz.prog Tryz.f3 Rows.markRendersUptoRow.domain false Rows.markRendersUptoRow.laid) (((Rows.OpenSpec.upto Rows.markRendersSpec).at F).post enc Tryz.prog Tryz.f3 false true false false) := by
  obtain ⟨places, hx⟩ := markRenders_reads os enc
  refine returnsInHanded_of_row (C := Tryz.checked) (s := (Rows.OpenSpec.upto Rows.markRendersSpec)) own started (by kernel_rfl) Tryz.func3
    (witness_row_at (enc := enc) (C := Tryz.checked) false (World.laidAll Tryz.prog os Rows.markRendersUptoRow.laid) #[.slice none 0 0, .slice none 0 0] (World.laidAll_os _ _ _) (by kernel_rfl) (by kernel_rfl) (by kernel_rfl)
      (OpenSpec.preRow_of_cond 8 hx (by kernel_rfl) (fun k hk => by cases hk; kernel_rfl) (by kernel_rfl) (markRenders_met os))) ?_
  intro W base args ds gs before hval hW _ hk _ hL hsh _
  exact markRenders_calls H enc W base args ds gs before hval hW (hk _ rfl) (tab_of_laid hL)

theorem markRenders_said : Rows.MarkRendersUptoSaid :=
  OpenClaim.holds_of_cond 3 Tryz.f3 rfl rfl rfl rfl rfl rfl rfl ⟨rfl, rfl, rfl, rfl, rfl⟩ rfl rfl rfl rfl rfl (by kernel_rfl) Tryz.func3 (by kernel_rfl)
    (of_decide_eq_true (by kernel_rfl)) (by unfold Func.isWrapper; first | (rw [if_pos (by decide +kernel)]; kernel_rfl) | (rw [if_neg (by decide +kernel)]; exact ⟨rfl, rfl⟩))
    (fun os started H enc _ F => by rw [OpenClaim.pre_eq_preRow]; exact markRenders_lifted os started H enc F)

theorem markRenders_plain (f : FuncId) (fn : Func) (hf : Tryz.pinned.checked.prog.funcNamed "masthead/mastlaw1.MarkRenders" = some f) (hfn : Tryz.pinned.checked.prog.funcs[f]? = some fn) :
    true = Tryz.pinned.checked.prog.looks [] ∧ ∀ (j : Nat) t, fn.params[j]? = some t → Tryz.pinned.checked.prog.wantsStandIn t = false := by
  obtain rfl : f = 3 := Option.some.inj ((show Tryz.prog.funcNamed "masthead/mastlaw1.MarkRenders" = some 3 by kernel_rfl).symm.trans hf) |>.symm
  obtain rfl : fn = Tryz.f3 := (Option.some.inj (Tryz.func3.symm.trans hfn)).symm
  refine ⟨by kernel_rfl, fun j t ht => ?_⟩
  rw [Tryz.params3] at ht
  have h2 := Array.mem_of_getElem? ht
  simp at h2
  rcases h2 with rfl | rfl
  · exact (show Tryz.prog.wantsStandIn 22 = false by kernel_rfl)
  · exact (show Tryz.prog.wantsStandIn 23 = false by kernel_rfl)

theorem markRenders_card : Rows.MarkRendersUptoCardSaid :=
  Claim7.holds_tied_plain_at .later [] _ _ _ _ markRenders_said (fun _ h => by cases h) (by kernel_rfl) (fun _ h => by cases h) markRendersUpto_row_tie rfl ⟨rfl, rfl⟩ (by kernel_rfl) rfl markRenders_plain (by kernel_rfl)

end Go.Proofs.YtikijmjcmpkkdaaGreatDoor
