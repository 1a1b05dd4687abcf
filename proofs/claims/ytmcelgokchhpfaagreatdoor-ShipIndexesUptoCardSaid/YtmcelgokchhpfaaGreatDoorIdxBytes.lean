/-
  An index's text: mastref1.IndexBytes (parts that are joined).
-/
import Derived.Test.YtmcelgokchhpfaaGreatDoorIdxText
namespace Go.Proofs.YtmcelgokchhpfaaGreatDoor
open Go.RowKit Go.ChangeShapes Go.WideShapes Go.Deep

def joinB (pl : List ByteArray) : List UInt8 := (pl.map (·.data.toList)).flatten
theorem joinB_push (pl : List ByteArray) (x : ByteArray) : joinB (pl ++ [x]) = joinB pl ++ x.data.toList := by simp [joinB]
theorem join_flat2 (l : List (List UInt8)) : Lib.join l [] = l.flatten := by
  cases l with
  | nil => rfl
  | cons a r => rw [Lib.join_cons]; simp [Lib.joinTail]
def strsB (pl : List ByteArray) : List Value := pl.map Value.string
theorem joinE_q (B : Nat) (l : List ByteArray) (A : Option Addr) (m c : Nat) (w : World) (hm : m = l.length) (own : w.ownsRow B 9 1 (.slice A m c) m (strsB l)) (hlen : (joinB l).length ≤ 1073741824) (hl : m ≤ 1073741824) :
    Calls Tryz.prog 42 #[.slice A m c, .string ⟨#[]⟩] w fun e w' => e = .returned (.string ⟨(joinB l).toArray⟩) ∧ Below w.heap.size w w' := by
  rcases Nat.eq_zero_or_pos m with h0 | h0
  · subst h0
    have : l = [] := List.eq_nil_of_length_eq_zero hm.symm
    subst this
    exact (Tryz.strings_Join_none A c ⟨#[]⟩ w).mono fun e w' ⟨h1, h2⟩ => ⟨h1, by rw [h2]; exact Below.refl _ _⟩
  · obtain ⟨A', c', hv, hcm, hnc, hA⟩ := own_form own
    cases hv
    obtain ⟨g, rfl, hBg, hgl⟩ := hA h0
    subst hm
    have e : Lib.join (l.map (·.data.toList)) (⟨#[]⟩ : ByteArray).data.toList = joinB l := join_flat2 _
    have hj := Tryz.strings_Join g 0 c l ⟨#[]⟩ w (fun j x hx => by rw [Nat.zero_add]; exact own_cell own (by simp [strsB, hx])) hgl (by omega) hnc (by rw [e]; omega)
    rw [e] at hj
    exact hj
theorem CB.grownT {w w' : World} {B K m : Nat} {e t : TypeId} {v : Value} {n : Nat} {xs : List Value} {cs : Array Value} (h : w.ownsRow B e K v n xs) (hg : w.grownBy w' v.ownBlock) (hc : CB w m t cs) (ht : t ≠ e) : CB w' m t cs := by
  refine (hg.block m hc.lt ?_).trans hc
  intro e2
  rcases h.2 with ⟨rfl, rfl⟩ | ⟨g, cap, cur, rfl, hB, hgg, _⟩
  · simp [Value.ownBlock] at e2
  · have e3 : m = g := by simpa [Value.ownBlock] using e2
    subst e3
    have := hc.symm.trans hgg
    simp at this
    exact ht this.2
theorem one_strB (s : ByteArray) : ∀ u ∈ [Value.string s], u.oneCell' = true := by intro u hu; simp at hu; subst hu; rfl
theorem push_strs {pl : List ByteArray} {s : ByteArray} : strsB pl ++ [Value.string s] = strsB (pl ++ [s]) := by simp [strsB]
theorem info_strB : (Tryz.prog.info? 9).map (fun i => (i.zero, i.size, i.bytes)) = some (some (.string ⟨#[]⟩), 1, 16) := by kernel_rfl
def RB (s : ByteArray) (W1 : World) (x : Value) (w : World) : Prop := ∃ g : Nat, x = .slice (some ⟨g, 0, none⟩) 1 1 ∧ W1.heap.size ≤ g ∧ CB w g 9 #[.string s]
theorem RB.below {s : ByteArray} {W1 w w' : World} {x : Value} (h : RB s W1 x w) (hb : Below w.heap.size w w') : RB s W1 x w' := by obtain ⟨g, h1, h2, h3⟩ := h; exact ⟨g, h1, h2, h3.below hb⟩
theorem RB.cells {g : Nat} {s : ByteArray} {w : World} (h : CB w g 9 #[.string s]) : ∀ (j : Nat) (u : Value), [Value.string s][j]? = some u → w.cell? ⟨g, j, none⟩ = some u := by
  intro j u hu
  have hc := h.c j
  rw [hc]
  simpa using hu
/-- the parts so far -/
structure PartsIn (B : Nat) (pl : List ByteArray) (A : Option Addr) (m c : Nat) (w : World) : Prop where
  own : w.ownsRow B 9 1 (.slice A m c) m (strsB pl)
  len : m = pl.length
  le : m ≤ (joinB pl).length
theorem PartsIn.below {B : Nat} {pl : List ByteArray} {A : Option Addr} {m c : Nat} {w w' : World} (h : PartsIn B pl A m c w) (hb : Below w.heap.size w w') : PartsIn B pl A m c w' :=
  ⟨h.own.kept (row := none) ⟨hb.os, hb.tape, hb.output, hb.size, fun k hk _ => hb.block k hk⟩ (by cases hv : (Value.slice A m c).ownBlock <;> simp), h.len, h.le⟩
theorem PartsIn.push {B : Nat} {pl : List ByteArray} {A : Option Addr} {m c g cap : Nat} {s : ByteArray} {w w' : World} (h : PartsIn B pl A m c w) (ho : w'.ownsRow B 9 1 (.slice (some ⟨g, 0, none⟩) (m + 1) cap) (m + 1) (strsB pl ++ [.string s])) (hs : 1 ≤ s.size) : PartsIn B (pl ++ [s]) (some ⟨g, 0, none⟩) (m + 1) cap w' :=
  ⟨by rw [← push_strs]; exact ho, by rw [List.length_append, ← h.len]; rfl, by have := h.le; rw [joinB_push, List.length_append, size_toList]; omega⟩
def InvDB (fr : Value → Value → Value → Value → Value → Value → Value → Value → Value → Value → Value → Value → Value → Value → Value → Value → Value → Value → Act) (Ap : Option Addr) (mk cp nb nd b2 o2 ls c2 k : Nat) (addr title : ByteArray) (n : Int) (W1 : World) (L : Array Bool) (a : Act) (w : World) : Prop :=
  ∃ x0 x1 x2 x3 x4 x5 x6 x7 x8 x9 x10 x11 x12 x13 x14 x15 x16 x17 : Value, a = fr x0 x1 x2 x3 x4 x5 x6 x7 x8 x9 x10 x11 x12 x13 x14 x15 x16 x17 ∧ Below W1.heap.size W1 w ∧ (L.getD 0 false = true → x0 = .slice Ap mk cp) ∧ (L.getD 1 false = true → x1 = .pointer (some ⟨nd, 0, none⟩)) ∧ (L.getD 2 false = true → x2 = .string addr) ∧ (L.getD 3 false = true → x3 = .string ((⟨#[100, 111, 99, 32]⟩ : ByteArray) ++ addr)) ∧ (L.getD 4 false = true → x4 = .string ((⟨#[100, 111, 99, 32]⟩ : ByteArray) ++ addr ++ (⟨#[32]⟩ : ByteArray))) ∧ (L.getD 5 false = true → x5 = .pointer (some ⟨nb, 1, none⟩)) ∧ (L.getD 6 false = true → x6 = .slice (some ⟨b2, o2, none⟩) ls c2) ∧ (L.getD 7 false = true → x7 = .int .i64 k) ∧ (L.getD 8 false = true → x8 = .pointer (some ⟨b2, o2 + k, none⟩)) ∧ (L.getD 9 false = true → x9 = .int .i64 n) ∧ (L.getD 10 false = true → x10 = .string (⟨(Lib.itoa n).toArray⟩ : ByteArray)) ∧ (L.getD 11 false = true → x11 = .string ((⟨#[100, 111, 99, 32]⟩ : ByteArray) ++ addr ++ (⟨#[32]⟩ : ByteArray) ++ (⟨(Lib.itoa n).toArray⟩ : ByteArray))) ∧ (L.getD 12 false = true → x12 = .string ((⟨#[100, 111, 99, 32]⟩ : ByteArray) ++ addr ++ (⟨#[32]⟩ : ByteArray) ++ (⟨(Lib.itoa n).toArray⟩ : ByteArray) ++ (⟨#[32]⟩ : ByteArray))) ∧ (L.getD 13 false = true → x13 = .pointer (some ⟨nd, 1, none⟩)) ∧ (L.getD 14 false = true → x14 = .string title) ∧ (L.getD 15 false = true → x15 = .string ((⟨#[100, 111, 99, 32]⟩ : ByteArray) ++ addr ++ (⟨#[32]⟩ : ByteArray) ++ (⟨(Lib.itoa n).toArray⟩ : ByteArray) ++ (⟨#[32]⟩ : ByteArray) ++ title)) ∧ (L.getD 16 false = true → x16 = .string ((⟨#[100, 111, 99, 32]⟩ : ByteArray) ++ addr ++ (⟨#[32]⟩ : ByteArray) ++ (⟨(Lib.itoa n).toArray⟩ : ByteArray) ++ (⟨#[32]⟩ : ByteArray) ++ title ++ (⟨#[10]⟩ : ByteArray))) ∧ (L.getD 17 false = true → RB ((⟨#[100, 111, 99, 32]⟩ : ByteArray) ++ addr ++ (⟨#[32]⟩ : ByteArray) ++ (⟨(Lib.itoa n).toArray⟩ : ByteArray) ++ (⟨#[32]⟩ : ByteArray) ++ title ++ (⟨#[10]⟩ : ByteArray)) W1 x17 w)
theorem InvDB.start {m : Nat} {fr : Value → Value → Value → Value → Value → Value → Value → Value → Value → Value → Value → Value → Value → Value → Value → Value → Value → Value → Act} {Ap : Option Addr} {mk cp nb nd b2 o2 ls c2 k : Nat} {addr title : ByteArray} {n : Int} {W1 : World} {a : Act} (x0 x1 x2 x3 x4 x5 x6 x7 x8 x9 x10 x11 x12 x13 x14 x15 x16 x17 : Value) (h : a = fr x0 x1 x2 x3 x4 x5 x6 x7 x8 x9 x10 x11 x12 x13 x14 x15 x16 x17) : InvDB fr Ap mk cp nb nd b2 o2 ls c2 k addr title n W1 (Array.replicate m false) a W1 :=
  ⟨x0, x1, x2, x3, x4, x5, x6, x7, x8, x9, x10, x11, x12, x13, x14, x15, x16, x17, h, Below.refl _ _, (fun h => by rw [getD_replicate_false] at h; cases h), (fun h => by rw [getD_replicate_false] at h; cases h), (fun h => by rw [getD_replicate_false] at h; cases h), (fun h => by rw [getD_replicate_false] at h; cases h), (fun h => by rw [getD_replicate_false] at h; cases h), (fun h => by rw [getD_replicate_false] at h; cases h), (fun h => by rw [getD_replicate_false] at h; cases h), (fun h => by rw [getD_replicate_false] at h; cases h), (fun h => by rw [getD_replicate_false] at h; cases h), (fun h => by rw [getD_replicate_false] at h; cases h), (fun h => by rw [getD_replicate_false] at h; cases h), (fun h => by rw [getD_replicate_false] at h; cases h), (fun h => by rw [getD_replicate_false] at h; cases h), (fun h => by rw [getD_replicate_false] at h; cases h), (fun h => by rw [getD_replicate_false] at h; cases h), (fun h => by rw [getD_replicate_false] at h; cases h), (fun h => by rw [getD_replicate_false] at h; cases h), (fun h => by rw [getD_replicate_false] at h; cases h)⟩
def InvPB (fr : Value → Value → Value → Value → Value → Value → Value → Value → Value → Value → Value → Value → Value → Act) (Ap : Option Addr) (mk cp nt bm om lm cm j : Nat) (x y : Int) (W1 : World) (L : Array Bool) (a : Act) (w : World) : Prop :=
  ∃ x0 x1 x2 x3 x4 x5 x6 x7 x8 x9 x10 x11 x12 : Value, a = fr x0 x1 x2 x3 x4 x5 x6 x7 x8 x9 x10 x11 x12 ∧ Below W1.heap.size W1 w ∧ (L.getD 0 false = true → x0 = .slice Ap mk cp) ∧ (L.getD 1 false = true → x1 = .int .i64 x) ∧ (L.getD 2 false = true → x2 = .string (⟨(Lib.itoa x).toArray⟩ : ByteArray)) ∧ (L.getD 3 false = true → x3 = .string ((⟨#[32]⟩ : ByteArray) ++ (⟨(Lib.itoa x).toArray⟩ : ByteArray))) ∧ (L.getD 4 false = true → x4 = .string ((⟨#[32]⟩ : ByteArray) ++ (⟨(Lib.itoa x).toArray⟩ : ByteArray) ++ (⟨#[58]⟩ : ByteArray))) ∧ (L.getD 5 false = true → x5 = .pointer (some ⟨nt, 2, none⟩)) ∧ (L.getD 6 false = true → x6 = .slice (some ⟨bm, om, none⟩) lm cm) ∧ (L.getD 7 false = true → x7 = .int .i64 j) ∧ (L.getD 8 false = true → x8 = .pointer (some ⟨bm, om + j, none⟩)) ∧ (L.getD 9 false = true → x9 = .int .i64 y) ∧ (L.getD 10 false = true → x10 = .string (⟨(Lib.itoa y).toArray⟩ : ByteArray)) ∧ (L.getD 11 false = true → x11 = .string ((⟨#[32]⟩ : ByteArray) ++ (⟨(Lib.itoa x).toArray⟩ : ByteArray) ++ (⟨#[58]⟩ : ByteArray) ++ (⟨(Lib.itoa y).toArray⟩ : ByteArray))) ∧ (L.getD 12 false = true → RB ((⟨#[32]⟩ : ByteArray) ++ (⟨(Lib.itoa x).toArray⟩ : ByteArray) ++ (⟨#[58]⟩ : ByteArray) ++ (⟨(Lib.itoa y).toArray⟩ : ByteArray)) W1 x12 w)
theorem InvPB.start {m : Nat} {fr : Value → Value → Value → Value → Value → Value → Value → Value → Value → Value → Value → Value → Value → Act} {Ap : Option Addr} {mk cp nt bm om lm cm j : Nat} {x y : Int} {W1 : World} {a : Act} (x0 x1 x2 x3 x4 x5 x6 x7 x8 x9 x10 x11 x12 : Value) (h : a = fr x0 x1 x2 x3 x4 x5 x6 x7 x8 x9 x10 x11 x12) : InvPB fr Ap mk cp nt bm om lm cm j x y W1 (Array.replicate m false) a W1 :=
  ⟨x0, x1, x2, x3, x4, x5, x6, x7, x8, x9, x10, x11, x12, h, Below.refl _ _, (fun h => by rw [getD_replicate_false] at h; cases h), (fun h => by rw [getD_replicate_false] at h; cases h), (fun h => by rw [getD_replicate_false] at h; cases h), (fun h => by rw [getD_replicate_false] at h; cases h), (fun h => by rw [getD_replicate_false] at h; cases h), (fun h => by rw [getD_replicate_false] at h; cases h), (fun h => by rw [getD_replicate_false] at h; cases h), (fun h => by rw [getD_replicate_false] at h; cases h), (fun h => by rw [getD_replicate_false] at h; cases h), (fun h => by rw [getD_replicate_false] at h; cases h), (fun h => by rw [getD_replicate_false] at h; cases h), (fun h => by rw [getD_replicate_false] at h; cases h), (fun h => by rw [getD_replicate_false] at h; cases h)⟩

set_option maxRecDepth 100000 in
set_option maxHeartbeats 4000000 in
theorem indexBytes_q (D : List DocR) (S : List Int) (T : List TermR) (dv sv tv : Value) (w : World) (h : IdxAt w dv sv tv D S T) (hS : D.length ≤ S.length) (hT : ∀ t ∈ T, t.docs.length ≤ t.many.length) (hlen : (idxT D S T).length ≤ 1073741824) (htab : TabOk w) :
    Calls Tryz.prog 19 #[.agg #[dv, sv, tv]] w fun e w' => e = .returned (.string ⟨(idxT D S T).toArray⟩) ∧ Below w.heap.size w w' := by
  obtain ⟨⟨A, c, b, o, rfl, hlc, hc, hA, hcell⟩, ⟨A2, c2, b2, o2, rfl, hlc2, hc2, hA2, hcell2⟩, ⟨A3, c3, b3, o3, dvs, mvs, rfl, hlc3, hc3, hA3, hcell3⟩⟩ := h
  unfold maxLen at hc hc2 hc3
  have HCell := Lib.hid hcell; clear hcell
  have HCell2 := Lib.hid hcell2; clear hcell2
  have HCell3 := Lib.hid hcell3; clear hcell3
  have HA := Lib.hid hA; clear hA
  have HA2 := Lib.hid hA2; clear hA2
  have HA3 := Lib.hid hA3; clear hA3
  have HT := Lib.hid hT; clear hT
  have HLen := Lib.hid hlen; clear hlen
  have HTab := Lib.hid htab; clear htab
  go_enter Tryz.func19, Tryz.ntmps19
  go_wp2_with fail
  obtain ⟨W0, hW0⟩ : ∃ W0, w.alloc (.cells #[.slice A D.length c, .slice A2 S.length c2, .slice A3 T.length c3] 26) = W0 := ⟨_, rfl⟩
  have hs0 : W0.heap.size = w.heap.size + 1 := by rw [← hW0]; simp
  have HX0 := Lib.hid (show CB W0 w.heap.size 26 #[.slice A D.length c, .slice A2 S.length c2, .slice A3 T.length c3] by rw [← hW0]; exact CB.new _ _ _)
  have HB0 := Lib.hid (show Below w.heap.size w W0 by rw [← hW0]; exact (Below.refl _ _).alloc (Nat.le_refl _) _)
  rw [hW0]
  clear hW0
  obtain ⟨nb, hnb⟩ : ∃ nb, w.heap.size = nb := ⟨_, rfl⟩
  rw [hnb] at HX0 hs0
  have HNb := Lib.hid hnb
  rw [hnb]
  clear hnb
  go_loopw [3, 13] (fun t3 t wr => ∃ (k : Nat) (pl : List ByteArray) (Ap : Option Addr) (mk cp : Nat), k ≤ D.length ∧ t = .int .i64 k ∧ t3 = .slice Ap mk cp ∧ Hid (docsT D S = joinB pl ++ docsT (D.drop k) (S.drop k)) ∧ Hid (PartsIn (nb + 1) pl Ap mk cp wr) ∧ Hid (CB wr nb 26 #[.slice A D.length c, .slice A2 S.length c2, .slice A3 T.length c3]) ∧ Hid (Below w.heap.size w wr)) (fun _ t _ => D.length - (intOf t).toNat)
  case atStart => exact ⟨0, [], none, 0, 0, Nat.zero_le _, rfl, rfl, rfl, ⟨World.ownsRow_nil _ _ _ _, rfl, Nat.zero_le _⟩, HX0.out, HB0.out⟩
  case round =>
    clear HX0 HB0 hs0
    obtain ⟨k, pl, Ap, mk, cp, hk, rfl, rfl, HU, HPl, HX, HB⟩ := hrel
    have hnr : nb < wr.heap.size := HX.out.lt
    by_cases hlt : k < D.length
    · have hA' := HA.out (by rintro rfl; simp at hlt)
      subst hA'
      clear HA
      obtain ⟨⟨addr, title, text⟩, hn⟩ : ∃ n, D[k]? = some n := ⟨_, List.getElem?_eq_getElem hlt⟩
      obtain ⟨n, hn2⟩ : ∃ n, S[k]? = some n := ⟨_, List.getElem?_eq_getElem (by omega)⟩
      have hA2' := HA2.out (by rintro rfl; simp at hn2)
      subst hA2'
      obtain ⟨p0, p1, p2⟩ := (HCell.out k _ hn).keep (Keeps.of_below HB.out)
      simp only at p0 p1 p2
      obtain ⟨s0, s1⟩ := HCell2.out k _ hn2
      have HS0 := Lib.hid (Keeps.of_below HB.out _ _ s0)
      have HI := Lib.hid s1
      clear s0 s1
      have bb := World.block_lt_of_cell? _ _ p0
      simp only at bb
      have HU2 := Lib.hid (HU.out.trans (by rw [docsT_at hn hn2]))
      have hkS : k < S.length := by omega
      clear hn hn2
      go_wp2_with fail
      obtain ⟨W2, hW2⟩ : ∃ W2, wr.alloc (.cells #[.string addr, .string title, .string text] 33) = W2 := ⟨_, rfl⟩
      obtain ⟨nd, hnd⟩ : ∃ nd, wr.heap.size = nd := ⟨_, rfl⟩
      have HPl2 := Lib.hid (show PartsIn (nb + 1) pl Ap mk cp W2 by rw [← hW2]; exact HPl.out.below ((Below.refl _ _).alloc (Nat.le_refl _) _))
      have HB2 := Lib.hid (show Below w.heap.size w W2 by rw [← hW2]; exact HB.out.alloc HB.out.size _)
      have HX2 := Lib.hid (show CB W2 nb 26 _ by rw [← hW2]; exact HX.out.alloc _)
      have HD2 := Lib.hid (show CB W2 nd 33 #[.string addr, .string title, .string text] by rw [← hW2, ← hnd]; exact CB.new _ _ _)
      have HS2 := Lib.hid (show W2.cell? ⟨b2, o2 + k, none⟩ = some (.int .i64 n) by rw [← hW2]; exact Keeps.of_below ((Below.refl _ _).alloc (Nat.le_refl _) _) _ _ HS0.out)
      rw [hW2, hnd]
      have hW2s : nb + 1 ≤ W2.heap.size := by rw [← hW2]; simp; omega
      clear hW2 HPl HB HX HS0 p0 p1 p2 bb
      refine wp_region_any (by kernel_rfl) ?_
      change wpAny _ _ _ _ _ _ _ W2.drew
      obtain ⟨W3, hW3⟩ : ∃ W3, W2.drew = W3 := ⟨_, rfl⟩
      have HD3 := Lib.hid (show CB W3 nd 33 #[.string addr, .string title, .string text] by rw [← hW3]; exact HD2.out.drew)
      have HX3 := Lib.hid (show CB W3 nb 26 _ by rw [← hW3]; exact HX2.out.drew)
      have HS3 := Lib.hid (show W3.cell? ⟨b2, o2 + k, none⟩ = some (.int .i64 n) by rw [← hW3]; exact HS2.out)
      have HB3 := Lib.hid (show Below w.heap.size w W3 by rw [← hW3]; exact HB2.out.drew)
      have HPl3 := Lib.hid (show PartsIn (nb + 1) pl Ap mk cp W3 by rw [← hW3]; exact HPl2.out.below (Below.refl _ _).drew)
      have HTab3 := Lib.hid (HTab.out.keep HB3.out)
      have hW3s : nb + 1 ≤ W3.heap.size := by rw [← hW3]; simpa using hW2s
      rw [hW3]
      have hIl : (Lib.itoa n).length ≤ 21 := itL_len HI.out
      have hIz : (⟨(Lib.itoa n).toArray⟩ : ByteArray).size ≤ 21 := by rw [← size_toList]; exact hIl
      have hdl : addr.size + title.size ≤ 1073741824 := by
        have h1 := HLen.out
        rw [idxT, HU2.out] at h1
        simp only [docT, List.length_append, size_toList] at h1
        omega
      have hmk : mk ≤ 1073741824 := by
        have h1 := HLen.out
        have h2 := HPl3.out.le
        rw [idxT, HU2.out] at h1
        simp only [List.length_append] at h1
        omega
      clear hW3 HD2 HX2 HS2 HB2 HPl2
      refine wpAny_inv [0, 1, 2, 3, 4, 5, 6, 7, 8, 9, 10, 11, 12, 13, 14, 15, 16, 17] (InvDB (fun v18 v19 v20 v21 v22 v23 v24 v25 v26 v27 v28 v29 v30 v31 v32 v33 v34 v35 => ⟨#[.agg #[.slice (some ⟨b, o, none⟩) D.length c, .slice (some ⟨b2, o2, none⟩) S.length c2, .slice A3 T.length c3], .pointer (some ⟨nb, 0, none⟩), .string ⟨#[]⟩, .slice Ap mk cp, .int .i64 ↑k, .pointer (some ⟨nd, 0, none⟩), undef, undef, undef, undef, .pointer (some ⟨nb, 0, none⟩), .slice (some ⟨b, o, none⟩) D.length c, .int .i64 ↑D.length, .int .i64 ↑k, .bool true, .int .i64 ↑k, .pointer (some ⟨b, o + k * 3, none⟩), .agg #[.string addr, .string title, .string text], v18, v19, v20, v21, v22, v23, v24, v25, v26, v27, v28, v29, v30, v31, v32, v33, v34, v35, u36, u37, undef, undef, undef, undef, undef, undef, undef, undef, undef, undef, undef, undef, undef, undef, undef, undef, undef, undef, undef, undef, undef, undef, undef, undef, undef, undef, undef, undef, undef, undef, undef, undef, undef, undef, undef, undef, undef, undef, undef, undef, undef, undef], []⟩) Ap mk cp nb nd b2 o2 S.length c2 k addr title n W3) #[true, true, true, true, true, true, true, true, true, true, true, true, true, true, true, true, true, true, false, false] (g := 2) (by kernel_rfl) (by kernel_rfl) (by kernel_rfl) (InvDB.start u18 u19 u20 u21 u22 u23 u24 u25 u26 u27 u28 u29 u30 u31 u32 u33 u34 u35 rfl) ?step ?last
      case step =>
        intro i hi L a' w' hs hr hI
        obtain ⟨x0, x1, x2, x3, x4, x5, x6, x7, x8, x9, x10, x11, x12, x13, x14, x15, x16, x17, rfl, hB, h0, h1, h2, h3, h4, h5, h6, h7, h8, h9, h10, h11, h12, h13, h14, h15, h16, h17⟩ := hI
        simp only [List.mem_cons, List.not_mem_nil, or_false] at hi
        rcases hi with rfl | rfl | rfl | rfl | rfl | rfl | rfl | rfl | rfl | rfl | rfl | rfl | rfl | rfl | rfl | rfl | rfl | rfl
        · refine wpOp_step rfl (fun K hK => ?_)
          go_simp
          exact hK _ _ ⟨_, _, _, _, _, _, _, _, _, _, _, _, _, _, _, _, _, _, rfl, hB, fun _ => rfl, fun h => h1 (getD_was (by decide) h), fun h => h2 (getD_was (by decide) h), fun h => h3 (getD_was (by decide) h), fun h => h4 (getD_was (by decide) h), fun h => h5 (getD_was (by decide) h), fun h => h6 (getD_was (by decide) h), fun h => h7 (getD_was (by decide) h), fun h => h8 (getD_was (by decide) h), fun h => h9 (getD_was (by decide) h), fun h => h10 (getD_was (by decide) h), fun h => h11 (getD_was (by decide) h), fun h => h12 (getD_was (by decide) h), fun h => h13 (getD_was (by decide) h), fun h => h14 (getD_was (by decide) h), fun h => h15 (getD_was (by decide) h), fun h => h16 (getD_was (by decide) h), fun h => h17 (getD_was (by decide) h)⟩
        · refine wpOp_step rfl (fun K hK => ?_)
          go_simp
          exact hK _ _ ⟨_, _, _, _, _, _, _, _, _, _, _, _, _, _, _, _, _, _, rfl, hB, fun h => h0 (getD_was (by decide) h), fun _ => rfl, fun h => h2 (getD_was (by decide) h), fun h => h3 (getD_was (by decide) h), fun h => h4 (getD_was (by decide) h), fun h => h5 (getD_was (by decide) h), fun h => h6 (getD_was (by decide) h), fun h => h7 (getD_was (by decide) h), fun h => h8 (getD_was (by decide) h), fun h => h9 (getD_was (by decide) h), fun h => h10 (getD_was (by decide) h), fun h => h11 (getD_was (by decide) h), fun h => h12 (getD_was (by decide) h), fun h => h13 (getD_was (by decide) h), fun h => h14 (getD_was (by decide) h), fun h => h15 (getD_was (by decide) h), fun h => h16 (getD_was (by decide) h), fun h => h17 (getD_was (by decide) h)⟩
        · have q1 := h1 (ready_dep hr (by kernel_rfl))
          subst q1
          have z := (HD3.out.below hB).c 0
          simp only [List.getElem?_toArray, List.getElem?_cons_zero] at z
          refine wpOp_step rfl (fun K hK => ?_)
          go_simp
          exact hK _ _ ⟨_, _, _, _, _, _, _, _, _, _, _, _, _, _, _, _, _, _, rfl, hB, fun h => h0 (getD_was (by decide) h), fun _ => rfl, fun _ => rfl, fun h => h3 (getD_was (by decide) h), fun h => h4 (getD_was (by decide) h), fun h => h5 (getD_was (by decide) h), fun h => h6 (getD_was (by decide) h), fun h => h7 (getD_was (by decide) h), fun h => h8 (getD_was (by decide) h), fun h => h9 (getD_was (by decide) h), fun h => h10 (getD_was (by decide) h), fun h => h11 (getD_was (by decide) h), fun h => h12 (getD_was (by decide) h), fun h => h13 (getD_was (by decide) h), fun h => h14 (getD_was (by decide) h), fun h => h15 (getD_was (by decide) h), fun h => h16 (getD_was (by decide) h), fun h => h17 (getD_was (by decide) h)⟩
        · have q2 := h2 (ready_dep hr (by kernel_rfl))
          subst q2
          refine wpOp_step rfl (fun K hK => ?_)
          go_simp
          rw [if_neg (by first | omega | (simp only [ByteArray.size_append]; omega) | (simp; omega))]
          go_simp
          exact hK _ _ ⟨_, _, _, _, _, _, _, _, _, _, _, _, _, _, _, _, _, _, rfl, hB, fun h => h0 (getD_was (by decide) h), fun h => h1 (getD_was (by decide) h), fun _ => rfl, fun _ => rfl, fun h => h4 (getD_was (by decide) h), fun h => h5 (getD_was (by decide) h), fun h => h6 (getD_was (by decide) h), fun h => h7 (getD_was (by decide) h), fun h => h8 (getD_was (by decide) h), fun h => h9 (getD_was (by decide) h), fun h => h10 (getD_was (by decide) h), fun h => h11 (getD_was (by decide) h), fun h => h12 (getD_was (by decide) h), fun h => h13 (getD_was (by decide) h), fun h => h14 (getD_was (by decide) h), fun h => h15 (getD_was (by decide) h), fun h => h16 (getD_was (by decide) h), fun h => h17 (getD_was (by decide) h)⟩
        · have q3 := h3 (ready_dep hr (by kernel_rfl))
          subst q3
          refine wpOp_step rfl (fun K hK => ?_)
          go_simp
          rw [if_neg (by first | omega | (simp only [ByteArray.size_append]; omega) | (simp; omega))]
          go_simp
          exact hK _ _ ⟨_, _, _, _, _, _, _, _, _, _, _, _, _, _, _, _, _, _, rfl, hB, fun h => h0 (getD_was (by decide) h), fun h => h1 (getD_was (by decide) h), fun h => h2 (getD_was (by decide) h), fun _ => rfl, fun _ => rfl, fun h => h5 (getD_was (by decide) h), fun h => h6 (getD_was (by decide) h), fun h => h7 (getD_was (by decide) h), fun h => h8 (getD_was (by decide) h), fun h => h9 (getD_was (by decide) h), fun h => h10 (getD_was (by decide) h), fun h => h11 (getD_was (by decide) h), fun h => h12 (getD_was (by decide) h), fun h => h13 (getD_was (by decide) h), fun h => h14 (getD_was (by decide) h), fun h => h15 (getD_was (by decide) h), fun h => h16 (getD_was (by decide) h), fun h => h17 (getD_was (by decide) h)⟩
        · refine wpOp_step rfl (fun K hK => ?_)
          go_simp
          exact hK _ _ ⟨_, _, _, _, _, _, _, _, _, _, _, _, _, _, _, _, _, _, rfl, hB, fun h => h0 (getD_was (by decide) h), fun h => h1 (getD_was (by decide) h), fun h => h2 (getD_was (by decide) h), fun h => h3 (getD_was (by decide) h), fun h => h4 (getD_was (by decide) h), fun _ => rfl, fun h => h6 (getD_was (by decide) h), fun h => h7 (getD_was (by decide) h), fun h => h8 (getD_was (by decide) h), fun h => h9 (getD_was (by decide) h), fun h => h10 (getD_was (by decide) h), fun h => h11 (getD_was (by decide) h), fun h => h12 (getD_was (by decide) h), fun h => h13 (getD_was (by decide) h), fun h => h14 (getD_was (by decide) h), fun h => h15 (getD_was (by decide) h), fun h => h16 (getD_was (by decide) h), fun h => h17 (getD_was (by decide) h)⟩
        · have q5 := h5 (ready_dep hr (by kernel_rfl))
          subst q5
          have z := (HX3.out.below hB).c 1
          simp only [List.getElem?_toArray, List.getElem?_cons_zero, List.getElem?_cons_succ] at z
          refine wpOp_step rfl (fun K hK => ?_)
          go_simp
          exact hK _ _ ⟨_, _, _, _, _, _, _, _, _, _, _, _, _, _, _, _, _, _, rfl, hB, fun h => h0 (getD_was (by decide) h), fun h => h1 (getD_was (by decide) h), fun h => h2 (getD_was (by decide) h), fun h => h3 (getD_was (by decide) h), fun h => h4 (getD_was (by decide) h), fun _ => rfl, fun _ => rfl, fun h => h7 (getD_was (by decide) h), fun h => h8 (getD_was (by decide) h), fun h => h9 (getD_was (by decide) h), fun h => h10 (getD_was (by decide) h), fun h => h11 (getD_was (by decide) h), fun h => h12 (getD_was (by decide) h), fun h => h13 (getD_was (by decide) h), fun h => h14 (getD_was (by decide) h), fun h => h15 (getD_was (by decide) h), fun h => h16 (getD_was (by decide) h), fun h => h17 (getD_was (by decide) h)⟩
        · refine wpOp_step rfl (fun K hK => ?_)
          go_simp
          exact hK _ _ ⟨_, _, _, _, _, _, _, _, _, _, _, _, _, _, _, _, _, _, rfl, hB, fun h => h0 (getD_was (by decide) h), fun h => h1 (getD_was (by decide) h), fun h => h2 (getD_was (by decide) h), fun h => h3 (getD_was (by decide) h), fun h => h4 (getD_was (by decide) h), fun h => h5 (getD_was (by decide) h), fun h => h6 (getD_was (by decide) h), fun _ => rfl, fun h => h8 (getD_was (by decide) h), fun h => h9 (getD_was (by decide) h), fun h => h10 (getD_was (by decide) h), fun h => h11 (getD_was (by decide) h), fun h => h12 (getD_was (by decide) h), fun h => h13 (getD_was (by decide) h), fun h => h14 (getD_was (by decide) h), fun h => h15 (getD_was (by decide) h), fun h => h16 (getD_was (by decide) h), fun h => h17 (getD_was (by decide) h)⟩
        · have q6 := h6 (ready_dep hr (by kernel_rfl))
          have q7 := h7 (ready_dep hr (by kernel_rfl))
          subst q6
          subst q7
          refine wpOp_step rfl (fun K hK => ?_)
          go_simp
          exact hK _ _ ⟨_, _, _, _, _, _, _, _, _, _, _, _, _, _, _, _, _, _, rfl, hB, fun h => h0 (getD_was (by decide) h), fun h => h1 (getD_was (by decide) h), fun h => h2 (getD_was (by decide) h), fun h => h3 (getD_was (by decide) h), fun h => h4 (getD_was (by decide) h), fun h => h5 (getD_was (by decide) h), fun _ => rfl, fun _ => rfl, fun _ => rfl, fun h => h9 (getD_was (by decide) h), fun h => h10 (getD_was (by decide) h), fun h => h11 (getD_was (by decide) h), fun h => h12 (getD_was (by decide) h), fun h => h13 (getD_was (by decide) h), fun h => h14 (getD_was (by decide) h), fun h => h15 (getD_was (by decide) h), fun h => h16 (getD_was (by decide) h), fun h => h17 (getD_was (by decide) h)⟩
        · have q8 := h8 (ready_dep hr (by kernel_rfl))
          subst q8
          have z := Keeps.of_below hB _ _ HS3.out
          refine wpOp_step rfl (fun K hK => ?_)
          go_simp
          exact hK _ _ ⟨_, _, _, _, _, _, _, _, _, _, _, _, _, _, _, _, _, _, rfl, hB, fun h => h0 (getD_was (by decide) h), fun h => h1 (getD_was (by decide) h), fun h => h2 (getD_was (by decide) h), fun h => h3 (getD_was (by decide) h), fun h => h4 (getD_was (by decide) h), fun h => h5 (getD_was (by decide) h), fun h => h6 (getD_was (by decide) h), fun h => h7 (getD_was (by decide) h), fun _ => rfl, fun _ => rfl, fun h => h10 (getD_was (by decide) h), fun h => h11 (getD_was (by decide) h), fun h => h12 (getD_was (by decide) h), fun h => h13 (getD_was (by decide) h), fun h => h14 (getD_was (by decide) h), fun h => h15 (getD_was (by decide) h), fun h => h16 (getD_was (by decide) h), fun h => h17 (getD_was (by decide) h)⟩
        · have q9 := h9 (ready_dep hr (by kernel_rfl))
          subst q9
          refine wpOp_step rfl (fun K hK => ?_)
          go_simp
          refine (itoa_any n _ HI.out (HTab3.out.keep hB)).mono ?_
          rintro e w'' ⟨rfl, hb⟩
          exact hK _ _ ⟨_, _, _, _, _, _, _, _, _, _, _, _, _, _, _, _, _, _, rfl, hB.trans (hb.mono hB.size), fun h => h0 (getD_was (by decide) h), fun h => h1 (getD_was (by decide) h), fun h => h2 (getD_was (by decide) h), fun h => h3 (getD_was (by decide) h), fun h => h4 (getD_was (by decide) h), fun h => h5 (getD_was (by decide) h), fun h => h6 (getD_was (by decide) h), fun h => h7 (getD_was (by decide) h), fun h => h8 (getD_was (by decide) h), fun _ => rfl, fun _ => rfl, fun h => h11 (getD_was (by decide) h), fun h => h12 (getD_was (by decide) h), fun h => h13 (getD_was (by decide) h), fun h => h14 (getD_was (by decide) h), fun h => h15 (getD_was (by decide) h), fun h => h16 (getD_was (by decide) h), fun h => (h17 (getD_was (by decide) h)).below hb⟩
        · have q4 := h4 (ready_dep hr (by kernel_rfl))
          have q10 := h10 (ready_dep hr (by kernel_rfl))
          subst q4
          subst q10
          refine wpOp_step rfl (fun K hK => ?_)
          go_simp
          rw [if_neg (by first | omega | (simp only [ByteArray.size_append]; omega) | (simp; omega))]
          go_simp
          exact hK _ _ ⟨_, _, _, _, _, _, _, _, _, _, _, _, _, _, _, _, _, _, rfl, hB, fun h => h0 (getD_was (by decide) h), fun h => h1 (getD_was (by decide) h), fun h => h2 (getD_was (by decide) h), fun h => h3 (getD_was (by decide) h), fun _ => rfl, fun h => h5 (getD_was (by decide) h), fun h => h6 (getD_was (by decide) h), fun h => h7 (getD_was (by decide) h), fun h => h8 (getD_was (by decide) h), fun h => h9 (getD_was (by decide) h), fun _ => rfl, fun _ => rfl, fun h => h12 (getD_was (by decide) h), fun h => h13 (getD_was (by decide) h), fun h => h14 (getD_was (by decide) h), fun h => h15 (getD_was (by decide) h), fun h => h16 (getD_was (by decide) h), fun h => h17 (getD_was (by decide) h)⟩
        · have q11 := h11 (ready_dep hr (by kernel_rfl))
          subst q11
          refine wpOp_step rfl (fun K hK => ?_)
          go_simp
          rw [if_neg (by first | omega | (simp only [ByteArray.size_append]; omega) | (simp; omega))]
          go_simp
          exact hK _ _ ⟨_, _, _, _, _, _, _, _, _, _, _, _, _, _, _, _, _, _, rfl, hB, fun h => h0 (getD_was (by decide) h), fun h => h1 (getD_was (by decide) h), fun h => h2 (getD_was (by decide) h), fun h => h3 (getD_was (by decide) h), fun h => h4 (getD_was (by decide) h), fun h => h5 (getD_was (by decide) h), fun h => h6 (getD_was (by decide) h), fun h => h7 (getD_was (by decide) h), fun h => h8 (getD_was (by decide) h), fun h => h9 (getD_was (by decide) h), fun h => h10 (getD_was (by decide) h), fun _ => rfl, fun _ => rfl, fun h => h13 (getD_was (by decide) h), fun h => h14 (getD_was (by decide) h), fun h => h15 (getD_was (by decide) h), fun h => h16 (getD_was (by decide) h), fun h => h17 (getD_was (by decide) h)⟩
        · refine wpOp_step rfl (fun K hK => ?_)
          go_simp
          exact hK _ _ ⟨_, _, _, _, _, _, _, _, _, _, _, _, _, _, _, _, _, _, rfl, hB, fun h => h0 (getD_was (by decide) h), fun h => h1 (getD_was (by decide) h), fun h => h2 (getD_was (by decide) h), fun h => h3 (getD_was (by decide) h), fun h => h4 (getD_was (by decide) h), fun h => h5 (getD_was (by decide) h), fun h => h6 (getD_was (by decide) h), fun h => h7 (getD_was (by decide) h), fun h => h8 (getD_was (by decide) h), fun h => h9 (getD_was (by decide) h), fun h => h10 (getD_was (by decide) h), fun h => h11 (getD_was (by decide) h), fun h => h12 (getD_was (by decide) h), fun _ => rfl, fun h => h14 (getD_was (by decide) h), fun h => h15 (getD_was (by decide) h), fun h => h16 (getD_was (by decide) h), fun h => h17 (getD_was (by decide) h)⟩
        · have q13 := h13 (ready_dep hr (by kernel_rfl))
          subst q13
          have z := (HD3.out.below hB).c 1
          simp only [List.getElem?_toArray, List.getElem?_cons_zero, List.getElem?_cons_succ] at z
          refine wpOp_step rfl (fun K hK => ?_)
          go_simp
          exact hK _ _ ⟨_, _, _, _, _, _, _, _, _, _, _, _, _, _, _, _, _, _, rfl, hB, fun h => h0 (getD_was (by decide) h), fun h => h1 (getD_was (by decide) h), fun h => h2 (getD_was (by decide) h), fun h => h3 (getD_was (by decide) h), fun h => h4 (getD_was (by decide) h), fun h => h5 (getD_was (by decide) h), fun h => h6 (getD_was (by decide) h), fun h => h7 (getD_was (by decide) h), fun h => h8 (getD_was (by decide) h), fun h => h9 (getD_was (by decide) h), fun h => h10 (getD_was (by decide) h), fun h => h11 (getD_was (by decide) h), fun h => h12 (getD_was (by decide) h), fun _ => rfl, fun _ => rfl, fun h => h15 (getD_was (by decide) h), fun h => h16 (getD_was (by decide) h), fun h => h17 (getD_was (by decide) h)⟩
        · have q12 := h12 (ready_dep hr (by kernel_rfl))
          have q14 := h14 (ready_dep hr (by kernel_rfl))
          subst q12
          subst q14
          refine wpOp_step rfl (fun K hK => ?_)
          go_simp
          rw [if_neg (by first | omega | (simp only [ByteArray.size_append]; omega) | (simp; omega))]
          go_simp
          exact hK _ _ ⟨_, _, _, _, _, _, _, _, _, _, _, _, _, _, _, _, _, _, rfl, hB, fun h => h0 (getD_was (by decide) h), fun h => h1 (getD_was (by decide) h), fun h => h2 (getD_was (by decide) h), fun h => h3 (getD_was (by decide) h), fun h => h4 (getD_was (by decide) h), fun h => h5 (getD_was (by decide) h), fun h => h6 (getD_was (by decide) h), fun h => h7 (getD_was (by decide) h), fun h => h8 (getD_was (by decide) h), fun h => h9 (getD_was (by decide) h), fun h => h10 (getD_was (by decide) h), fun h => h11 (getD_was (by decide) h), fun _ => rfl, fun h => h13 (getD_was (by decide) h), fun _ => rfl, fun _ => rfl, fun h => h16 (getD_was (by decide) h), fun h => h17 (getD_was (by decide) h)⟩
        · have q15 := h15 (ready_dep hr (by kernel_rfl))
          subst q15
          refine wpOp_step rfl (fun K hK => ?_)
          go_simp
          rw [if_neg (by first | omega | (simp only [ByteArray.size_append]; omega) | (simp; omega))]
          go_simp
          exact hK _ _ ⟨_, _, _, _, _, _, _, _, _, _, _, _, _, _, _, _, _, _, rfl, hB, fun h => h0 (getD_was (by decide) h), fun h => h1 (getD_was (by decide) h), fun h => h2 (getD_was (by decide) h), fun h => h3 (getD_was (by decide) h), fun h => h4 (getD_was (by decide) h), fun h => h5 (getD_was (by decide) h), fun h => h6 (getD_was (by decide) h), fun h => h7 (getD_was (by decide) h), fun h => h8 (getD_was (by decide) h), fun h => h9 (getD_was (by decide) h), fun h => h10 (getD_was (by decide) h), fun h => h11 (getD_was (by decide) h), fun h => h12 (getD_was (by decide) h), fun h => h13 (getD_was (by decide) h), fun h => h14 (getD_was (by decide) h), fun _ => rfl, fun _ => rfl, fun h => h17 (getD_was (by decide) h)⟩
        · have q16 := h16 (ready_dep hr (by kernel_rfl))
          subst q16
          refine wpOp_step rfl (fun K hK => ?_)
          go_simp
          exact hK _ _ ⟨_, _, _, _, _, _, _, _, _, _, _, _, _, _, _, _, _, _, rfl, hB.alloc hB.size _, fun h => h0 (getD_was (by decide) h), fun h => h1 (getD_was (by decide) h), fun h => h2 (getD_was (by decide) h), fun h => h3 (getD_was (by decide) h), fun h => h4 (getD_was (by decide) h), fun h => h5 (getD_was (by decide) h), fun h => h6 (getD_was (by decide) h), fun h => h7 (getD_was (by decide) h), fun h => h8 (getD_was (by decide) h), fun h => h9 (getD_was (by decide) h), fun h => h10 (getD_was (by decide) h), fun h => h11 (getD_was (by decide) h), fun h => h12 (getD_was (by decide) h), fun h => h13 (getD_was (by decide) h), fun h => h14 (getD_was (by decide) h), fun h => h15 (getD_was (by decide) h), fun _ => rfl, fun _ => ⟨_, rfl, hB.size, CB.new _ _ _⟩⟩
      case last =>
        intro a' w' hI
        obtain ⟨x0, x1, x2, x3, x4, x5, x6, x7, x8, x9, x10, x11, x12, x13, x14, x15, x16, x17, rfl, hB, h0, h1, h2, h3, h4, h5, h6, h7, h8, h9, h10, h11, h12, h13, h14, h15, h16, h17⟩ := hI
        have q0 := h0 rfl
        have q17 := h17 rfl
        clear h0 h1 h2 h3 h4 h5 h6 h7 h8 h9 h10 h11 h12 h13 h14 h15 h16 h17
        subst q0
        obtain ⟨g, rfl, hg, hcb⟩ := q17
        refine wpAny_of_seqA 2 18 rfl (by kernel_rfl) ?_
        simp only [List.drop_succ_cons, List.drop_zero]
        have HB4 := Lib.hid (HB3.out.trans (hB.mono HB3.out.size))
        have hsz := hB.size
        have HPl4 := Lib.hid (HPl3.out.below hB)
        have HX4 := Lib.hid (HX3.out.below hB)
        have hs1 : 1 ≤ ((⟨#[100, 111, 99, 32]⟩ : ByteArray) ++ addr ++ (⟨#[32]⟩ : ByteArray) ++ (⟨(Lib.itoa n).toArray⟩ : ByteArray) ++ (⟨#[32]⟩ : ByteArray) ++ title ++ (⟨#[10]⟩ : ByteArray)).size := by simp only [ByteArray.size_append]; have : (⟨#[10]⟩ : ByteArray).size = 1 := rfl; omega
        refine wpList_push _ rfl (.tmp 18) (.tmp 35) 38 rfl (nb + 1) 9 (.string ⟨#[]⟩) 1 16 Tryz.underlying38 info_strB rfl (by omega) (.slice Ap mk cp) mk _ rfl HPl4.out.own [.string ((⟨#[100, 111, 99, 32]⟩ : ByteArray) ++ addr ++ (⟨#[32]⟩ : ByteArray) ++ (⟨(Lib.itoa n).toArray⟩ : ByteArray) ++ (⟨#[32]⟩ : ByteArray) ++ title ++ (⟨#[10]⟩ : ByteArray))] rfl g rfl (RB.cells hcb) (one_strB _) (by omega) (by unfold maxLen; omega) (by omega) ?_
        intro g9 c9 w9 own9 hg9 hgg9 hb9
        have HP9 := Lib.hid (HPl4.out.push own9 hs1)
        have HX9 := Lib.hid (CB.grownT HPl4.out.own hg9 HX4.out (by decide))
        have HB9 := Lib.hid (HB4.out.trans (hb9.mono (by have := HNb.out; omega)))
        clear own9 hg9 hgg9 hb9
        go_wp2_with fail
        go_roundw
        case rel =>
          refine ⟨k + 1, _, _, _, _, by omega, by go_num, rfl, ?_, HP9.out, HX9.out, HB9.out⟩
          show docsT D S = _
          rw [HU2.out, joinB_push, doc_bytes addr title text n, List.append_assoc]
        case measure => simp [intOf]; omega
    · have HU2 := Lib.hid (show docsT D S = joinB pl by rw [HU.out, show k = D.length by omega, docsT_end, List.append_nil])
      clear HU HA
      have bx2 := HX.out.c 2
      have bsh := HX.out.sh
      go_wp2_with fail
      go_loopw [3, 41] (fun t3 t wr => ∃ (k : Nat) (pl : List ByteArray) (Ap : Option Addr) (mk cp : Nat), k ≤ T.length ∧ t = .int .i64 k ∧ t3 = .slice Ap mk cp ∧ Hid (idxT D S T = joinB pl ++ termsT (T.drop k)) ∧ Hid (PartsIn (nb + 1) pl Ap mk cp wr) ∧ Hid (Below w.heap.size w wr) ∧ Hid (nb + 1 ≤ wr.heap.size)) (fun _ t _ => T.length - (intOf t).toNat)
      case atStart => exact ⟨0, pl, Ap, mk, cp, Nat.zero_le _, rfl, rfl, (show idxT D S T = _ by rw [idxT, HU2.out]; rfl), HPl.out, HB.out, (show nb + 1 ≤ wr.heap.size by omega)⟩
      case round =>
        clear HU2 HPl HB HX bx2 bsh hnr hk
        obtain ⟨i, pl1, Aq, mq, cq, hi, rfl, rfl, HU, HPl, HB, HSz⟩ := hrel
        by_cases hlt3 : i < T.length
        · have hA3' := HA3.out (by rintro rfl; simp at hlt3)
          subst hA3'
          clear HA3
          obtain ⟨⟨word, ds, ms⟩, hn⟩ : ∃ n, T[i]? = some n := ⟨_, List.getElem?_eq_getElem hlt3⟩
          have HU2 := Lib.hid (HU.out.trans (by rw [termsT_at hn]))
          obtain ⟨q0, q1, q2, _, _⟩ := (HCell3.out i _ hn).keep (Keeps.of_below HB.out)
          obtain ⟨_, _, _, qd, qm⟩ := HCell3.out i _ hn
          simp only at q0 q1 q2 qd qm
          have hdm := HT.out _ (List.mem_of_getElem? hn)
          simp only at hdm
          clear hn
          obtain ⟨Ad, cd, bd, od, hdv, hlcd, hcd, hAd, hcelld⟩ := qd
          obtain ⟨Am, cm, bm, om, hmv, hlcm, hcm, hAm, hcellm⟩ := qm
          rw [hdv] at q1
          rw [hmv] at q2
          clear hdv hmv
          unfold maxLen at hcd hcm
          have HCd := Lib.hid hcelld; clear hcelld
          have HCm := Lib.hid hcellm; clear hcellm
          have HAd := Lib.hid hAd; clear hAd
          have HAm := Lib.hid hAm; clear hAm
          have bb := World.block_lt_of_cell? _ _ q0
          simp only at bb
          have hwl : word.size ≤ 1073741824 ∧ mq ≤ 1073741824 := by
            have h1 := HLen.out
            have h2 := HPl.out.le
            rw [HU2.out] at h1
            simp only [termT, List.length_append, size_toList] at h1
            omega
          obtain ⟨hwl, hmq⟩ := hwl
          obtain ⟨W4, hW4⟩ : ∃ W4, wr.alloc (.cells #[.string word, .slice Ad ds.length cd, .slice Am ms.length cm] 44) = W4 := ⟨_, rfl⟩
          obtain ⟨nt, hnt⟩ : ∃ nt, wr.heap.size = nt := ⟨_, rfl⟩
          have HPl4 := Lib.hid (show PartsIn (nb + 1) pl1 Aq mq cq W4 by rw [← hW4]; exact HPl.out.below ((Below.refl _ _).alloc (Nat.le_refl _) _))
          have HB4 := Lib.hid (show Below w.heap.size w W4 by rw [← hW4]; exact HB.out.alloc HB.out.size _)
          have HX4 := Lib.hid (show CB W4 nt 44 #[.string word, .slice Ad ds.length cd, .slice Am ms.length cm] by rw [← hW4, ← hnt]; exact CB.new _ _ _)
          have hs4 : W4.heap.size = nt + 1 := by rw [← hW4, ← hnt]; simp
          have HS4 := Lib.hid hs4
          clear hs4
          have hntb : nb + 1 ≤ nt := by have := HSz.out; omega
          have HW4 := Lib.hid hW4
          have HNt := Lib.hid hnt
          clear hW4 hnt HPl HB
          go_wp2_with (at_builtin; rw [HW4.out, HNt.out]; have hh := HPl4.out.own.alloc (.cells #[.string ((⟨#[116, 101, 114, 109, 32]⟩ : ByteArray) ++ word)] 9); have k3 : nb + 1 ≤ (W4.alloc (.cells #[.string ((⟨#[116, 101, 114, 109, 32]⟩ : ByteArray) ++ word)] 9)).heap.size := (by have := HS4.out; simp; omega); have k4 := cell_new W4 [.string ((⟨#[116, 101, 114, 109, 32]⟩ : ByteArray) ++ word)] 9 (nt + 1) (by have := HS4.out; omega); go_must (refine wpList_push _ rfl (.tmp 45) (.tmp 49) 38 rfl (nb + 1) 9 (.string ⟨#[]⟩) 1 16 Tryz.underlying38 info_strB rfl (by omega) (.slice Aq mq cq) mq _ rfl hh [.string ((⟨#[116, 101, 114, 109, 32]⟩ : ByteArray) ++ word)] rfl (nt + 1) rfl k4 (one_strB _) (by omega) (by unfold maxLen; omega) k3 ?_); intro g1 c1 w5 own5 hg5 hgg5 hb5; have HP5 := Lib.hid (HPl4.out.push own5 (show 1 ≤ ((⟨#[116, 101, 114, 109, 32]⟩ : ByteArray) ++ word).size by simp only [ByteArray.size_append]; have : (⟨#[116, 101, 114, 109, 32]⟩ : ByteArray).size = 5 := rfl; omega)); have HX5 := Lib.hid (CB.grownT hh hg5 (HX4.out.alloc _) (by decide)); have HB5 := Lib.hid ((HB4.out.alloc HB4.out.size _).trans (hb5.mono (by have := HNb.out; omega))); clear hh k3 k4 own5 hg5 hgg5 hb5; have bx0 := HX5.out.c 0; have bx1 := HX5.out.c 1; have bx2 := HX5.out.c 2; have bsh := HX5.out.sh)
          have hs5 := HX5.out.lt
          have HX5 := HX5
          obtain ⟨nq, hnq⟩ : ∃ nq, nt + 1 = nq := ⟨_, rfl⟩
          try rw [hnq]
          clear q0 q1 q2 bb bx0 bx1 bx2 bsh HPl4 HB4 HX4 HS4 HW4
          go_loopw [3, 54] (fun t3 t wr => ∃ (j : Nat) (pl2 : List ByteArray) (Ap : Option Addr) (mk cp : Nat), j ≤ ds.length ∧ t = .int .i64 j ∧ t3 = .slice Ap mk cp ∧ Hid (idxT D S T = joinB pl2 ++ (postsT (ds.drop j) (ms.drop j) ++ ([10] ++ termsT (T.drop (i + 1))))) ∧ Hid (PartsIn (nb + 1) pl2 Ap mk cp wr) ∧ Hid (Below w.heap.size w wr) ∧ Hid (CB wr nt 44 #[.string word, .slice Ad ds.length cd, .slice Am ms.length cm])) (fun _ t _ => ds.length - (intOf t).toNat)
          case atStart => exact ⟨0, _, _, _, _, Nat.zero_le _, rfl, rfl, (show idxT D S T = _ by rw [HU2.out, joinB_push]; simp [termT]), HP5.out, HB5.out, HX5.out⟩
          case round =>
            clear HP5 HB5 HX5 hs5 HU2 HU
            obtain ⟨j, pl2, Ap, mk, cp, hj2, rfl, rfl, HU, HPl, HB, HX⟩ := hrel
            have hsz2 := HX.out.lt
            by_cases hlt5 : j < ds.length
            · have hAd' := HAd.out (by rintro rfl; simp at hlt5)
              subst hAd'
              have hAm' := HAm.out (by rintro rfl; simp at hdm; rw [hdm] at hlt5; simp at hlt5)
              subst hAm'
              obtain ⟨x, hx⟩ : ∃ x, ds[j]? = some x := ⟨_, List.getElem?_eq_getElem hlt5⟩
              have hkm : j < ms.length := by omega
              obtain ⟨y, hy⟩ : ∃ y, ms[j]? = some y := ⟨_, List.getElem?_eq_getElem hkm⟩
              obtain ⟨p0, i0⟩ := HCd.out j _ hx
              obtain ⟨p1, i1⟩ := HCm.out j _ hy
              have p0 := Keeps.of_below HB.out _ _ p0
              have P1 := Lib.hid (Keeps.of_below HB.out _ _ p1)
              have I0 := Lib.hid i0
              have I1 := Lib.hid i1
              clear p1 i0 i1
              have HU2 := Lib.hid (HU.out.trans (by rw [postsT_at hx hy]))
              clear hx hy HU
              go_wp2_with fail
              refine wp_region_any (by kernel_rfl) ?_
              change wpAny _ _ _ _ _ _ _ wr.drew
              obtain ⟨W3, hW3⟩ : ∃ W3, wr.drew = W3 := ⟨_, rfl⟩
              have HX3 := Lib.hid (show CB W3 nt 44 _ by rw [← hW3]; exact HX.out.drew)
              have P3 := Lib.hid (show W3.cell? ⟨bm, om + j, none⟩ = some (.int .i64 y) by rw [← hW3]; exact P1.out)
              have HB3 := Lib.hid (show Below w.heap.size w W3 by rw [← hW3]; exact HB.out.drew)
              have HPl3 := Lib.hid (show PartsIn (nb + 1) pl2 Ap mk cp W3 by rw [← hW3]; exact HPl.out.below (Below.refl _ _).drew)
              have HTab3 := Lib.hid (HTab.out.keep HB3.out)
              have hW3s : nb + 1 ≤ W3.heap.size := by have := HX3.out.lt; omega
              have hIx : (Lib.itoa x).length ≤ 21 := itL_len I0.out
              have hIxz : (⟨(Lib.itoa x).toArray⟩ : ByteArray).size ≤ 21 := by rw [← size_toList]; exact hIx
              have hIy : (Lib.itoa y).length ≤ 21 := itL_len I1.out
              have hIyz : (⟨(Lib.itoa y).toArray⟩ : ByteArray).size ≤ 21 := by rw [← size_toList]; exact hIy
              have hmk : mk ≤ 1073741824 := by
                have h1 := HLen.out
                have h2 := HPl3.out.le
                rw [HU2.out] at h1
                simp only [List.length_append] at h1
                omega
              rw [hW3]
              clear hW3 HX P1 HB HPl
              refine wpAny_inv [0, 1, 2, 3, 4, 5, 6, 7, 8, 9, 10, 11, 12] (InvPB (fun v59 v60 v61 v62 v63 v64 v65 v66 v67 v68 v69 v70 v71 => ⟨#[.agg #[.slice A D.length c, .slice A2 S.length c2, .slice (some ⟨b3, o3, none⟩) T.length c3], .pointer (some ⟨nb, 0, none⟩), .string ⟨#[]⟩, .slice Ap mk cp, u4, u5, undef, .pointer (some ⟨nt, 0, none⟩), .int .i64 ↑j, .int .i64 x, .pointer (some ⟨nb, 0, none⟩), .slice A D.length c, .int .i64 ↑D.length, .int .i64 ↑k, .bool false, u15, u16, u17, u18, u19, u20, u21, u22, u23, u24, u25, u26, u27, u28, u29, u30, u31, u32, u33, u34, u35, u36, u37, .pointer (some ⟨nb, 2, none⟩), .slice (some ⟨b3, o3, none⟩) T.length c3, .int .i64 ↑T.length, .int .i64 ↑i, .bool true, .pointer (some ⟨b3, o3 + i * 3, none⟩), .agg #[.string word, .slice (some ⟨bd, od, none⟩) ds.length cd, .slice (some ⟨bm, om, none⟩) ms.length cm], .slice Aq mq cq, .pointer (some ⟨nt, 0, none⟩), .string word, .string ((⟨#[116, 101, 114, 109, 32]⟩ : ByteArray) ++ word), .slice (some ⟨nq, 0, none⟩) 1 1, .slice (some ⟨g1, 0, none⟩) (mq + 1) c1, .pointer (some ⟨nt, 1, none⟩), .slice (some ⟨bd, od, none⟩) ds.length cd, .int .i64 ↑ds.length, .int .i64 ↑j, .bool true, .int .i64 ↑j, .pointer (some ⟨bd, od + j, none⟩), .int .i64 x, v59, v60, v61, v62, v63, v64, v65, v66, v67, v68, v69, v70, v71, u72, u73, u74, u75, u76, u77, undef, undef], []⟩) Ap mk cp nt bm om ms.length cm j x y W3) #[true, true, true, true, true, true, true, true, true, true, true, true, true, false, false] (g := 2) (by kernel_rfl) (by kernel_rfl) (by kernel_rfl) (InvPB.start u59 u60 u61 u62 u63 u64 u65 u66 u67 u68 u69 u70 u71 rfl) ?step ?last
              case step =>
                intro i hi L a' w' hs hr hI
                obtain ⟨x0, x1, x2, x3, x4, x5, x6, x7, x8, x9, x10, x11, x12, rfl, hB, h0, h1, h2, h3, h4, h5, h6, h7, h8, h9, h10, h11, h12⟩ := hI
                simp only [List.mem_cons, List.not_mem_nil, or_false] at hi
                rcases hi with rfl | rfl | rfl | rfl | rfl | rfl | rfl | rfl | rfl | rfl | rfl | rfl | rfl
                · refine wpOp_step rfl (fun K hK => ?_)
                  go_simp
                  exact hK _ _ ⟨_, _, _, _, _, _, _, _, _, _, _, _, _, rfl, hB, fun _ => rfl, fun h => h1 (getD_was (by decide) h), fun h => h2 (getD_was (by decide) h), fun h => h3 (getD_was (by decide) h), fun h => h4 (getD_was (by decide) h), fun h => h5 (getD_was (by decide) h), fun h => h6 (getD_was (by decide) h), fun h => h7 (getD_was (by decide) h), fun h => h8 (getD_was (by decide) h), fun h => h9 (getD_was (by decide) h), fun h => h10 (getD_was (by decide) h), fun h => h11 (getD_was (by decide) h), fun h => h12 (getD_was (by decide) h)⟩
                · refine wpOp_step rfl (fun K hK => ?_)
                  go_simp
                  exact hK _ _ ⟨_, _, _, _, _, _, _, _, _, _, _, _, _, rfl, hB, fun h => h0 (getD_was (by decide) h), fun _ => rfl, fun h => h2 (getD_was (by decide) h), fun h => h3 (getD_was (by decide) h), fun h => h4 (getD_was (by decide) h), fun h => h5 (getD_was (by decide) h), fun h => h6 (getD_was (by decide) h), fun h => h7 (getD_was (by decide) h), fun h => h8 (getD_was (by decide) h), fun h => h9 (getD_was (by decide) h), fun h => h10 (getD_was (by decide) h), fun h => h11 (getD_was (by decide) h), fun h => h12 (getD_was (by decide) h)⟩
                · have q1 := h1 (ready_dep hr (by kernel_rfl))
                  subst q1
                  refine wpOp_step rfl (fun K hK => ?_)
                  go_simp
                  refine (itoa_any x _ I0.out (HTab3.out.keep hB)).mono ?_
                  rintro e w'' ⟨rfl, hb⟩
                  exact hK _ _ ⟨_, _, _, _, _, _, _, _, _, _, _, _, _, rfl, hB.trans (hb.mono hB.size), fun h => h0 (getD_was (by decide) h), fun _ => rfl, fun _ => rfl, fun h => h3 (getD_was (by decide) h), fun h => h4 (getD_was (by decide) h), fun h => h5 (getD_was (by decide) h), fun h => h6 (getD_was (by decide) h), fun h => h7 (getD_was (by decide) h), fun h => h8 (getD_was (by decide) h), fun h => h9 (getD_was (by decide) h), fun h => h10 (getD_was (by decide) h), fun h => h11 (getD_was (by decide) h), fun h => (h12 (getD_was (by decide) h)).below hb⟩
                · have q2 := h2 (ready_dep hr (by kernel_rfl))
                  subst q2
                  refine wpOp_step rfl (fun K hK => ?_)
                  go_simp
                  rw [if_neg (by first | omega | (simp only [ByteArray.size_append]; omega) | (simp; omega))]
                  go_simp
                  exact hK _ _ ⟨_, _, _, _, _, _, _, _, _, _, _, _, _, rfl, hB, fun h => h0 (getD_was (by decide) h), fun h => h1 (getD_was (by decide) h), fun _ => rfl, fun _ => rfl, fun h => h4 (getD_was (by decide) h), fun h => h5 (getD_was (by decide) h), fun h => h6 (getD_was (by decide) h), fun h => h7 (getD_was (by decide) h), fun h => h8 (getD_was (by decide) h), fun h => h9 (getD_was (by decide) h), fun h => h10 (getD_was (by decide) h), fun h => h11 (getD_was (by decide) h), fun h => h12 (getD_was (by decide) h)⟩
                · have q3 := h3 (ready_dep hr (by kernel_rfl))
                  subst q3
                  refine wpOp_step rfl (fun K hK => ?_)
                  go_simp
                  rw [if_neg (by first | omega | (simp only [ByteArray.size_append]; omega) | (simp; omega))]
                  go_simp
                  exact hK _ _ ⟨_, _, _, _, _, _, _, _, _, _, _, _, _, rfl, hB, fun h => h0 (getD_was (by decide) h), fun h => h1 (getD_was (by decide) h), fun h => h2 (getD_was (by decide) h), fun _ => rfl, fun _ => rfl, fun h => h5 (getD_was (by decide) h), fun h => h6 (getD_was (by decide) h), fun h => h7 (getD_was (by decide) h), fun h => h8 (getD_was (by decide) h), fun h => h9 (getD_was (by decide) h), fun h => h10 (getD_was (by decide) h), fun h => h11 (getD_was (by decide) h), fun h => h12 (getD_was (by decide) h)⟩
                · refine wpOp_step rfl (fun K hK => ?_)
                  go_simp
                  exact hK _ _ ⟨_, _, _, _, _, _, _, _, _, _, _, _, _, rfl, hB, fun h => h0 (getD_was (by decide) h), fun h => h1 (getD_was (by decide) h), fun h => h2 (getD_was (by decide) h), fun h => h3 (getD_was (by decide) h), fun h => h4 (getD_was (by decide) h), fun _ => rfl, fun h => h6 (getD_was (by decide) h), fun h => h7 (getD_was (by decide) h), fun h => h8 (getD_was (by decide) h), fun h => h9 (getD_was (by decide) h), fun h => h10 (getD_was (by decide) h), fun h => h11 (getD_was (by decide) h), fun h => h12 (getD_was (by decide) h)⟩
                · have q5 := h5 (ready_dep hr (by kernel_rfl))
                  subst q5
                  have z := (HX3.out.below hB).c 2
                  simp only [List.getElem?_toArray, List.getElem?_cons_zero, List.getElem?_cons_succ] at z
                  refine wpOp_step rfl (fun K hK => ?_)
                  go_simp
                  exact hK _ _ ⟨_, _, _, _, _, _, _, _, _, _, _, _, _, rfl, hB, fun h => h0 (getD_was (by decide) h), fun h => h1 (getD_was (by decide) h), fun h => h2 (getD_was (by decide) h), fun h => h3 (getD_was (by decide) h), fun h => h4 (getD_was (by decide) h), fun _ => rfl, fun _ => rfl, fun h => h7 (getD_was (by decide) h), fun h => h8 (getD_was (by decide) h), fun h => h9 (getD_was (by decide) h), fun h => h10 (getD_was (by decide) h), fun h => h11 (getD_was (by decide) h), fun h => h12 (getD_was (by decide) h)⟩
                · refine wpOp_step rfl (fun K hK => ?_)
                  go_simp
                  exact hK _ _ ⟨_, _, _, _, _, _, _, _, _, _, _, _, _, rfl, hB, fun h => h0 (getD_was (by decide) h), fun h => h1 (getD_was (by decide) h), fun h => h2 (getD_was (by decide) h), fun h => h3 (getD_was (by decide) h), fun h => h4 (getD_was (by decide) h), fun h => h5 (getD_was (by decide) h), fun h => h6 (getD_was (by decide) h), fun _ => rfl, fun h => h8 (getD_was (by decide) h), fun h => h9 (getD_was (by decide) h), fun h => h10 (getD_was (by decide) h), fun h => h11 (getD_was (by decide) h), fun h => h12 (getD_was (by decide) h)⟩
                · have q6 := h6 (ready_dep hr (by kernel_rfl))
                  have q7 := h7 (ready_dep hr (by kernel_rfl))
                  subst q6
                  subst q7
                  refine wpOp_step rfl (fun K hK => ?_)
                  go_simp
                  exact hK _ _ ⟨_, _, _, _, _, _, _, _, _, _, _, _, _, rfl, hB, fun h => h0 (getD_was (by decide) h), fun h => h1 (getD_was (by decide) h), fun h => h2 (getD_was (by decide) h), fun h => h3 (getD_was (by decide) h), fun h => h4 (getD_was (by decide) h), fun h => h5 (getD_was (by decide) h), fun _ => rfl, fun _ => rfl, fun _ => rfl, fun h => h9 (getD_was (by decide) h), fun h => h10 (getD_was (by decide) h), fun h => h11 (getD_was (by decide) h), fun h => h12 (getD_was (by decide) h)⟩
                · have q8 := h8 (ready_dep hr (by kernel_rfl))
                  subst q8
                  have z := Keeps.of_below hB _ _ P3.out
                  refine wpOp_step rfl (fun K hK => ?_)
                  go_simp
                  exact hK _ _ ⟨_, _, _, _, _, _, _, _, _, _, _, _, _, rfl, hB, fun h => h0 (getD_was (by decide) h), fun h => h1 (getD_was (by decide) h), fun h => h2 (getD_was (by decide) h), fun h => h3 (getD_was (by decide) h), fun h => h4 (getD_was (by decide) h), fun h => h5 (getD_was (by decide) h), fun h => h6 (getD_was (by decide) h), fun h => h7 (getD_was (by decide) h), fun _ => rfl, fun _ => rfl, fun h => h10 (getD_was (by decide) h), fun h => h11 (getD_was (by decide) h), fun h => h12 (getD_was (by decide) h)⟩
                · have q9 := h9 (ready_dep hr (by kernel_rfl))
                  subst q9
                  refine wpOp_step rfl (fun K hK => ?_)
                  go_simp
                  refine (itoa_any y _ I1.out (HTab3.out.keep hB)).mono ?_
                  rintro e w'' ⟨rfl, hb⟩
                  exact hK _ _ ⟨_, _, _, _, _, _, _, _, _, _, _, _, _, rfl, hB.trans (hb.mono hB.size), fun h => h0 (getD_was (by decide) h), fun h => h1 (getD_was (by decide) h), fun h => h2 (getD_was (by decide) h), fun h => h3 (getD_was (by decide) h), fun h => h4 (getD_was (by decide) h), fun h => h5 (getD_was (by decide) h), fun h => h6 (getD_was (by decide) h), fun h => h7 (getD_was (by decide) h), fun h => h8 (getD_was (by decide) h), fun _ => rfl, fun _ => rfl, fun h => h11 (getD_was (by decide) h), fun h => (h12 (getD_was (by decide) h)).below hb⟩
                · have q4 := h4 (ready_dep hr (by kernel_rfl))
                  have q10 := h10 (ready_dep hr (by kernel_rfl))
                  subst q4
                  subst q10
                  refine wpOp_step rfl (fun K hK => ?_)
                  go_simp
                  rw [if_neg (by first | omega | (simp only [ByteArray.size_append]; omega) | (simp; omega))]
                  go_simp
                  exact hK _ _ ⟨_, _, _, _, _, _, _, _, _, _, _, _, _, rfl, hB, fun h => h0 (getD_was (by decide) h), fun h => h1 (getD_was (by decide) h), fun h => h2 (getD_was (by decide) h), fun h => h3 (getD_was (by decide) h), fun _ => rfl, fun h => h5 (getD_was (by decide) h), fun h => h6 (getD_was (by decide) h), fun h => h7 (getD_was (by decide) h), fun h => h8 (getD_was (by decide) h), fun h => h9 (getD_was (by decide) h), fun _ => rfl, fun _ => rfl, fun h => h12 (getD_was (by decide) h)⟩
                · have q11 := h11 (ready_dep hr (by kernel_rfl))
                  subst q11
                  refine wpOp_step rfl (fun K hK => ?_)
                  go_simp
                  exact hK _ _ ⟨_, _, _, _, _, _, _, _, _, _, _, _, _, rfl, hB.alloc hB.size _, fun h => h0 (getD_was (by decide) h), fun h => h1 (getD_was (by decide) h), fun h => h2 (getD_was (by decide) h), fun h => h3 (getD_was (by decide) h), fun h => h4 (getD_was (by decide) h), fun h => h5 (getD_was (by decide) h), fun h => h6 (getD_was (by decide) h), fun h => h7 (getD_was (by decide) h), fun h => h8 (getD_was (by decide) h), fun h => h9 (getD_was (by decide) h), fun h => h10 (getD_was (by decide) h), fun _ => rfl, fun _ => ⟨_, rfl, hB.size, CB.new _ _ _⟩⟩
              case last =>
                intro a' w' hI
                obtain ⟨x0, x1, x2, x3, x4, x5, x6, x7, x8, x9, x10, x11, x12, rfl, hB, h0, h1, h2, h3, h4, h5, h6, h7, h8, h9, h10, h11, h12⟩ := hI
                have q0 := h0 rfl
                have q12 := h12 rfl
                clear h0 h1 h2 h3 h4 h5 h6 h7 h8 h9 h10 h11 h12
                subst q0
                obtain ⟨g, rfl, hg, hcb⟩ := q12
                refine wpAny_of_seqA 2 13 rfl (by kernel_rfl) ?_
                simp only [List.drop_succ_cons, List.drop_zero]
                have HB4 := Lib.hid (HB3.out.trans (hB.mono HB3.out.size))
                have hsz := hB.size
                have HPl4 := Lib.hid (HPl3.out.below hB)
                have HX4 := Lib.hid (HX3.out.below hB)
                have hs1 : 1 ≤ ((⟨#[32]⟩ : ByteArray) ++ (⟨(Lib.itoa x).toArray⟩ : ByteArray) ++ (⟨#[58]⟩ : ByteArray) ++ (⟨(Lib.itoa y).toArray⟩ : ByteArray)).size := by simp only [ByteArray.size_append]; have : (⟨#[32]⟩ : ByteArray).size = 1 := rfl; omega
                refine wpList_push _ rfl (.tmp 59) (.tmp 71) 38 rfl (nb + 1) 9 (.string ⟨#[]⟩) 1 16 Tryz.underlying38 info_strB rfl (by omega) (.slice Ap mk cp) mk _ rfl HPl4.out.own [.string ((⟨#[32]⟩ : ByteArray) ++ (⟨(Lib.itoa x).toArray⟩ : ByteArray) ++ (⟨#[58]⟩ : ByteArray) ++ (⟨(Lib.itoa y).toArray⟩ : ByteArray))] rfl g rfl (RB.cells hcb) (one_strB _) (by omega) (by unfold maxLen; omega) (by omega) ?_
                intro g9 c9 w9 own9 hg9 hgg9 hb9
                have HP9 := Lib.hid (HPl4.out.push own9 hs1)
                have HX9 := Lib.hid (CB.grownT HPl4.out.own hg9 HX4.out (by decide))
                have HB9 := Lib.hid (HB4.out.trans (hb9.mono (by have := HNb.out; omega)))
                clear own9 hg9 hgg9 hb9
                go_wp2_with fail
                go_roundw
                case rel =>
                  refine ⟨j + 1, _, _, _, _, by omega, by go_num, rfl, ?_, HP9.out, HB9.out, HX9.out⟩
                  show idxT D S T = _
                  rw [HU2.out, joinB_push, post_bytes x y]
                  simp only [List.append_assoc]
                case measure => simp [intOf]; omega
            · have HU2 := Lib.hid (show idxT D S T = joinB pl2 ++ ([10] ++ termsT (T.drop (i + 1))) by rw [HU.out, show j = ds.length by omega, postsT_end, List.nil_append])
              clear HU
              have hmk : mk ≤ 1073741824 := by
                have h1 := HLen.out
                have h2 := HPl.out.le
                rw [HU2.out] at h1
                simp only [List.length_append] at h1
                omega
              have HSw := Lib.hid (show nb + 1 ≤ wr.heap.size by omega)
              go_wp2_with (at_builtin; have hh := HPl.out.own.alloc (.cells #[.string ⟨#[10]⟩] 9); have k3 : nb + 1 ≤ (wr.alloc (.cells #[.string ⟨#[10]⟩] 9)).heap.size := (by have := HSw.out; simp; omega); have k4 := cell_new wr [.string ⟨#[10]⟩] 9 wr.heap.size rfl; go_must (refine wpList_push _ rfl (.tmp 74) (.tmp 75) 38 rfl (nb + 1) 9 (.string ⟨#[]⟩) 1 16 Tryz.underlying38 info_strB rfl (by omega) (.slice Ap mk cp) mk _ rfl hh [.string ⟨#[10]⟩] rfl _ rfl k4 (one_strB _) (by omega) (by unfold maxLen; omega) k3 ?_); intro g6 c6 w6 own6 hg6 hgg6 hb6; have HP6 := Lib.hid (HPl.out.push own6 (show 1 ≤ (⟨#[10]⟩ : ByteArray).size from Nat.le_refl 1)); have HB6 := Lib.hid ((HB.out.alloc HB.out.size _).trans (hb6.mono (by have := HNb.out; omega))); have HS6 := Lib.hid (Nat.le_trans k3 hg6.size); clear hh k3 k4 own6 hg6 hgg6 hb6)
              go_roundw
              case rel =>
                refine ⟨i + 1, _, _, _, _, by omega, by go_num, rfl, ?_, HP6.out, HB6.out, HS6.out⟩
                show idxT D S T = _
                rw [HU2.out, joinB_push, List.append_assoc]
              case measure => simp [intOf]; omega
        · have HU2 := Lib.hid (show idxT D S T = joinB pl1 by rw [HU.out, show i = T.length by omega, termsT_end, List.append_nil])
          clear HU HA3
          have HJ := Lib.hid (show (joinB pl1).length ≤ 1073741824 by rw [← HU2.out]; exact HLen.out)
          go_wp2_with (go_at_call 42; go_must (refine (joinE_q (nb + 1) pl1 Aq mq cq _ HPl.out.len HPl.out.own HJ.out (Nat.le_trans HPl.out.le HJ.out)).mono ?_); rintro e w5 ⟨rfl, hb5⟩; have HB5 := Lib.hid (HB.out.trans (hb5.mono HB.out.size)); clear hb5)
          go_ret
          exact ⟨by rw [HU2.out]; rfl, HB5.out⟩

end Go.Proofs.YtmcelgokchhpfaaGreatDoor
