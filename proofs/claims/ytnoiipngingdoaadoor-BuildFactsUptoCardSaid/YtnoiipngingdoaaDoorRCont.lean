/-
  A content as a value: mastref1.ContentValue.
-/
import Derived.Test.YtnoiipngingdoaaDoorBCont
namespace Go.Proofs.YtnoiipngingdoaaDoor
open Go.RowKit Go.Deep

def RK (ks : List (List UInt8)) (m : Nat) (W1 : World) (x : Value) (w : World) : Prop := ∃ g : Nat, x = .slice (some ⟨g, 0, none⟩) m m ∧ W1.heap.size ≤ g ∧ CB w g 9 (keysC ks)
def RT (W1 : World) (x y z : Value) (w : World) : Prop := ∃ g : Nat, z = .slice (some ⟨g, 0, none⟩) 1 1 ∧ W1.heap.size ≤ g ∧ CB w g 29 #[.int .i64 6, .bool false, .int .i64 0, .string ⟨#[]⟩, x, y]
def RP (html su pl : ByteArray) (l : List Entry) (wd : Int) (iv : Value) (W1 : World) (x : Value) (w : World) : Prop := ∃ g : Nat, x = .slice (some ⟨g, 0, none⟩) 5 5 ∧ W1.heap.size ≤ g ∧ CB w g 29 (flatV (partsC html su pl l wd iv)).toArray
theorem RK.below {ks : List (List UInt8)} {m : Nat} {W1 w w' : World} {x : Value} (h : RK ks m W1 x w) (hb : Below w.heap.size w w') : RK ks m W1 x w' := by obtain ⟨g, h1, h2, h3⟩ := h; exact ⟨g, h1, h2, h3.below hb⟩
theorem RT.below {W1 w w' : World} {x y z : Value} (h : RT W1 x y z w) (hb : Below w.heap.size w w') : RT W1 x y z w' := by obtain ⟨g, h1, h2, h3⟩ := h; exact ⟨g, h1, h2, h3.below hb⟩
theorem RP.below {html su pl : ByteArray} {l : List Entry} {wd : Int} {iv : Value} {W1 w w' : World} {x : Value} (h : RP html su pl l wd iv W1 x w) (hb : Below w.heap.size w w') : RP html su pl l wd iv W1 x w' := by obtain ⟨g, h1, h2, h3⟩ := h; exact ⟨g, h1, h2, h3.below hb⟩
def InvR5 (fr : Value → Value → Value → Value → Value → Value → Value → Value → Value → Value → Value → Value → Value → Value → Value → Act) (n wb : Nat) (e : Entry) (Ao : Option Addr) (mk co : Nat) (W1 : World) (L : Array Bool) (a : Act) (w : World) : Prop :=
  ∃ x0 x1 x2 x3 x4 x5 x6 x7 x8 x9 x10 x11 x12 x13 x14 : Value, a = fr x0 x1 x2 x3 x4 x5 x6 x7 x8 x9 x10 x11 x12 x13 x14 ∧ Below W1.heap.size W1 w ∧ (L.getD 0 false = true → x0 = .pointer (some ⟨n, 4, none⟩)) ∧ (L.getD 1 false = true → x1 = .slice Ao mk co) ∧ (L.getD 2 false = true → RK kRowU 3 W1 x2 w) ∧ (L.getD 3 false = true → x3 = .pointer (some ⟨wb, 1, none⟩)) ∧ (L.getD 4 false = true → x4 = .string e.id) ∧ (L.getD 5 false = true → x5 = valAgg (vStr e.id) (.slice none 0 0) (.slice none 0 0)) ∧ (L.getD 6 false = true → x6 = .pointer (some ⟨wb, 0, none⟩)) ∧ (L.getD 7 false = true → x7 = .int .i64 e.level) ∧ (L.getD 8 false = true → x8 = valAgg (vNum e.level) (.slice none 0 0) (.slice none 0 0)) ∧ (L.getD 9 false = true → x9 = .pointer (some ⟨wb, 2, none⟩)) ∧ (L.getD 10 false = true → x10 = .string e.text) ∧ (L.getD 11 false = true → x11 = valAgg (vStr e.text) (.slice none 0 0) (.slice none 0 0)) ∧ (L.getD 12 false = true → R11 e W1 x12 w) ∧ (L.getD 13 false = true → x13 = tabV x12 x2) ∧ (L.getD 14 false = true → RT W1 x12 x2 x14 w)
theorem InvR5.start {m : Nat} {fr : Value → Value → Value → Value → Value → Value → Value → Value → Value → Value → Value → Value → Value → Value → Value → Act} {n wb : Nat} {e : Entry} {Ao : Option Addr} {mk co : Nat} {W1 : World} {a : Act} (x0 x1 x2 x3 x4 x5 x6 x7 x8 x9 x10 x11 x12 x13 x14 : Value) (h : a = fr x0 x1 x2 x3 x4 x5 x6 x7 x8 x9 x10 x11 x12 x13 x14) : InvR5 fr n wb e Ao mk co W1 (Array.replicate m false) a W1 :=
  ⟨x0, x1, x2, x3, x4, x5, x6, x7, x8, x9, x10, x11, x12, x13, x14, h, Below.refl _ _, (fun h => by rw [getD_replicate_false] at h; cases h), (fun h => by rw [getD_replicate_false] at h; cases h), (fun h => by rw [getD_replicate_false] at h; cases h), (fun h => by rw [getD_replicate_false] at h; cases h), (fun h => by rw [getD_replicate_false] at h; cases h), (fun h => by rw [getD_replicate_false] at h; cases h), (fun h => by rw [getD_replicate_false] at h; cases h), (fun h => by rw [getD_replicate_false] at h; cases h), (fun h => by rw [getD_replicate_false] at h; cases h), (fun h => by rw [getD_replicate_false] at h; cases h), (fun h => by rw [getD_replicate_false] at h; cases h), (fun h => by rw [getD_replicate_false] at h; cases h), (fun h => by rw [getD_replicate_false] at h; cases h), (fun h => by rw [getD_replicate_false] at h; cases h), (fun h => by rw [getD_replicate_false] at h; cases h)⟩
def InvR7 (fr : Value → Value → Value → Value → Value → Value → Value → Value → Value → Value → Value → Value → Value → Value → Value → Act) (n : Nat) (html su pl : ByteArray) (l : List Entry) (wd : Int) (Ao : Option Addr) (mk co : Nat) (W1 : World) (L : Array Bool) (a : Act) (w : World) : Prop :=
  ∃ x0 x1 x2 x3 x4 x5 x6 x7 x8 x9 x10 x11 x12 x13 x14 : Value, a = fr x0 x1 x2 x3 x4 x5 x6 x7 x8 x9 x10 x11 x12 x13 x14 ∧ Below W1.heap.size W1 w ∧ (L.getD 0 false = true → RK kContU 5 W1 x0 w) ∧ (L.getD 1 false = true → x1 = .agg #[.int .i64 5, .bool false, .int .i64 0, .string ⟨#[]⟩, .slice Ao mk co, .slice none 0 0]) ∧ (L.getD 2 false = true → x2 = .pointer (some ⟨n, 0, none⟩)) ∧ (L.getD 3 false = true → x3 = .string html) ∧ (L.getD 4 false = true → x4 = valAgg (vSafe html) (.slice none 0 0) (.slice none 0 0)) ∧ (L.getD 5 false = true → x5 = .pointer (some ⟨n, 2, none⟩)) ∧ (L.getD 6 false = true → x6 = .string pl) ∧ (L.getD 7 false = true → x7 = valAgg (vStr pl) (.slice none 0 0) (.slice none 0 0)) ∧ (L.getD 8 false = true → x8 = .pointer (some ⟨n, 1, none⟩)) ∧ (L.getD 9 false = true → x9 = .string su) ∧ (L.getD 10 false = true → x10 = valAgg (vSafe su) (.slice none 0 0) (.slice none 0 0)) ∧ (L.getD 11 false = true → x11 = .pointer (some ⟨n, 4, none⟩)) ∧ (L.getD 12 false = true → x12 = .int .i64 wd) ∧ (L.getD 13 false = true → x13 = valAgg (vNum wd) (.slice none 0 0) (.slice none 0 0)) ∧ (L.getD 14 false = true → RP html su pl l wd (.slice Ao mk co) W1 x14 w)
theorem InvR7.start {m : Nat} {fr : Value → Value → Value → Value → Value → Value → Value → Value → Value → Value → Value → Value → Value → Value → Value → Act} {n : Nat} {html su pl : ByteArray} {l : List Entry} {wd : Int} {Ao : Option Addr} {mk co : Nat} {W1 : World} {a : Act} (x0 x1 x2 x3 x4 x5 x6 x7 x8 x9 x10 x11 x12 x13 x14 : Value) (h : a = fr x0 x1 x2 x3 x4 x5 x6 x7 x8 x9 x10 x11 x12 x13 x14) : InvR7 fr n html su pl l wd Ao mk co W1 (Array.replicate m false) a W1 :=
  ⟨x0, x1, x2, x3, x4, x5, x6, x7, x8, x9, x10, x11, x12, x13, x14, h, Below.refl _ _, (fun h => by rw [getD_replicate_false] at h; cases h), (fun h => by rw [getD_replicate_false] at h; cases h), (fun h => by rw [getD_replicate_false] at h; cases h), (fun h => by rw [getD_replicate_false] at h; cases h), (fun h => by rw [getD_replicate_false] at h; cases h), (fun h => by rw [getD_replicate_false] at h; cases h), (fun h => by rw [getD_replicate_false] at h; cases h), (fun h => by rw [getD_replicate_false] at h; cases h), (fun h => by rw [getD_replicate_false] at h; cases h), (fun h => by rw [getD_replicate_false] at h; cases h), (fun h => by rw [getD_replicate_false] at h; cases h), (fun h => by rw [getD_replicate_false] at h; cases h), (fun h => by rw [getD_replicate_false] at h; cases h), (fun h => by rw [getD_replicate_false] at h; cases h), (fun h => by rw [getD_replicate_false] at h; cases h)⟩

set_option maxRecDepth 100000 in
set_option maxHeartbeats 4000000 in
theorem rcont_q (html su pl : ByteArray) (l : List Entry) (A : Option Addr) (n0 c : Nat) (wd : Int) (A1 : Option Addr) (n1 c1 : Nat) (A2 : Option Addr) (n2 c2 : Nat) (w : World) (hE : EntriesAt w (.slice A n0 c) l) (hl : l.length ≤ 1073741823) (hz1 : html.size ≤ maxLen) (hz2 : pl.size ≤ maxLen) (hz3 : su.size ≤ maxLen) (hz4 : I64 wd) :
    Calls Tryd.prog 7 #[.agg (boxS html su pl A n0 c wd A1 n1 c1 A2 n2 c2)] w (ClonePost (contV html su pl l wd) w) := by
  obtain ⟨A', c', b, o, hv, hlc, hc, hA, hcell⟩ := hE
  cases hv
  unfold maxLen at hc
  have HCell := Lib.hid hcell; clear hcell
  have HZ1 := Lib.hid hz1; clear hz1
  have HZ2 := Lib.hid hz2; clear hz2
  have HZ3 := Lib.hid hz3; clear hz3
  have HZ4 := Lib.hid hz4; clear hz4
  unfold boxS
  go_enter Tryd.func7, Tryd.ntmps7
  go_wp2_with fail
  obtain ⟨W0, hW0⟩ : ∃ W0, ((w.alloc (.cells #[.string html, .string su, .string pl, .slice A l.length c, .int .i64 wd, .slice A1 n1 c1, .slice A2 n2 c2] 26)).alloc (.cells #[.int .i64 0, .bool false, .int .i64 0, .string ⟨#[]⟩, .slice none 0 0, .slice none 0 0] 29)).alloc (.cells #[.int .i64 5, .bool false, .int .i64 0, .string ⟨#[]⟩, .slice none 0 0, .slice none 0 0] 29) = W0 := ⟨_, rfl⟩
  have HB0 := Lib.hid (show Below w.heap.size w W0 by rw [← hW0]; exact (((Below.refl _ _).alloc (Nat.le_refl _) _).alloc (by simp) _).alloc (by simp; omega) _)
  have HBox := Lib.hid (show CB W0 w.heap.size 26 (boxS html su pl A l.length c wd A1 n1 c1 A2 n2 c2) by rw [← hW0]; exact ((CB.new w _ _).alloc _).alloc _)
  have HRes := Lib.hid (show CB W0 (w.heap.size + 1) 29 #[.int .i64 0, .bool false, .int .i64 0, .string ⟨#[]⟩, .slice none 0 0, .slice none 0 0] by rw [← hW0]; have h := CB.new (w.alloc (.cells #[.string html, .string su, .string pl, .slice A l.length c, .int .i64 wd, .slice A1 n1 c1, .slice A2 n2 c2] 26)) #[.int .i64 0, .bool false, .int .i64 0, .string ⟨#[]⟩, .slice none 0 0, .slice none 0 0] 29; rw [World.size_alloc] at h; exact h.alloc _)
  have HLst := Lib.hid (show CB W0 (w.heap.size + 2) 29 #[.int .i64 5, .bool false, .int .i64 0, .string ⟨#[]⟩, .slice none 0 0, .slice none 0 0] by rw [← hW0]; have h := CB.new ((w.alloc (.cells #[.string html, .string su, .string pl, .slice A l.length c, .int .i64 wd, .slice A1 n1 c1, .slice A2 n2 c2] 26)).alloc (.cells #[.int .i64 0, .bool false, .int .i64 0, .string ⟨#[]⟩, .slice none 0 0, .slice none 0 0] 29)) #[.int .i64 5, .bool false, .int .i64 0, .string ⟨#[]⟩, .slice none 0 0, .slice none 0 0] 29; rw [World.size_alloc, World.size_alloc] at h; exact h)
  have hs0 : W0.heap.size = w.heap.size + 3 := by rw [← hW0]; simp
  rw [hW0]
  clear hW0
  obtain ⟨n, hn⟩ : ∃ n, w.heap.size = n := ⟨_, rfl⟩
  rw [hn] at HBox HRes HLst hs0
  rw [hn]
  have hnw : w.heap.size ≤ n := by omega
  have HN := Lib.hid hn; clear hn
  go_loopw [10] (fun t wr => ∃ (k mk : Nat) (Ao : Option Addr) (co : Nat) (ps : List PartV), k ≤ l.length ∧ t = .int .i64 k ∧ Hid (mk = ps.length) ∧ Hid (MadeV wr (n + 3) (.slice Ao mk co) ps) ∧ Hid (ps.map (·.n) = (l.take k).map rowV) ∧ Hid (Below w.heap.size w wr) ∧ Hid (CB wr n 26 (boxS html su pl A l.length c wd A1 n1 c1 A2 n2 c2)) ∧ Hid (CB wr (n + 1) 29 #[.int .i64 0, .bool false, .int .i64 0, .string ⟨#[]⟩, .slice none 0 0, .slice none 0 0]) ∧ Hid (CB wr (n + 2) 29 #[.int .i64 5, .bool false, .int .i64 0, .string ⟨#[]⟩, .slice Ao mk co, .slice none 0 0]) ∧ mk = k) (fun t _ => l.length - (intOf t).toNat)
  case atStart => exact ⟨0, 0, none, 0, [], Nat.zero_le _, rfl, rfl, MadeV.nil _ _, rfl, HB0.out, HBox.out, HRes.out, HLst.out, rfl⟩
  case round =>
    clear HB0 HBox HRes HLst
    obtain ⟨k, mk, Ao, co, ps, hk, rfl, HPl, HMd, HPs, HB, HBox, HRes, HLst, hmk⟩ := hrel
    have hmk2 : mk ≤ 1073741824 := by omega
    have HMk := Lib.hid hmk
    clear hmk
    by_cases hlt : k < l.length
    · have hA' := hA (by rintro rfl; simp at hlt)
      subst hA'
      obtain ⟨x, hx⟩ : ∃ x, l[k]? = some x := ⟨_, List.getElem?_eq_getElem hlt⟩
      obtain ⟨p0, p1, p2, pk, ps1, ps2⟩ := (HCell.out k x hx).keep (Keeps.of_below HB.out)
      have bb := World.block_lt_of_cell? _ _ p0
      simp only at bb
      have HX := Lib.hid hx
      clear hx
      have HPk := Lib.hid pk
      have HPs1 := Lib.hid ps1
      have HPs2 := Lib.hid ps2
      clear pk ps1 ps2
      have HTk := Lib.hid (show l.take (k + 1) = l.take k ++ [x] by
        obtain ⟨hk, rfl⟩ := List.getElem?_eq_some_iff.1 HX.out
        exact List.take_succ_eq_append_getElem hk)
      go_wp2_with fail
      obtain ⟨W1, hW1⟩ : ∃ W1, wr.alloc (.cells #[.int .i64 x.level, .string x.id, .string x.text] 39) = W1 := ⟨_, rfl⟩
      have HB1 := Lib.hid (show Below wr.heap.size wr W1 by rw [← hW1]; exact (Below.refl _ _).alloc (Nat.le_refl _) _)
      have HEn1 := Lib.hid (show CB W1 wr.heap.size 39 #[.int .i64 x.level, .string x.id, .string x.text] by rw [← hW1]; exact CB.new _ _ _)
      rw [hW1]
      clear hW1
      refine wp_region_any (by kernel_rfl) ?_
      change wpAny _ _ _ _ _ _ _ W1.drew
      obtain ⟨W2, hW2⟩ : ∃ W2, W1.drew = W2 := ⟨_, rfl⟩
      have HEn2 := Lib.hid (show CB W2 wr.heap.size 39 #[.int .i64 x.level, .string x.id, .string x.text] by rw [← hW2]; exact HEn1.out.drew)
      have HLs2 := Lib.hid (show CB W2 (n + 2) 29 #[.int .i64 5, .bool false, .int .i64 0, .string ⟨#[]⟩, .slice Ao mk co, .slice none 0 0] by rw [← hW2]; exact (HLst.out.below HB1.out).drew)
      have HB2 := Lib.hid (show Below wr.heap.size wr W2 by rw [← hW2]; exact HB1.out.drew)
      rw [hW2]
      clear hW2 HB1 HEn1
      refine wpAny_inv [0, 1, 2, 3, 4, 5, 6, 7, 8, 9, 10, 11, 12, 13, 14] (InvR5 (fun v14 v15 v16 v17 v18 v19 v20 v21 v22 v23 v24 v25 v26 v27 v28 => ⟨#[.agg #[.string html, .string su, .string pl, .slice (some ⟨b, o, none⟩) l.length c, .int .i64 wd, .slice A1 n1 c1, .slice A2 n2 c2], .pointer (some ⟨n, 0, none⟩), .pointer (some ⟨n + 1, 0, none⟩), .pointer (some ⟨n + 1 + 1, 0, none⟩), undef, .pointer (some ⟨wr.heap.size, 0, none⟩), .agg #[.int .i64 5, .bool false, .int .i64 0, .string ⟨#[]⟩, .slice none 0 0, .slice none 0 0], .pointer (some ⟨n, 3, none⟩), .slice (some ⟨b, o, none⟩) l.length c, .int .i64 ↑l.length, .int .i64 ↑k, .bool true, .pointer (some ⟨b, o + k * 3, none⟩), .agg #[.int .i64 x.level, .string x.id, .string x.text], v14, v15, v16, v17, v18, v19, v20, v21, v22, v23, v24, v25, v26, v27, v28, u29, u30, u31, undef, undef, undef, undef, undef, undef, undef, undef, undef, undef, undef, undef, undef, undef, undef, undef], []⟩) (n + 1 + 1) wr.heap.size x Ao mk co W2) #[true, true, true, true, true, true, true, true, true, true, true, true, true, true, true, false, false, false] (g := 3) (by kernel_rfl) (by kernel_rfl) (by kernel_rfl) (InvR5.start u14 u15 u16 u17 u18 u19 u20 u21 u22 u23 u24 u25 u26 u27 u28 rfl) ?step ?last
      case step =>
        intro i hi L a' w' hs hr hI
        obtain ⟨x0, x1, x2, x3, x4, x5, x6, x7, x8, x9, x10, x11, x12, x13, x14, rfl, hB, h0, h1, h2, h3, h4, h5, h6, h7, h8, h9, h10, h11, h12, h13, h14⟩ := hI
        simp only [List.mem_cons, List.not_mem_nil, or_false] at hi
        rcases hi with rfl | rfl | rfl | rfl | rfl | rfl | rfl | rfl | rfl | rfl | rfl | rfl | rfl | rfl | rfl
        · refine wpOp_step rfl (fun K hK => ?_)
          go_simp
          exact hK _ _ ⟨_, _, _, _, _, _, _, _, _, _, _, _, _, _, _, rfl, hB, fun _ => rfl, fun h => h1 (getD_was (by decide) h), fun h => h2 (getD_was (by decide) h), fun h => h3 (getD_was (by decide) h), fun h => h4 (getD_was (by decide) h), fun h => h5 (getD_was (by decide) h), fun h => h6 (getD_was (by decide) h), fun h => h7 (getD_was (by decide) h), fun h => h8 (getD_was (by decide) h), fun h => h9 (getD_was (by decide) h), fun h => h10 (getD_was (by decide) h), fun h => h11 (getD_was (by decide) h), fun h => h12 (getD_was (by decide) h), fun h => h13 (getD_was (by decide) h), fun h => h14 (getD_was (by decide) h)⟩
        · have q0 := h0 (ready_dep hr (by kernel_rfl))
          subst q0
          have z4 := (HLs2.out.below hB).c 4
          simp only [List.getElem?_toArray, List.getElem?_cons_zero, List.getElem?_cons_succ] at z4
          refine wpOp_step rfl (fun K hK => ?_)
          go_simp
          exact hK _ _ ⟨_, _, _, _, _, _, _, _, _, _, _, _, _, _, _, rfl, hB, fun _ => rfl, fun _ => rfl, fun h => h2 (getD_was (by decide) h), fun h => h3 (getD_was (by decide) h), fun h => h4 (getD_was (by decide) h), fun h => h5 (getD_was (by decide) h), fun h => h6 (getD_was (by decide) h), fun h => h7 (getD_was (by decide) h), fun h => h8 (getD_was (by decide) h), fun h => h9 (getD_was (by decide) h), fun h => h10 (getD_was (by decide) h), fun h => h11 (getD_was (by decide) h), fun h => h12 (getD_was (by decide) h), fun h => h13 (getD_was (by decide) h), fun h => h14 (getD_was (by decide) h)⟩
        · refine wpOp_step rfl (fun K hK => ?_)
          go_simp
          have hb := (Below.refl w'.heap.size w').alloc (Nat.le_refl _) (.cells (keysC kRowU) 9)
          exact hK _ _ ⟨_, _, _, _, _, _, _, _, _, _, _, _, _, _, _, rfl, hB.alloc hB.size _, fun h => h0 (getD_was (by decide) h), fun h => h1 (getD_was (by decide) h), fun _ => ⟨_, rfl, hB.size, CB.new _ _ _⟩, fun h => h3 (getD_was (by decide) h), fun h => h4 (getD_was (by decide) h), fun h => h5 (getD_was (by decide) h), fun h => h6 (getD_was (by decide) h), fun h => h7 (getD_was (by decide) h), fun h => h8 (getD_was (by decide) h), fun h => h9 (getD_was (by decide) h), fun h => h10 (getD_was (by decide) h), fun h => h11 (getD_was (by decide) h), fun h => (h12 (getD_was (by decide) h)).below hb, fun h => absurd (shut_dep hs (d := 2) (getD_was (by decide) h) (by kernel_rfl)) (by rw [ready_un hr]; simp), fun h => absurd (shut_dep hs (d := 2) (shut_dep hs (d := 13) (getD_was (by decide) h) (by kernel_rfl)) (by kernel_rfl)) (by rw [ready_un hr]; simp)⟩
        · refine wpOp_step rfl (fun K hK => ?_)
          go_simp
          exact hK _ _ ⟨_, _, _, _, _, _, _, _, _, _, _, _, _, _, _, rfl, hB, fun h => h0 (getD_was (by decide) h), fun h => h1 (getD_was (by decide) h), fun h => h2 (getD_was (by decide) h), fun _ => rfl, fun h => h4 (getD_was (by decide) h), fun h => h5 (getD_was (by decide) h), fun h => h6 (getD_was (by decide) h), fun h => h7 (getD_was (by decide) h), fun h => h8 (getD_was (by decide) h), fun h => h9 (getD_was (by decide) h), fun h => h10 (getD_was (by decide) h), fun h => h11 (getD_was (by decide) h), fun h => h12 (getD_was (by decide) h), fun h => h13 (getD_was (by decide) h), fun h => h14 (getD_was (by decide) h)⟩
        · have q3 := h3 (ready_dep hr (by kernel_rfl))
          subst q3
          have z := (HEn2.out.below hB).c 1
          simp only [List.getElem?_toArray, List.getElem?_cons_zero, List.getElem?_cons_succ] at z
          refine wpOp_step rfl (fun K hK => ?_)
          go_simp
          exact hK _ _ ⟨_, _, _, _, _, _, _, _, _, _, _, _, _, _, _, rfl, hB, fun h => h0 (getD_was (by decide) h), fun h => h1 (getD_was (by decide) h), fun h => h2 (getD_was (by decide) h), fun _ => rfl, fun _ => rfl, fun h => h5 (getD_was (by decide) h), fun h => h6 (getD_was (by decide) h), fun h => h7 (getD_was (by decide) h), fun h => h8 (getD_was (by decide) h), fun h => h9 (getD_was (by decide) h), fun h => h10 (getD_was (by decide) h), fun h => h11 (getD_was (by decide) h), fun h => h12 (getD_was (by decide) h), fun h => h13 (getD_was (by decide) h), fun h => h14 (getD_was (by decide) h)⟩
        · have q4 := h4 (ready_dep hr (by kernel_rfl))
          subst q4
          refine wpOp_step rfl (fun K hK => ?_)
          go_simp
          refine (str_r _ w').mono ?_
          rintro e w'' ⟨rfl, hb⟩
          exact hK _ _ ⟨_, _, _, _, _, _, _, _, _, _, _, _, _, _, _, rfl, hB.trans (hb.mono hB.size), fun h => h0 (getD_was (by decide) h), fun h => h1 (getD_was (by decide) h), fun h => (h2 (getD_was (by decide) h)).below hb, fun h => h3 (getD_was (by decide) h), fun _ => rfl, fun _ => rfl, fun h => h6 (getD_was (by decide) h), fun h => h7 (getD_was (by decide) h), fun h => h8 (getD_was (by decide) h), fun h => h9 (getD_was (by decide) h), fun h => h10 (getD_was (by decide) h), fun h => h11 (getD_was (by decide) h), fun h => (h12 (getD_was (by decide) h)).below hb, fun h => h13 (getD_was (by decide) h), fun h => (h14 (getD_was (by decide) h)).below hb⟩
        · refine wpOp_step rfl (fun K hK => ?_)
          go_simp
          exact hK _ _ ⟨_, _, _, _, _, _, _, _, _, _, _, _, _, _, _, rfl, hB, fun h => h0 (getD_was (by decide) h), fun h => h1 (getD_was (by decide) h), fun h => h2 (getD_was (by decide) h), fun h => h3 (getD_was (by decide) h), fun h => h4 (getD_was (by decide) h), fun h => h5 (getD_was (by decide) h), fun _ => rfl, fun h => h7 (getD_was (by decide) h), fun h => h8 (getD_was (by decide) h), fun h => h9 (getD_was (by decide) h), fun h => h10 (getD_was (by decide) h), fun h => h11 (getD_was (by decide) h), fun h => h12 (getD_was (by decide) h), fun h => h13 (getD_was (by decide) h), fun h => h14 (getD_was (by decide) h)⟩
        · have q6 := h6 (ready_dep hr (by kernel_rfl))
          subst q6
          have z := (HEn2.out.below hB).c 0
          simp only [List.getElem?_toArray, List.getElem?_cons_zero] at z
          refine wpOp_step rfl (fun K hK => ?_)
          go_simp
          exact hK _ _ ⟨_, _, _, _, _, _, _, _, _, _, _, _, _, _, _, rfl, hB, fun h => h0 (getD_was (by decide) h), fun h => h1 (getD_was (by decide) h), fun h => h2 (getD_was (by decide) h), fun h => h3 (getD_was (by decide) h), fun h => h4 (getD_was (by decide) h), fun h => h5 (getD_was (by decide) h), fun _ => rfl, fun _ => rfl, fun h => h8 (getD_was (by decide) h), fun h => h9 (getD_was (by decide) h), fun h => h10 (getD_was (by decide) h), fun h => h11 (getD_was (by decide) h), fun h => h12 (getD_was (by decide) h), fun h => h13 (getD_was (by decide) h), fun h => h14 (getD_was (by decide) h)⟩
        · have q7 := h7 (ready_dep hr (by kernel_rfl))
          subst q7
          refine wpOp_step rfl (fun K hK => ?_)
          go_simp
          refine (num_r _ w').mono ?_
          rintro e w'' ⟨rfl, hb⟩
          exact hK _ _ ⟨_, _, _, _, _, _, _, _, _, _, _, _, _, _, _, rfl, hB.trans (hb.mono hB.size), fun h => h0 (getD_was (by decide) h), fun h => h1 (getD_was (by decide) h), fun h => (h2 (getD_was (by decide) h)).below hb, fun h => h3 (getD_was (by decide) h), fun h => h4 (getD_was (by decide) h), fun h => h5 (getD_was (by decide) h), fun h => h6 (getD_was (by decide) h), fun _ => rfl, fun _ => rfl, fun h => h9 (getD_was (by decide) h), fun h => h10 (getD_was (by decide) h), fun h => h11 (getD_was (by decide) h), fun h => (h12 (getD_was (by decide) h)).below hb, fun h => h13 (getD_was (by decide) h), fun h => (h14 (getD_was (by decide) h)).below hb⟩
        · refine wpOp_step rfl (fun K hK => ?_)
          go_simp
          exact hK _ _ ⟨_, _, _, _, _, _, _, _, _, _, _, _, _, _, _, rfl, hB, fun h => h0 (getD_was (by decide) h), fun h => h1 (getD_was (by decide) h), fun h => h2 (getD_was (by decide) h), fun h => h3 (getD_was (by decide) h), fun h => h4 (getD_was (by decide) h), fun h => h5 (getD_was (by decide) h), fun h => h6 (getD_was (by decide) h), fun h => h7 (getD_was (by decide) h), fun h => h8 (getD_was (by decide) h), fun _ => rfl, fun h => h10 (getD_was (by decide) h), fun h => h11 (getD_was (by decide) h), fun h => h12 (getD_was (by decide) h), fun h => h13 (getD_was (by decide) h), fun h => h14 (getD_was (by decide) h)⟩
        · have q9 := h9 (ready_dep hr (by kernel_rfl))
          subst q9
          have z := (HEn2.out.below hB).c 2
          simp only [List.getElem?_toArray, List.getElem?_cons_zero, List.getElem?_cons_succ] at z
          refine wpOp_step rfl (fun K hK => ?_)
          go_simp
          exact hK _ _ ⟨_, _, _, _, _, _, _, _, _, _, _, _, _, _, _, rfl, hB, fun h => h0 (getD_was (by decide) h), fun h => h1 (getD_was (by decide) h), fun h => h2 (getD_was (by decide) h), fun h => h3 (getD_was (by decide) h), fun h => h4 (getD_was (by decide) h), fun h => h5 (getD_was (by decide) h), fun h => h6 (getD_was (by decide) h), fun h => h7 (getD_was (by decide) h), fun h => h8 (getD_was (by decide) h), fun _ => rfl, fun _ => rfl, fun h => h11 (getD_was (by decide) h), fun h => h12 (getD_was (by decide) h), fun h => h13 (getD_was (by decide) h), fun h => h14 (getD_was (by decide) h)⟩
        · have q10 := h10 (ready_dep hr (by kernel_rfl))
          subst q10
          refine wpOp_step rfl (fun K hK => ?_)
          go_simp
          refine (str_r _ w').mono ?_
          rintro e w'' ⟨rfl, hb⟩
          exact hK _ _ ⟨_, _, _, _, _, _, _, _, _, _, _, _, _, _, _, rfl, hB.trans (hb.mono hB.size), fun h => h0 (getD_was (by decide) h), fun h => h1 (getD_was (by decide) h), fun h => (h2 (getD_was (by decide) h)).below hb, fun h => h3 (getD_was (by decide) h), fun h => h4 (getD_was (by decide) h), fun h => h5 (getD_was (by decide) h), fun h => h6 (getD_was (by decide) h), fun h => h7 (getD_was (by decide) h), fun h => h8 (getD_was (by decide) h), fun h => h9 (getD_was (by decide) h), fun _ => rfl, fun _ => rfl, fun h => (h12 (getD_was (by decide) h)).below hb, fun h => h13 (getD_was (by decide) h), fun h => (h14 (getD_was (by decide) h)).below hb⟩
        · have q5 := h5 (ready_dep hr (by kernel_rfl))
          have q8 := h8 (ready_dep hr (by kernel_rfl))
          have q11 := h11 (ready_dep hr (by kernel_rfl))
          subst q5
          subst q8
          subst q11
          simp only [valAgg, vStr, vNum, Val.kind, Val.flag, Val.num, Val.text]
          refine wpOp_step rfl (fun K hK => ?_)
          go_simp
          have hb := (Below.refl w'.heap.size w').alloc (Nat.le_refl _) (.cells (rowC x) 29)
          exact hK _ _ ⟨_, _, _, _, _, _, _, _, _, _, _, _, _, _, _, rfl, hB.alloc hB.size _, fun h => h0 (getD_was (by decide) h), fun h => h1 (getD_was (by decide) h), fun h => (h2 (getD_was (by decide) h)).below hb, fun h => h3 (getD_was (by decide) h), fun h => h4 (getD_was (by decide) h), fun _ => rfl, fun h => h6 (getD_was (by decide) h), fun h => h7 (getD_was (by decide) h), fun _ => rfl, fun h => h9 (getD_was (by decide) h), fun h => h10 (getD_was (by decide) h), fun _ => rfl, fun _ => ⟨_, rfl, hB.size, CB.new _ _ _⟩, fun h => absurd (shut_dep hs (d := 12) (getD_was (by decide) h) (by kernel_rfl)) (by rw [ready_un hr]; simp), fun h => absurd (shut_dep hs (d := 12) (shut_dep hs (d := 13) (getD_was (by decide) h) (by kernel_rfl)) (by kernel_rfl)) (by rw [ready_un hr]; simp)⟩
        · have q12 := h12 (ready_dep hr (by kernel_rfl))
          have q2 := h2 (ready_dep hr (by kernel_rfl))
          obtain ⟨g12, rfl, hg12, hc12⟩ := q12
          obtain ⟨g2, rfl, hg2, hc2⟩ := q2
          refine wpOp_step rfl (fun K hK => ?_)
          go_simp
          refine (table_r _ _ _ _ _ _ w').mono ?_
          rintro e w'' ⟨rfl, hb⟩
          exact hK _ _ ⟨_, _, _, _, _, _, _, _, _, _, _, _, _, _, _, rfl, hB.trans (hb.mono hB.size), fun h => h0 (getD_was (by decide) h), fun h => h1 (getD_was (by decide) h), fun _ => ⟨g2, rfl, hg2, hc2.below hb⟩, fun h => h3 (getD_was (by decide) h), fun h => h4 (getD_was (by decide) h), fun h => h5 (getD_was (by decide) h), fun h => h6 (getD_was (by decide) h), fun h => h7 (getD_was (by decide) h), fun h => h8 (getD_was (by decide) h), fun h => h9 (getD_was (by decide) h), fun h => h10 (getD_was (by decide) h), fun h => h11 (getD_was (by decide) h), fun _ => ⟨g12, rfl, hg12, hc12.below hb⟩, fun _ => rfl, fun h => (h14 (getD_was (by decide) h)).below hb⟩
        · have q13 := h13 (ready_dep hr (by kernel_rfl))
          have q12 := h12 (shut_dep hs (ready_dep hr (d := 13) (by kernel_rfl)) (by kernel_rfl))
          have q2 := h2 (shut_dep hs (ready_dep hr (d := 13) (by kernel_rfl)) (by kernel_rfl))
          subst q13
          obtain ⟨g12, rfl, hg12, hc12⟩ := q12
          obtain ⟨g2, rfl, hg2, hc2⟩ := q2
          unfold tabV
          refine wpOp_step rfl (fun K hK => ?_)
          go_simp
          have hb := (Below.refl w'.heap.size w').alloc (Nat.le_refl _) (.cells #[.int .i64 6, .bool false, .int .i64 0, .string ⟨#[]⟩, .slice (some ⟨g12, 0, none⟩) 3 3, .slice (some ⟨g2, 0, none⟩) 3 3] 29)
          exact hK _ _ ⟨_, _, _, _, _, _, _, _, _, _, _, _, _, _, _, rfl, hB.alloc hB.size _, fun h => h0 (getD_was (by decide) h), fun h => h1 (getD_was (by decide) h), fun _ => ⟨g2, rfl, hg2, hc2.below hb⟩, fun h => h3 (getD_was (by decide) h), fun h => h4 (getD_was (by decide) h), fun h => h5 (getD_was (by decide) h), fun h => h6 (getD_was (by decide) h), fun h => h7 (getD_was (by decide) h), fun h => h8 (getD_was (by decide) h), fun h => h9 (getD_was (by decide) h), fun h => h10 (getD_was (by decide) h), fun h => h11 (getD_was (by decide) h), fun _ => ⟨g12, rfl, hg12, hc12.below hb⟩, fun _ => rfl, fun _ => ⟨_, rfl, hB.size, CB.new _ _ _⟩⟩
      case last =>
        intro a' w' hI
        obtain ⟨x0, x1, x2, x3, x4, x5, x6, x7, x8, x9, x10, x11, x12, x13, x14, rfl, hB, h0, h1, h2, h3, h4, h5, h6, h7, h8, h9, h10, h11, h12, h13, h14⟩ := hI
        have q1 := h1 rfl
        have q2 := h2 rfl
        have q12 := h12 rfl
        have q14 := h14 rfl
        clear h0 h1 h2 h3 h4 h5 h6 h7 h8 h9 h10 h11 h12 h13 h14
        subst q1
        obtain ⟨g11, rfl, hg11, hc11⟩ := q12
        obtain ⟨g12, rfl, hg12, hc12⟩ := q2
        obtain ⟨g13, rfl, hg13, hc13⟩ := q14
        refine wpAny_of_seqA 3 15 rfl (by kernel_rfl) ?_
        simp only [List.drop_succ_cons, List.drop_zero]
        have HBw := Lib.hid (HB2.out.trans (hB.mono HB2.out.size))
        have hsw := HBw.out.size
        have HM8 := Lib.hid (HMd.out.below HBw.out)
        have HO8 := Lib.hid HM8.out.own
        rw [← HPl.out] at HO8
        have hob : ∀ b, (Value.slice Ao mk co).ownBlock = some b → n + 3 ≤ b ∧ b < wr.heap.size := fun b hb => by
          have h := HMd.out.own
          rw [← HPl.out] at h
          exact h.lt b hb
        have hs2 : wr.heap.size + 1 ≤ W2.heap.size := HEn2.out.lt
        have HC11 := Lib.hid hc11; clear hc11
        have HC12 := Lib.hid hc12; clear hc12
        have HC13 := Lib.hid hc13; clear hc13
        have HOb := Lib.hid hob; clear hob
        have HLw := Lib.hid (HLs2.out.below hB)
        have hbw := HB.out.size
        have hn3 := HLst.out.lt
        have k1 : (mk + 1) * 88 ≤ 140737488355328 := by omega
        have k2 : mk + 1 ≤ maxLen := by unfold maxLen; omega
        have k3 : n + 3 ≤ w'.heap.size := by omega
        have k4 : ∀ (j : Nat) (u : Value), (cellsV (rowV x) (.slice (some ⟨g11, 0, none⟩) 3 3) (.slice (some ⟨g12, 0, none⟩) 3 3))[j]? = some u → w'.cell? ⟨g13, j, none⟩ = some u := fun j u hj => by
          rw [HC13.out.c j, List.getElem?_toArray]
          exact hj
        refine wpList_push _ rfl (.tmp 15) (.tmp 28) 27 rfl (n + 3) 29 (.agg #[.int .i64 0, .bool false, .int .i64 0, .string ⟨#[]⟩, .slice none 0 0, .slice none 0 0]) 6 88 Tryd.underlying27 info_valK rfl (by omega) (.slice Ao mk co) mk _ rfl HO8.out (cellsV (rowV x) (.slice (some ⟨g11, 0, none⟩) 3 3) (.slice (some ⟨g12, 0, none⟩) 3 3)) rfl g13 rfl k4 (cellsV_one _ _ _ _ _ _ _) k1 k2 k3 ?_
        clear k4
        intro g9 c9 w9 own9 hg9 hgg9 hb9
        have HL9 := Lib.hid (HLw.out.other hg9 (fun e => by have := (HOb.out _ e.symm).1; omega))
        have HM9 := Lib.hid (MadeV.push (n := rowV x) HM8.out (row_items HC11.out (show n + 3 ≤ g11 ∧ (Value.slice Ao mk co).ownBlock ≠ some g11 from ⟨by omega, fun e => by have := (HOb.out _ e).2; omega⟩) HPs1.out HPk.out HPs2.out)
          (row_keys HC12.out (show n + 3 ≤ g12 ∧ (Value.slice Ao mk co).ownBlock ≠ some g12 from ⟨by omega, fun e => by have := (HOb.out _ e).2; omega⟩)) (row_ok x) (g := g9) (c := c9) (by rw [← HPl.out]; exact own9) hg9 hgg9)
        have l4 := HL9.out.c 4
        have f4 := HL9.out.f 4
        have lsh := HL9.out.sh
        have hn9 : n + 2 < w9.heap.size := HL9.out.lt
        simp only [List.getElem?_toArray, List.getElem?_cons_zero, List.getElem?_cons_succ] at l4
        go_wp2_with fail
        go_roundw
        case rel =>
          have hne : ∀ b, b < n + 3 → (Value.slice Ao mk co).ownBlock ≠ some b := fun b hb e => by have := (HOb.out _ e).1; omega
          refine ⟨k + 1, mk + 1, some ⟨g9, 0, none⟩, c9, ps ++ [⟨rowV x, .slice (some ⟨g11, 0, none⟩) 3 3, .slice (some ⟨g12, 0, none⟩) 3 3⟩], by omega, by go_num, (show _ = _ by rw [List.length_append, ← HPl.out]; rfl), (show MadeV _ _ _ _ by rw [HPl.out]; exact HM9.out.setLow (by omega)), (show _ = _ by rw [List.map_append, HPs.out, HTk.out]; simp),
            Lib.hid (((HB.out.trans (HBw.out.mono HB.out.size)).trans (hb9.mono (by omega))).setB (show w.heap.size ≤ n + 1 + 1 by omega) 4 _),
            Lib.hid (((HBox.out.below HBw.out).other hg9 (fun e => hne n (by omega) e.symm)).setOther (by omega) _),
            Lib.hid (((HRes.out.below HBw.out).other hg9 (fun e => hne (n + 1) (by omega) e.symm)).setOther (by omega) _),
            Lib.hid (HL9.out.put 4 _), by rw [HMk.out]⟩
        case measure => simp [intOf]; omega
    · have HMs := Lib.hid (show ValsIn wr (fun b => n + 3 ≤ b) (.slice Ao mk co) (l.map rowV) by
        have h := HMd.out.vals
        rw [HPs.out, List.take_of_length_le (by omega)] at h
        exact h)
      go_wp2_with fail
      refine wp_region_any (by kernel_rfl) ?_
      change wpAny _ _ _ _ _ _ _ wr.drew
      obtain ⟨W2, hW2⟩ : ∃ W2, wr.drew = W2 := ⟨_, rfl⟩
      have HX7 := Lib.hid (show CB W2 n 26 (boxS html su pl A l.length c wd A1 n1 c1 A2 n2 c2) by rw [← hW2]; exact HBox.out.drew)
      have HL7 := Lib.hid (show CB W2 (n + 2) 29 #[.int .i64 5, .bool false, .int .i64 0, .string ⟨#[]⟩, .slice Ao mk co, .slice none 0 0] by rw [← hW2]; exact HLst.out.drew)
      have HR7 := Lib.hid (show CB W2 (n + 1) 29 #[.int .i64 0, .bool false, .int .i64 0, .string ⟨#[]⟩, .slice none 0 0, .slice none 0 0] by rw [← hW2]; exact HRes.out.drew)
      have HB7 := Lib.hid (show Below w.heap.size w W2 by rw [← hW2]; exact HB.out.drew)
      have HW7 := Lib.hid (show Below wr.heap.size wr W2 by rw [← hW2]; exact (Below.refl _ _).drew)
      have hn7 := HLst.out.lt
      rw [hW2]
      clear hW2 HBox HLst HRes
      refine wpAny_inv [0, 1, 2, 3, 4, 5, 6, 7, 8, 9, 10, 11, 12, 13, 14] (InvR7 (fun v32 v33 v34 v35 v36 v37 v38 v39 v40 v41 v42 v43 v44 v45 v46 => ⟨#[.agg #[.string html, .string su, .string pl, .slice A l.length c, .int .i64 wd, .slice A1 n1 c1, .slice A2 n2 c2], .pointer (some ⟨n, 0, none⟩), .pointer (some ⟨n + 1, 0, none⟩), .pointer (some ⟨n + 1 + 1, 0, none⟩), undef, u5, .agg #[.int .i64 5, .bool false, .int .i64 0, .string ⟨#[]⟩, .slice none 0 0, .slice none 0 0], .pointer (some ⟨n, 3, none⟩), .slice A l.length c, .int .i64 ↑l.length, .int .i64 ↑k, .bool false, u12, u13, u14, u15, u16, u17, u18, u19, u20, u21, u22, u23, u24, u25, u26, u27, u28, u29, u30, u31, v32, v33, v34, v35, v36, v37, v38, v39, v40, v41, v42, v43, v44, v45, v46, undef], []⟩) n html su pl l wd Ao mk co W2) #[true, true, true, true, true, true, true, true, true, true, true, true, true, true, true, false, false] (g := 2) (by kernel_rfl) (by kernel_rfl) (by kernel_rfl) (InvR7.start undef undef undef undef undef undef undef undef undef undef undef undef undef undef undef rfl) ?step ?last
      case step =>
        intro i hi L a' w' hs hr hI
        obtain ⟨x0, x1, x2, x3, x4, x5, x6, x7, x8, x9, x10, x11, x12, x13, x14, rfl, hB, h0, h1, h2, h3, h4, h5, h6, h7, h8, h9, h10, h11, h12, h13, h14⟩ := hI
        simp only [List.mem_cons, List.not_mem_nil, or_false] at hi
        rcases hi with rfl | rfl | rfl | rfl | rfl | rfl | rfl | rfl | rfl | rfl | rfl | rfl | rfl | rfl | rfl
        · refine wpOp_step rfl (fun K hK => ?_)
          go_simp
          have hb := (Below.refl w'.heap.size w').alloc (Nat.le_refl _) (.cells (keysC kContU) 9)
          exact hK _ _ ⟨_, _, _, _, _, _, _, _, _, _, _, _, _, _, _, rfl, hB.alloc hB.size _, fun _ => ⟨_, rfl, hB.size, CB.new _ _ _⟩, fun h => h1 (getD_was (by decide) h), fun h => h2 (getD_was (by decide) h), fun h => h3 (getD_was (by decide) h), fun h => h4 (getD_was (by decide) h), fun h => h5 (getD_was (by decide) h), fun h => h6 (getD_was (by decide) h), fun h => h7 (getD_was (by decide) h), fun h => h8 (getD_was (by decide) h), fun h => h9 (getD_was (by decide) h), fun h => h10 (getD_was (by decide) h), fun h => h11 (getD_was (by decide) h), fun h => h12 (getD_was (by decide) h), fun h => h13 (getD_was (by decide) h), fun h => (h14 (getD_was (by decide) h)).below hb⟩
        · have z0 := (HL7.out.below hB).c 0
          have z1 := (HL7.out.below hB).c 1
          have z2 := (HL7.out.below hB).c 2
          have z3 := (HL7.out.below hB).c 3
          have z4 := (HL7.out.below hB).c 4
          have z5 := (HL7.out.below hB).c 5
          have zsh := (HL7.out.below hB).sh
          simp only [List.getElem?_toArray, List.getElem?_cons_zero, List.getElem?_cons_succ] at z0 z1 z2 z3 z4 z5
          refine wpOp_step rfl (fun K hK => ?_)
          go_simp
          exact hK _ _ ⟨_, _, _, _, _, _, _, _, _, _, _, _, _, _, _, rfl, hB, fun h => h0 (getD_was (by decide) h), fun _ => rfl, fun h => h2 (getD_was (by decide) h), fun h => h3 (getD_was (by decide) h), fun h => h4 (getD_was (by decide) h), fun h => h5 (getD_was (by decide) h), fun h => h6 (getD_was (by decide) h), fun h => h7 (getD_was (by decide) h), fun h => h8 (getD_was (by decide) h), fun h => h9 (getD_was (by decide) h), fun h => h10 (getD_was (by decide) h), fun h => h11 (getD_was (by decide) h), fun h => h12 (getD_was (by decide) h), fun h => h13 (getD_was (by decide) h), fun h => h14 (getD_was (by decide) h)⟩
        · refine wpOp_step rfl (fun K hK => ?_)
          go_simp
          exact hK _ _ ⟨_, _, _, _, _, _, _, _, _, _, _, _, _, _, _, rfl, hB, fun h => h0 (getD_was (by decide) h), fun h => h1 (getD_was (by decide) h), fun _ => rfl, fun h => h3 (getD_was (by decide) h), fun h => h4 (getD_was (by decide) h), fun h => h5 (getD_was (by decide) h), fun h => h6 (getD_was (by decide) h), fun h => h7 (getD_was (by decide) h), fun h => h8 (getD_was (by decide) h), fun h => h9 (getD_was (by decide) h), fun h => h10 (getD_was (by decide) h), fun h => h11 (getD_was (by decide) h), fun h => h12 (getD_was (by decide) h), fun h => h13 (getD_was (by decide) h), fun h => h14 (getD_was (by decide) h)⟩
        · have q2 := h2 (ready_dep hr (by kernel_rfl))
          subst q2
          have z := (HX7.out.below hB).c 0
          simp only [boxS, List.getElem?_toArray, List.getElem?_cons_zero] at z
          refine wpOp_step rfl (fun K hK => ?_)
          go_simp
          exact hK _ _ ⟨_, _, _, _, _, _, _, _, _, _, _, _, _, _, _, rfl, hB, fun h => h0 (getD_was (by decide) h), fun h => h1 (getD_was (by decide) h), fun _ => rfl, fun _ => rfl, fun h => h4 (getD_was (by decide) h), fun h => h5 (getD_was (by decide) h), fun h => h6 (getD_was (by decide) h), fun h => h7 (getD_was (by decide) h), fun h => h8 (getD_was (by decide) h), fun h => h9 (getD_was (by decide) h), fun h => h10 (getD_was (by decide) h), fun h => h11 (getD_was (by decide) h), fun h => h12 (getD_was (by decide) h), fun h => h13 (getD_was (by decide) h), fun h => h14 (getD_was (by decide) h)⟩
        · have q3 := h3 (ready_dep hr (by kernel_rfl))
          subst q3
          refine wpOp_step rfl (fun K hK => ?_)
          go_simp
          refine (safe_r _ w').mono ?_
          rintro e w'' ⟨rfl, hb⟩
          exact hK _ _ ⟨_, _, _, _, _, _, _, _, _, _, _, _, _, _, _, rfl, hB.trans (hb.mono hB.size), fun h => (h0 (getD_was (by decide) h)).below hb, fun h => h1 (getD_was (by decide) h), fun h => h2 (getD_was (by decide) h), fun _ => rfl, fun _ => rfl, fun h => h5 (getD_was (by decide) h), fun h => h6 (getD_was (by decide) h), fun h => h7 (getD_was (by decide) h), fun h => h8 (getD_was (by decide) h), fun h => h9 (getD_was (by decide) h), fun h => h10 (getD_was (by decide) h), fun h => h11 (getD_was (by decide) h), fun h => h12 (getD_was (by decide) h), fun h => h13 (getD_was (by decide) h), fun h => (h14 (getD_was (by decide) h)).below hb⟩
        · refine wpOp_step rfl (fun K hK => ?_)
          go_simp
          exact hK _ _ ⟨_, _, _, _, _, _, _, _, _, _, _, _, _, _, _, rfl, hB, fun h => h0 (getD_was (by decide) h), fun h => h1 (getD_was (by decide) h), fun h => h2 (getD_was (by decide) h), fun h => h3 (getD_was (by decide) h), fun h => h4 (getD_was (by decide) h), fun _ => rfl, fun h => h6 (getD_was (by decide) h), fun h => h7 (getD_was (by decide) h), fun h => h8 (getD_was (by decide) h), fun h => h9 (getD_was (by decide) h), fun h => h10 (getD_was (by decide) h), fun h => h11 (getD_was (by decide) h), fun h => h12 (getD_was (by decide) h), fun h => h13 (getD_was (by decide) h), fun h => h14 (getD_was (by decide) h)⟩
        · have q5 := h5 (ready_dep hr (by kernel_rfl))
          subst q5
          have z := (HX7.out.below hB).c 2
          simp only [boxS, List.getElem?_toArray, List.getElem?_cons_zero, List.getElem?_cons_succ] at z
          refine wpOp_step rfl (fun K hK => ?_)
          go_simp
          exact hK _ _ ⟨_, _, _, _, _, _, _, _, _, _, _, _, _, _, _, rfl, hB, fun h => h0 (getD_was (by decide) h), fun h => h1 (getD_was (by decide) h), fun h => h2 (getD_was (by decide) h), fun h => h3 (getD_was (by decide) h), fun h => h4 (getD_was (by decide) h), fun _ => rfl, fun _ => rfl, fun h => h7 (getD_was (by decide) h), fun h => h8 (getD_was (by decide) h), fun h => h9 (getD_was (by decide) h), fun h => h10 (getD_was (by decide) h), fun h => h11 (getD_was (by decide) h), fun h => h12 (getD_was (by decide) h), fun h => h13 (getD_was (by decide) h), fun h => h14 (getD_was (by decide) h)⟩
        · have q6 := h6 (ready_dep hr (by kernel_rfl))
          subst q6
          refine wpOp_step rfl (fun K hK => ?_)
          go_simp
          refine (str_r _ w').mono ?_
          rintro e w'' ⟨rfl, hb⟩
          exact hK _ _ ⟨_, _, _, _, _, _, _, _, _, _, _, _, _, _, _, rfl, hB.trans (hb.mono hB.size), fun h => (h0 (getD_was (by decide) h)).below hb, fun h => h1 (getD_was (by decide) h), fun h => h2 (getD_was (by decide) h), fun h => h3 (getD_was (by decide) h), fun h => h4 (getD_was (by decide) h), fun h => h5 (getD_was (by decide) h), fun _ => rfl, fun _ => rfl, fun h => h8 (getD_was (by decide) h), fun h => h9 (getD_was (by decide) h), fun h => h10 (getD_was (by decide) h), fun h => h11 (getD_was (by decide) h), fun h => h12 (getD_was (by decide) h), fun h => h13 (getD_was (by decide) h), fun h => (h14 (getD_was (by decide) h)).below hb⟩
        · refine wpOp_step rfl (fun K hK => ?_)
          go_simp
          exact hK _ _ ⟨_, _, _, _, _, _, _, _, _, _, _, _, _, _, _, rfl, hB, fun h => h0 (getD_was (by decide) h), fun h => h1 (getD_was (by decide) h), fun h => h2 (getD_was (by decide) h), fun h => h3 (getD_was (by decide) h), fun h => h4 (getD_was (by decide) h), fun h => h5 (getD_was (by decide) h), fun h => h6 (getD_was (by decide) h), fun h => h7 (getD_was (by decide) h), fun _ => rfl, fun h => h9 (getD_was (by decide) h), fun h => h10 (getD_was (by decide) h), fun h => h11 (getD_was (by decide) h), fun h => h12 (getD_was (by decide) h), fun h => h13 (getD_was (by decide) h), fun h => h14 (getD_was (by decide) h)⟩
        · have q8 := h8 (ready_dep hr (by kernel_rfl))
          subst q8
          have z := (HX7.out.below hB).c 1
          simp only [boxS, List.getElem?_toArray, List.getElem?_cons_zero, List.getElem?_cons_succ] at z
          refine wpOp_step rfl (fun K hK => ?_)
          go_simp
          exact hK _ _ ⟨_, _, _, _, _, _, _, _, _, _, _, _, _, _, _, rfl, hB, fun h => h0 (getD_was (by decide) h), fun h => h1 (getD_was (by decide) h), fun h => h2 (getD_was (by decide) h), fun h => h3 (getD_was (by decide) h), fun h => h4 (getD_was (by decide) h), fun h => h5 (getD_was (by decide) h), fun h => h6 (getD_was (by decide) h), fun h => h7 (getD_was (by decide) h), fun _ => rfl, fun _ => rfl, fun h => h10 (getD_was (by decide) h), fun h => h11 (getD_was (by decide) h), fun h => h12 (getD_was (by decide) h), fun h => h13 (getD_was (by decide) h), fun h => h14 (getD_was (by decide) h)⟩
        · have q9 := h9 (ready_dep hr (by kernel_rfl))
          subst q9
          refine wpOp_step rfl (fun K hK => ?_)
          go_simp
          refine (safe_r _ w').mono ?_
          rintro e w'' ⟨rfl, hb⟩
          exact hK _ _ ⟨_, _, _, _, _, _, _, _, _, _, _, _, _, _, _, rfl, hB.trans (hb.mono hB.size), fun h => (h0 (getD_was (by decide) h)).below hb, fun h => h1 (getD_was (by decide) h), fun h => h2 (getD_was (by decide) h), fun h => h3 (getD_was (by decide) h), fun h => h4 (getD_was (by decide) h), fun h => h5 (getD_was (by decide) h), fun h => h6 (getD_was (by decide) h), fun h => h7 (getD_was (by decide) h), fun h => h8 (getD_was (by decide) h), fun _ => rfl, fun _ => rfl, fun h => h11 (getD_was (by decide) h), fun h => h12 (getD_was (by decide) h), fun h => h13 (getD_was (by decide) h), fun h => (h14 (getD_was (by decide) h)).below hb⟩
        · refine wpOp_step rfl (fun K hK => ?_)
          go_simp
          exact hK _ _ ⟨_, _, _, _, _, _, _, _, _, _, _, _, _, _, _, rfl, hB, fun h => h0 (getD_was (by decide) h), fun h => h1 (getD_was (by decide) h), fun h => h2 (getD_was (by decide) h), fun h => h3 (getD_was (by decide) h), fun h => h4 (getD_was (by decide) h), fun h => h5 (getD_was (by decide) h), fun h => h6 (getD_was (by decide) h), fun h => h7 (getD_was (by decide) h), fun h => h8 (getD_was (by decide) h), fun h => h9 (getD_was (by decide) h), fun h => h10 (getD_was (by decide) h), fun _ => rfl, fun h => h12 (getD_was (by decide) h), fun h => h13 (getD_was (by decide) h), fun h => h14 (getD_was (by decide) h)⟩
        · have q11 := h11 (ready_dep hr (by kernel_rfl))
          subst q11
          have z := (HX7.out.below hB).c 4
          simp only [boxS, List.getElem?_toArray, List.getElem?_cons_zero, List.getElem?_cons_succ] at z
          refine wpOp_step rfl (fun K hK => ?_)
          go_simp
          exact hK _ _ ⟨_, _, _, _, _, _, _, _, _, _, _, _, _, _, _, rfl, hB, fun h => h0 (getD_was (by decide) h), fun h => h1 (getD_was (by decide) h), fun h => h2 (getD_was (by decide) h), fun h => h3 (getD_was (by decide) h), fun h => h4 (getD_was (by decide) h), fun h => h5 (getD_was (by decide) h), fun h => h6 (getD_was (by decide) h), fun h => h7 (getD_was (by decide) h), fun h => h8 (getD_was (by decide) h), fun h => h9 (getD_was (by decide) h), fun h => h10 (getD_was (by decide) h), fun _ => rfl, fun _ => rfl, fun h => h13 (getD_was (by decide) h), fun h => h14 (getD_was (by decide) h)⟩
        · have q12 := h12 (ready_dep hr (by kernel_rfl))
          subst q12
          refine wpOp_step rfl (fun K hK => ?_)
          go_simp
          refine (num_r _ w').mono ?_
          rintro e w'' ⟨rfl, hb⟩
          exact hK _ _ ⟨_, _, _, _, _, _, _, _, _, _, _, _, _, _, _, rfl, hB.trans (hb.mono hB.size), fun h => (h0 (getD_was (by decide) h)).below hb, fun h => h1 (getD_was (by decide) h), fun h => h2 (getD_was (by decide) h), fun h => h3 (getD_was (by decide) h), fun h => h4 (getD_was (by decide) h), fun h => h5 (getD_was (by decide) h), fun h => h6 (getD_was (by decide) h), fun h => h7 (getD_was (by decide) h), fun h => h8 (getD_was (by decide) h), fun h => h9 (getD_was (by decide) h), fun h => h10 (getD_was (by decide) h), fun h => h11 (getD_was (by decide) h), fun _ => rfl, fun _ => rfl, fun h => (h14 (getD_was (by decide) h)).below hb⟩
        · have q1 := h1 (ready_dep hr (by kernel_rfl))
          have q4 := h4 (ready_dep hr (by kernel_rfl))
          have q7 := h7 (ready_dep hr (by kernel_rfl))
          have q10 := h10 (ready_dep hr (by kernel_rfl))
          have q13 := h13 (ready_dep hr (by kernel_rfl))
          subst q1
          subst q4
          subst q7
          subst q10
          subst q13
          simp only [valAgg, vStr, vNum, vSafe, Val.kind, Val.flag, Val.num, Val.text]
          refine wpOp_step rfl (fun K hK => ?_)
          go_simp
          have hb := (Below.refl w'.heap.size w').alloc (Nat.le_refl _) (.cells (flatV (partsC html su pl l wd (.slice Ao mk co))).toArray 29)
          exact hK _ _ ⟨_, _, _, _, _, _, _, _, _, _, _, _, _, _, _, rfl, hB.alloc hB.size _, fun h => (h0 (getD_was (by decide) h)).below hb, fun _ => rfl, fun h => h2 (getD_was (by decide) h), fun h => h3 (getD_was (by decide) h), fun _ => rfl, fun h => h5 (getD_was (by decide) h), fun h => h6 (getD_was (by decide) h), fun _ => rfl, fun h => h8 (getD_was (by decide) h), fun h => h9 (getD_was (by decide) h), fun _ => rfl, fun h => h11 (getD_was (by decide) h), fun h => h12 (getD_was (by decide) h), fun _ => rfl, fun _ => ⟨_, rfl, hB.size, CB.new _ _ _⟩⟩
      case last =>
        intro a' w' hI
        obtain ⟨x0, x1, x2, x3, x4, x5, x6, x7, x8, x9, x10, x11, x12, x13, x14, rfl, hB, h0, h1, h2, h3, h4, h5, h6, h7, h8, h9, h10, h11, h12, h13, h14⟩ := hI
        have q0 := h0 rfl
        have q14 := h14 rfl
        clear h0 h1 h2 h3 h4 h5 h6 h7 h8 h9 h10 h11 h12 h13 h14
        obtain ⟨g2, rfl, hg2, hc2⟩ := q0
        obtain ⟨g1, rfl, hg1, hc1⟩ := q14
        refine wpAny_of_seqA 2 15 rfl (by kernel_rfl) ?_
        simp only [List.drop_succ_cons, List.drop_zero]
        go_wp2_with fail
        have hn8 := HW7.out.size
        have hn9 := hB.size
        refine (table_r _ _ _ _ _ _ w').mono ?_
        rintro e w9 ⟨rfl, hb9⟩
        have HWw := Lib.hid (HW7.out.trans (hB.mono hn8))
        have HR9 := Lib.hid ((HR7.out.below hB).below hb9)
        have HW9 := Lib.hid (HWw.out.trans (hb9.mono (by omega)))
        have HBw := Lib.hid (HB7.out.trans (hB.mono HB7.out.size))
        have HB9 := Lib.hid (HBw.out.trans (hb9.mono HBw.out.size))
        have HIt := Lib.hid (cont_items (hc1.below hb9) (show n + 3 ≤ g1 by omega) (HMs.out.keep (KeepsIn.of_keeps (Keeps.of_below HW9.out)) (Q := fun b => n + 3 ≤ b) (fun _ _ x => x)) HZ1.out HZ2.out HZ3.out HZ4.out)
        have HKy := Lib.hid (cont_keys (hc2.below hb9) (P := fun b => n + 3 ≤ b) (show n + 3 ≤ g2 by omega))
        clear hc1 hc2 hb9
        have zc0 := HR9.out.c 0
        have zf0 := HR9.out.f 0
        have zc1 := HR9.out.c 1
        have zf1 := HR9.out.f 1
        have zc2 := HR9.out.c 2
        have zf2 := HR9.out.f 2
        have zc3 := HR9.out.c 3
        have zf3 := HR9.out.f 3
        have zc4 := HR9.out.c 4
        have zf4 := HR9.out.f 4
        have zc5 := HR9.out.c 5
        have zf5 := HR9.out.f 5
        have zsh := HR9.out.sh
        have hnz : n + 1 < w9.heap.size := HR9.out.lt
        simp only [List.getElem?_toArray, List.getElem?_cons_zero, List.getElem?_cons_succ] at zc0 zc1 zc2 zc3 zc4 zc5
        unfold tabV
        go_wp2_with fail
        have K1 : KeepsIn (fun b => n + 3 ≤ b) w9 ((((((w9.setCell ⟨n + 1, 0, none⟩ (.int .i64 6)).setCell ⟨n + 1, 1, none⟩ (.bool false)).setCell ⟨n + 1, 2, none⟩ (.int .i64 0)).setCell ⟨n + 1, 3, none⟩ (.string ⟨#[]⟩)).setCell ⟨n + 1, 4, none⟩ (.slice (some ⟨g1, 0, none⟩) 5 5)).setCell ⟨n + 1, 5, none⟩ (.slice (some ⟨g2, 0, none⟩) 5 5)) :=
          (((((keepsIn_set (by omega)).trans (keepsIn_set (by omega))).trans (keepsIn_set (by omega))).trans (keepsIn_set (by omega))).trans (keepsIn_set (by omega))).trans (keepsIn_set (by omega))
        exact val_done (n := n + 1) rfl ((((((HR9.out.put 0 _).put 1 _).put 2 _).put 3 _).put 4 _).put 5 _) rfl rfl rfl
          ⟨some ⟨g1, 0, none⟩, 5, 5, some ⟨g2, 0, none⟩, 5, 5, rfl, ⟨_, _, rfl, ⟨i64_6, i64_0, Nat.zero_le _⟩, HIt.out.keep K1 (fun b _ hb => by omega), HKy.out.keep K1 (fun b _ hb => by omega)⟩,
            (((((HB9.out.setB (by omega) 0 _).setB (by omega) 1 _).setB (by omega) 2 _).setB (by omega) 3 _).setB (by omega) 4 _).setB (by omega) 5 _⟩

end Go.Proofs.YtnoiipngingdoaaDoor
