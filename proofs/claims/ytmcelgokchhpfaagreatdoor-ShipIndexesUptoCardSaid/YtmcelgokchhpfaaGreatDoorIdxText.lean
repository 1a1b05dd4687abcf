/-
  An index's text: ship.indexText (a builder).
-/
import Derived.Test.YtmcelgokchhpfaaGreatDoorIdxDocs
import Derived.Test.YtmcelgokchhpfaaGreatDoorBuilderK
import Derived.Test.YtmcelgokchhpfaaGreatDoorRegInv
namespace Go.Proofs.YtmcelgokchhpfaaGreatDoor
open Go.RowKit Go.ChangeShapes Go.WideShapes Go.Deep

theorem itS (n : Int) : (⟨(Lib.itoa n).toArray⟩ : ByteArray).data.toList = itL n := rfl
theorem doc_bytes (a t x : ByteArray) (n : Int) : ((⟨#[100, 111, 99, 32]⟩ : ByteArray) ++ a ++ (⟨#[32]⟩ : ByteArray) ++ (⟨(Lib.itoa n).toArray⟩ : ByteArray) ++ (⟨#[32]⟩ : ByteArray) ++ t ++ (⟨#[10]⟩ : ByteArray)).data.toList = docT ⟨a, t, x⟩ n := by
  simp [docT, itL]
theorem post_bytes (x y : Int) : ((⟨#[32]⟩ : ByteArray) ++ (⟨(Lib.itoa x).toArray⟩ : ByteArray) ++ (⟨#[58]⟩ : ByteArray) ++ (⟨(Lib.itoa y).toArray⟩ : ByteArray)).data.toList = postT x y := by
  simp [postT, itL]
def InvD (fr : Value → Value → Value → Value → Value → Value → Value → Value → Value → Value → Value → Value → Value → Value → Value → Value → Act) (nb nd b2 o2 ls c2 k : Nat) (addr title : ByteArray) (n : Int) (W1 : World) (L : Array Bool) (a : Act) (w : World) : Prop :=
  ∃ x0 x1 x2 x3 x4 x5 x6 x7 x8 x9 x10 x11 x12 x13 x14 x15 : Value, a = fr x0 x1 x2 x3 x4 x5 x6 x7 x8 x9 x10 x11 x12 x13 x14 x15 ∧ Below W1.heap.size W1 w ∧ (L.getD 0 false = true → x0 = .pointer (some ⟨nd, 0, none⟩)) ∧ (L.getD 1 false = true → x1 = .string addr) ∧ (L.getD 2 false = true → x2 = .string ((⟨#[100, 111, 99, 32]⟩ : ByteArray) ++ addr)) ∧ (L.getD 3 false = true → x3 = .string ((⟨#[100, 111, 99, 32]⟩ : ByteArray) ++ addr ++ (⟨#[32]⟩ : ByteArray))) ∧ (L.getD 4 false = true → x4 = .pointer (some ⟨nb, 1, none⟩)) ∧ (L.getD 5 false = true → x5 = .slice (some ⟨b2, o2, none⟩) ls c2) ∧ (L.getD 6 false = true → x6 = .int .i64 k) ∧ (L.getD 7 false = true → x7 = .pointer (some ⟨b2, o2 + k, none⟩)) ∧ (L.getD 8 false = true → x8 = .int .i64 n) ∧ (L.getD 9 false = true → x9 = .string (⟨(Lib.itoa n).toArray⟩ : ByteArray)) ∧ (L.getD 10 false = true → x10 = .string ((⟨#[100, 111, 99, 32]⟩ : ByteArray) ++ addr ++ (⟨#[32]⟩ : ByteArray) ++ (⟨(Lib.itoa n).toArray⟩ : ByteArray))) ∧ (L.getD 11 false = true → x11 = .string ((⟨#[100, 111, 99, 32]⟩ : ByteArray) ++ addr ++ (⟨#[32]⟩ : ByteArray) ++ (⟨(Lib.itoa n).toArray⟩ : ByteArray) ++ (⟨#[32]⟩ : ByteArray))) ∧ (L.getD 12 false = true → x12 = .pointer (some ⟨nd, 1, none⟩)) ∧ (L.getD 13 false = true → x13 = .string title) ∧ (L.getD 14 false = true → x14 = .string ((⟨#[100, 111, 99, 32]⟩ : ByteArray) ++ addr ++ (⟨#[32]⟩ : ByteArray) ++ (⟨(Lib.itoa n).toArray⟩ : ByteArray) ++ (⟨#[32]⟩ : ByteArray) ++ title)) ∧ (L.getD 15 false = true → x15 = .string ((⟨#[100, 111, 99, 32]⟩ : ByteArray) ++ addr ++ (⟨#[32]⟩ : ByteArray) ++ (⟨(Lib.itoa n).toArray⟩ : ByteArray) ++ (⟨#[32]⟩ : ByteArray) ++ title ++ (⟨#[10]⟩ : ByteArray)))
theorem InvD.start {m : Nat} {fr : Value → Value → Value → Value → Value → Value → Value → Value → Value → Value → Value → Value → Value → Value → Value → Value → Act} {nb nd b2 o2 ls c2 k : Nat} {addr title : ByteArray} {n : Int} {W1 : World} {a : Act} (x0 x1 x2 x3 x4 x5 x6 x7 x8 x9 x10 x11 x12 x13 x14 x15 : Value) (h : a = fr x0 x1 x2 x3 x4 x5 x6 x7 x8 x9 x10 x11 x12 x13 x14 x15) : InvD fr nb nd b2 o2 ls c2 k addr title n W1 (Array.replicate m false) a W1 :=
  ⟨x0, x1, x2, x3, x4, x5, x6, x7, x8, x9, x10, x11, x12, x13, x14, x15, h, Below.refl _ _, (fun h => by rw [getD_replicate_false] at h; cases h), (fun h => by rw [getD_replicate_false] at h; cases h), (fun h => by rw [getD_replicate_false] at h; cases h), (fun h => by rw [getD_replicate_false] at h; cases h), (fun h => by rw [getD_replicate_false] at h; cases h), (fun h => by rw [getD_replicate_false] at h; cases h), (fun h => by rw [getD_replicate_false] at h; cases h), (fun h => by rw [getD_replicate_false] at h; cases h), (fun h => by rw [getD_replicate_false] at h; cases h), (fun h => by rw [getD_replicate_false] at h; cases h), (fun h => by rw [getD_replicate_false] at h; cases h), (fun h => by rw [getD_replicate_false] at h; cases h), (fun h => by rw [getD_replicate_false] at h; cases h), (fun h => by rw [getD_replicate_false] at h; cases h), (fun h => by rw [getD_replicate_false] at h; cases h), (fun h => by rw [getD_replicate_false] at h; cases h)⟩
def InvP (fr : Value → Value → Value → Value → Value → Value → Value → Value → Value → Value → Value → Act) (nt bm om lm cm j : Nat) (x y : Int) (W1 : World) (L : Array Bool) (a : Act) (w : World) : Prop :=
  ∃ x0 x1 x2 x3 x4 x5 x6 x7 x8 x9 x10 : Value, a = fr x0 x1 x2 x3 x4 x5 x6 x7 x8 x9 x10 ∧ Below W1.heap.size W1 w ∧ (L.getD 0 false = true → x0 = .int .i64 x) ∧ (L.getD 1 false = true → x1 = .string (⟨(Lib.itoa x).toArray⟩ : ByteArray)) ∧ (L.getD 2 false = true → x2 = .string ((⟨#[32]⟩ : ByteArray) ++ (⟨(Lib.itoa x).toArray⟩ : ByteArray))) ∧ (L.getD 3 false = true → x3 = .string ((⟨#[32]⟩ : ByteArray) ++ (⟨(Lib.itoa x).toArray⟩ : ByteArray) ++ (⟨#[58]⟩ : ByteArray))) ∧ (L.getD 4 false = true → x4 = .pointer (some ⟨nt, 2, none⟩)) ∧ (L.getD 5 false = true → x5 = .slice (some ⟨bm, om, none⟩) lm cm) ∧ (L.getD 6 false = true → x6 = .int .i64 j) ∧ (L.getD 7 false = true → x7 = .pointer (some ⟨bm, om + j, none⟩)) ∧ (L.getD 8 false = true → x8 = .int .i64 y) ∧ (L.getD 9 false = true → x9 = .string (⟨(Lib.itoa y).toArray⟩ : ByteArray)) ∧ (L.getD 10 false = true → x10 = .string ((⟨#[32]⟩ : ByteArray) ++ (⟨(Lib.itoa x).toArray⟩ : ByteArray) ++ (⟨#[58]⟩ : ByteArray) ++ (⟨(Lib.itoa y).toArray⟩ : ByteArray)))
theorem InvP.start {m : Nat} {fr : Value → Value → Value → Value → Value → Value → Value → Value → Value → Value → Value → Act} {nt bm om lm cm j : Nat} {x y : Int} {W1 : World} {a : Act} (x0 x1 x2 x3 x4 x5 x6 x7 x8 x9 x10 : Value) (h : a = fr x0 x1 x2 x3 x4 x5 x6 x7 x8 x9 x10) : InvP fr nt bm om lm cm j x y W1 (Array.replicate m false) a W1 :=
  ⟨x0, x1, x2, x3, x4, x5, x6, x7, x8, x9, x10, h, Below.refl _ _, (fun h => by rw [getD_replicate_false] at h; cases h), (fun h => by rw [getD_replicate_false] at h; cases h), (fun h => by rw [getD_replicate_false] at h; cases h), (fun h => by rw [getD_replicate_false] at h; cases h), (fun h => by rw [getD_replicate_false] at h; cases h), (fun h => by rw [getD_replicate_false] at h; cases h), (fun h => by rw [getD_replicate_false] at h; cases h), (fun h => by rw [getD_replicate_false] at h; cases h), (fun h => by rw [getD_replicate_false] at h; cases h), (fun h => by rw [getD_replicate_false] at h; cases h), (fun h => by rw [getD_replicate_false] at h; cases h)⟩

set_option maxRecDepth 100000 in
set_option maxHeartbeats 4000000 in
theorem indexText_q (D : List DocR) (S : List Int) (T : List TermR) (dv sv tv : Value) (w : World) (h : IdxAt w dv sv tv D S T) (hS : D.length ≤ S.length) (hT : ∀ t ∈ T, t.docs.length ≤ t.many.length) (hlen : (idxT D S T).length ≤ 1073741824) (htab : TabOk w) :
    Calls Tryz.prog 13 #[.agg #[dv, sv, tv]] w fun e w' => e = .returned (.string ⟨(idxT D S T).toArray⟩) ∧ Below w.heap.size w w' := by
  obtain ⟨⟨A, c, b, o, rfl, hlc, hc, hA, hcell⟩, ⟨A2, c2, b2, o2, rfl, hlc2, hc2, hA2, hcell2⟩, ⟨A3, c3, b3, o3, dvs, mvs, rfl, hlc3, hc3, hA3, hcell3⟩⟩ := h
  unfold maxLen at hc hc2 hc3
  have HCell := Lib.hid hcell; clear hcell
  have HCell2 := Lib.hid hcell2; clear hcell2
  have HCell3 := Lib.hid hcell3; clear hcell3
  have HA := Lib.hid hA; clear hA
  have HA2 := Lib.hid hA2; clear hA2
  have HA3 := Lib.hid hA3; clear hA3
  have HT := Lib.hid hT; clear hT
  have HLen := Lib.hid hlen; clear hlen
  have HTab := Lib.hid htab; clear htab
  go_enter Tryz.func13, Tryz.ntmps13
  go_wp2_with fail
  obtain ⟨W0, hW0⟩ : ∃ W0, w.alloc (.cells #[.slice A D.length c, .slice A2 S.length c2, .slice A3 T.length c3] 26) = W0 := ⟨_, rfl⟩
  have hs0 : W0.heap.size = w.heap.size + 1 := by rw [← hW0]; simp
  have HX0 := Lib.hid (show CB W0 w.heap.size 26 #[.slice A D.length c, .slice A2 S.length c2, .slice A3 T.length c3] by rw [← hW0]; exact CB.new _ _ _)
  have HB0 := Lib.hid (show Below w.heap.size w W0 by rw [← hW0]; exact (Below.refl _ _).alloc (Nat.le_refl _) _)
  obtain ⟨W1, hW1⟩ : ∃ W1, W0.alloc (.cells #[.pointer none, .slice none 0 0] 75) = W1 := ⟨_, rfl⟩
  have HBl1 := Lib.hid (show Bld (w.heap.size + 1) (w.heap.size + 1) [] W1 by rw [← hW1, ← hs0]; exact Lib.fresh_isBuilder _ _ _)
  have HX1 := Lib.hid (show CB W1 w.heap.size 26 #[.slice A D.length c, .slice A2 S.length c2, .slice A3 T.length c3] by rw [← hW1]; exact HX0.out.alloc _)
  have HB1 := Lib.hid (show Below w.heap.size w W1 by rw [← hW1]; exact HB0.out.alloc HB0.out.size _)
  rw [hW0, hW1]
  clear hW0 hW1 HX0 HB0 hs0
  obtain ⟨nb, hnb⟩ : ∃ nb, w.heap.size = nb := ⟨_, rfl⟩
  rw [hnb] at HX1 HBl1
  have HNb := Lib.hid hnb
  rw [hnb]
  clear hnb
  go_loopw [13] (fun t wr => ∃ (k : Nat) (u : List UInt8), k ≤ D.length ∧ t = .int .i64 k ∧ Hid (docsT D S = u ++ docsT (D.drop k) (S.drop k)) ∧ Hid (Bld (nb + 1) (nb + 1) u wr) ∧ Hid (CB wr nb 26 #[.slice A D.length c, .slice A2 S.length c2, .slice A3 T.length c3]) ∧ Hid (Below w.heap.size w wr)) (fun t _ => D.length - (intOf t).toNat)
  case atStart => exact ⟨0, [], Nat.zero_le _, rfl, rfl, HBl1.out, HX1.out, HB1.out⟩
  case round =>
    clear HBl1 HX1 HB1
    obtain ⟨k, u, hk, rfl, HU, HBl, HX, HB⟩ := hrel
    have hnr : nb < wr.heap.size := HX.out.lt
    by_cases hlt : k < D.length
    · have hA' := HA.out (by rintro rfl; simp at hlt)
      subst hA'
      clear HA
      obtain ⟨⟨addr, title, text⟩, hn⟩ : ∃ n, D[k]? = some n := ⟨_, List.getElem?_eq_getElem hlt⟩
      obtain ⟨n, hn2⟩ : ∃ n, S[k]? = some n := ⟨_, List.getElem?_eq_getElem (by omega)⟩
      have hA2' := HA2.out (by rintro rfl; simp at hn2)
      subst hA2'
      obtain ⟨p0, p1, p2⟩ := (HCell.out k _ hn).keep (Keeps.of_below HB.out)
      simp only at p0 p1 p2
      obtain ⟨s0, s1⟩ := HCell2.out k _ hn2
      have HS0 := Lib.hid (Keeps.of_below HB.out _ _ s0)
      have HI := Lib.hid s1
      clear s0 s1
      have bb := World.block_lt_of_cell? _ _ p0
      simp only at bb
      have HU2 := Lib.hid (HU.out.trans (by rw [docsT_at hn hn2]))
      have hkS : k < S.length := by omega
      clear hn hn2
      go_wp2_with fail
      obtain ⟨W2, hW2⟩ : ∃ W2, wr.alloc (.cells #[.string addr, .string title, .string text] 33) = W2 := ⟨_, rfl⟩
      obtain ⟨nd, hnd⟩ : ∃ nd, wr.heap.size = nd := ⟨_, rfl⟩
      have HBl2 := Lib.hid (show Bld (nb + 1) (nb + 1) u W2 by rw [← hW2]; exact bld_below HBl.out ((Below.refl _ _).alloc (Nat.le_refl _) _))
      have HB2 := Lib.hid (show Below w.heap.size w W2 by rw [← hW2]; exact HB.out.alloc HB.out.size _)
      have HX2 := Lib.hid (show CB W2 nb 26 _ by rw [← hW2]; exact HX.out.alloc _)
      have HD2 := Lib.hid (show CB W2 nd 33 #[.string addr, .string title, .string text] by rw [← hW2, ← hnd]; exact CB.new _ _ _)
      have HS2 := Lib.hid (show W2.cell? ⟨b2, o2 + k, none⟩ = some (.int .i64 n) by rw [← hW2]; exact Keeps.of_below ((Below.refl _ _).alloc (Nat.le_refl _) _) _ _ HS0.out)
      rw [hW2, hnd]
      have hW2s : nb + 1 ≤ W2.heap.size := by rw [← hW2]; simp; omega
      clear hW2 HBl HB HX HS0 p0 p1 p2 bb
      refine wp_region_any (by kernel_rfl) ?_
      change wpAny _ _ _ _ _ _ _ W2.drew
      obtain ⟨W3, hW3⟩ : ∃ W3, W2.drew = W3 := ⟨_, rfl⟩
      have HD3 := Lib.hid (show CB W3 nd 33 #[.string addr, .string title, .string text] by rw [← hW3]; exact HD2.out.drew)
      have HX3 := Lib.hid (show CB W3 nb 26 _ by rw [← hW3]; exact HX2.out.drew)
      have HS3 := Lib.hid (show W3.cell? ⟨b2, o2 + k, none⟩ = some (.int .i64 n) by rw [← hW3]; exact HS2.out)
      have HB3 := Lib.hid (show Below w.heap.size w W3 by rw [← hW3]; exact HB2.out.drew)
      have HBl3 := Lib.hid (show Bld (nb + 1) (nb + 1) u W3 by rw [← hW3]; exact bld_below HBl2.out (Below.refl _ _).drew)
      have HTab3 := Lib.hid (HTab.out.keep HB3.out)
      have hW3s : nb + 1 ≤ W3.heap.size := by rw [← hW3]; simpa using hW2s
      rw [hW3]
      have hIl : (Lib.itoa n).length ≤ 21 := itL_len HI.out
      have hIz : (⟨(Lib.itoa n).toArray⟩ : ByteArray).size ≤ 21 := by rw [← size_toList]; exact hIl
      have hdl : addr.size + title.size ≤ 1073741824 := by
        have h1 := HLen.out
        rw [idxT, HU2.out] at h1
        simp only [docT, List.length_append, size_toList] at h1
        omega
      clear hW3 HD2 HX2 HS2 HB2 HBl2
      refine wpAny_inv [0, 1, 2, 3, 4, 5, 6, 7, 8, 9, 10, 11, 12, 13, 14, 15] (InvD (fun v18 v19 v20 v21 v22 v23 v24 v25 v26 v27 v28 v29 v30 v31 v32 v33 => ⟨#[.agg #[.slice (some ⟨b, o, none⟩) D.length c, .slice (some ⟨b2, o2, none⟩) S.length c2, .slice A3 T.length c3], .pointer (some ⟨nb, 0, none⟩), .string ⟨#[]⟩, .pointer (some ⟨nb + 1, 0, none⟩), .int .i64 ↑k, .pointer (some ⟨nd, 0, none⟩), undef, undef, undef, undef, .pointer (some ⟨nb, 0, none⟩), .slice (some ⟨b, o, none⟩) D.length c, .int .i64 ↑D.length, .int .i64 ↑k, .bool true, .int .i64 ↑k, .pointer (some ⟨b, o + k * 3, none⟩), .agg #[.string addr, .string title, .string text], v18, v19, v20, v21, v22, v23, v24, v25, v26, v27, v28, v29, v30, v31, v32, v33, u34, u35, undef, undef, undef, undef, undef, undef, undef, undef, undef, undef, undef, undef, undef, undef, undef, undef, undef, undef, undef, undef, undef, undef, undef, undef, undef, undef, undef, undef, undef, undef, undef, undef, undef, undef, undef], []⟩) nb nd b2 o2 S.length c2 k addr title n W3) #[true, true, true, true, true, true, true, true, true, true, true, true, true, true, true, true, false] (g := 1) (by kernel_rfl) (by kernel_rfl) (by kernel_rfl) (InvD.start u18 u19 u20 u21 u22 u23 u24 u25 u26 u27 u28 u29 u30 u31 u32 u33 rfl) ?step ?last
      case step =>
        intro i hi L a' w' hs hr hI
        obtain ⟨x0, x1, x2, x3, x4, x5, x6, x7, x8, x9, x10, x11, x12, x13, x14, x15, rfl, hB, h0, h1, h2, h3, h4, h5, h6, h7, h8, h9, h10, h11, h12, h13, h14, h15⟩ := hI
        simp only [List.mem_cons, List.not_mem_nil, or_false] at hi
        rcases hi with rfl | rfl | rfl | rfl | rfl | rfl | rfl | rfl | rfl | rfl | rfl | rfl | rfl | rfl | rfl | rfl
        · refine wpOp_step rfl (fun K hK => ?_)
          go_simp
          exact hK _ _ ⟨_, _, _, _, _, _, _, _, _, _, _, _, _, _, _, _, rfl, hB, fun _ => rfl, fun h => h1 (getD_was (by decide) h), fun h => h2 (getD_was (by decide) h), fun h => h3 (getD_was (by decide) h), fun h => h4 (getD_was (by decide) h), fun h => h5 (getD_was (by decide) h), fun h => h6 (getD_was (by decide) h), fun h => h7 (getD_was (by decide) h), fun h => h8 (getD_was (by decide) h), fun h => h9 (getD_was (by decide) h), fun h => h10 (getD_was (by decide) h), fun h => h11 (getD_was (by decide) h), fun h => h12 (getD_was (by decide) h), fun h => h13 (getD_was (by decide) h), fun h => h14 (getD_was (by decide) h), fun h => h15 (getD_was (by decide) h)⟩
        · have q0 := h0 (ready_dep hr (by kernel_rfl))
          subst q0
          have z := (HD3.out.below hB).c 0
          simp only [List.getElem?_toArray, List.getElem?_cons_zero] at z
          refine wpOp_step rfl (fun K hK => ?_)
          go_simp
          exact hK _ _ ⟨_, _, _, _, _, _, _, _, _, _, _, _, _, _, _, _, rfl, hB, fun _ => rfl, fun _ => rfl, fun h => h2 (getD_was (by decide) h), fun h => h3 (getD_was (by decide) h), fun h => h4 (getD_was (by decide) h), fun h => h5 (getD_was (by decide) h), fun h => h6 (getD_was (by decide) h), fun h => h7 (getD_was (by decide) h), fun h => h8 (getD_was (by decide) h), fun h => h9 (getD_was (by decide) h), fun h => h10 (getD_was (by decide) h), fun h => h11 (getD_was (by decide) h), fun h => h12 (getD_was (by decide) h), fun h => h13 (getD_was (by decide) h), fun h => h14 (getD_was (by decide) h), fun h => h15 (getD_was (by decide) h)⟩
        · have q1 := h1 (ready_dep hr (by kernel_rfl))
          subst q1
          refine wpOp_step rfl (fun K hK => ?_)
          go_simp
          rw [if_neg (by first | omega | (simp only [ByteArray.size_append]; omega) | (simp; omega))]
          go_simp
          exact hK _ _ ⟨_, _, _, _, _, _, _, _, _, _, _, _, _, _, _, _, rfl, hB, fun h => h0 (getD_was (by decide) h), fun _ => rfl, fun _ => rfl, fun h => h3 (getD_was (by decide) h), fun h => h4 (getD_was (by decide) h), fun h => h5 (getD_was (by decide) h), fun h => h6 (getD_was (by decide) h), fun h => h7 (getD_was (by decide) h), fun h => h8 (getD_was (by decide) h), fun h => h9 (getD_was (by decide) h), fun h => h10 (getD_was (by decide) h), fun h => h11 (getD_was (by decide) h), fun h => h12 (getD_was (by decide) h), fun h => h13 (getD_was (by decide) h), fun h => h14 (getD_was (by decide) h), fun h => h15 (getD_was (by decide) h)⟩
        · have q2 := h2 (ready_dep hr (by kernel_rfl))
          subst q2
          refine wpOp_step rfl (fun K hK => ?_)
          go_simp
          rw [if_neg (by first | omega | (simp only [ByteArray.size_append]; omega) | (simp; omega))]
          go_simp
          exact hK _ _ ⟨_, _, _, _, _, _, _, _, _, _, _, _, _, _, _, _, rfl, hB, fun h => h0 (getD_was (by decide) h), fun h => h1 (getD_was (by decide) h), fun _ => rfl, fun _ => rfl, fun h => h4 (getD_was (by decide) h), fun h => h5 (getD_was (by decide) h), fun h => h6 (getD_was (by decide) h), fun h => h7 (getD_was (by decide) h), fun h => h8 (getD_was (by decide) h), fun h => h9 (getD_was (by decide) h), fun h => h10 (getD_was (by decide) h), fun h => h11 (getD_was (by decide) h), fun h => h12 (getD_was (by decide) h), fun h => h13 (getD_was (by decide) h), fun h => h14 (getD_was (by decide) h), fun h => h15 (getD_was (by decide) h)⟩
        · refine wpOp_step rfl (fun K hK => ?_)
          go_simp
          exact hK _ _ ⟨_, _, _, _, _, _, _, _, _, _, _, _, _, _, _, _, rfl, hB, fun h => h0 (getD_was (by decide) h), fun h => h1 (getD_was (by decide) h), fun h => h2 (getD_was (by decide) h), fun h => h3 (getD_was (by decide) h), fun _ => rfl, fun h => h5 (getD_was (by decide) h), fun h => h6 (getD_was (by decide) h), fun h => h7 (getD_was (by decide) h), fun h => h8 (getD_was (by decide) h), fun h => h9 (getD_was (by decide) h), fun h => h10 (getD_was (by decide) h), fun h => h11 (getD_was (by decide) h), fun h => h12 (getD_was (by decide) h), fun h => h13 (getD_was (by decide) h), fun h => h14 (getD_was (by decide) h), fun h => h15 (getD_was (by decide) h)⟩
        · have q4 := h4 (ready_dep hr (by kernel_rfl))
          subst q4
          have z := (HX3.out.below hB).c 1
          simp only [List.getElem?_toArray, List.getElem?_cons_zero, List.getElem?_cons_succ] at z
          refine wpOp_step rfl (fun K hK => ?_)
          go_simp
          exact hK _ _ ⟨_, _, _, _, _, _, _, _, _, _, _, _, _, _, _, _, rfl, hB, fun h => h0 (getD_was (by decide) h), fun h => h1 (getD_was (by decide) h), fun h => h2 (getD_was (by decide) h), fun h => h3 (getD_was (by decide) h), fun _ => rfl, fun _ => rfl, fun h => h6 (getD_was (by decide) h), fun h => h7 (getD_was (by decide) h), fun h => h8 (getD_was (by decide) h), fun h => h9 (getD_was (by decide) h), fun h => h10 (getD_was (by decide) h), fun h => h11 (getD_was (by decide) h), fun h => h12 (getD_was (by decide) h), fun h => h13 (getD_was (by decide) h), fun h => h14 (getD_was (by decide) h), fun h => h15 (getD_was (by decide) h)⟩
        · refine wpOp_step rfl (fun K hK => ?_)
          go_simp
          exact hK _ _ ⟨_, _, _, _, _, _, _, _, _, _, _, _, _, _, _, _, rfl, hB, fun h => h0 (getD_was (by decide) h), fun h => h1 (getD_was (by decide) h), fun h => h2 (getD_was (by decide) h), fun h => h3 (getD_was (by decide) h), fun h => h4 (getD_was (by decide) h), fun h => h5 (getD_was (by decide) h), fun _ => rfl, fun h => h7 (getD_was (by decide) h), fun h => h8 (getD_was (by decide) h), fun h => h9 (getD_was (by decide) h), fun h => h10 (getD_was (by decide) h), fun h => h11 (getD_was (by decide) h), fun h => h12 (getD_was (by decide) h), fun h => h13 (getD_was (by decide) h), fun h => h14 (getD_was (by decide) h), fun h => h15 (getD_was (by decide) h)⟩
        · have q5 := h5 (ready_dep hr (by kernel_rfl))
          have q6 := h6 (ready_dep hr (by kernel_rfl))
          subst q5
          subst q6
          refine wpOp_step rfl (fun K hK => ?_)
          go_simp
          exact hK _ _ ⟨_, _, _, _, _, _, _, _, _, _, _, _, _, _, _, _, rfl, hB, fun h => h0 (getD_was (by decide) h), fun h => h1 (getD_was (by decide) h), fun h => h2 (getD_was (by decide) h), fun h => h3 (getD_was (by decide) h), fun h => h4 (getD_was (by decide) h), fun _ => rfl, fun _ => rfl, fun _ => rfl, fun h => h8 (getD_was (by decide) h), fun h => h9 (getD_was (by decide) h), fun h => h10 (getD_was (by decide) h), fun h => h11 (getD_was (by decide) h), fun h => h12 (getD_was (by decide) h), fun h => h13 (getD_was (by decide) h), fun h => h14 (getD_was (by decide) h), fun h => h15 (getD_was (by decide) h)⟩
        · have q7 := h7 (ready_dep hr (by kernel_rfl))
          subst q7
          have z := Keeps.of_below hB _ _ HS3.out
          refine wpOp_step rfl (fun K hK => ?_)
          go_simp
          exact hK _ _ ⟨_, _, _, _, _, _, _, _, _, _, _, _, _, _, _, _, rfl, hB, fun h => h0 (getD_was (by decide) h), fun h => h1 (getD_was (by decide) h), fun h => h2 (getD_was (by decide) h), fun h => h3 (getD_was (by decide) h), fun h => h4 (getD_was (by decide) h), fun h => h5 (getD_was (by decide) h), fun h => h6 (getD_was (by decide) h), fun _ => rfl, fun _ => rfl, fun h => h9 (getD_was (by decide) h), fun h => h10 (getD_was (by decide) h), fun h => h11 (getD_was (by decide) h), fun h => h12 (getD_was (by decide) h), fun h => h13 (getD_was (by decide) h), fun h => h14 (getD_was (by decide) h), fun h => h15 (getD_was (by decide) h)⟩
        · have q8 := h8 (ready_dep hr (by kernel_rfl))
          subst q8
          refine wpOp_step rfl (fun K hK => ?_)
          go_simp
          refine (itoa_any n _ HI.out (HTab3.out.keep hB)).mono ?_
          rintro e w'' ⟨rfl, hb⟩
          exact hK _ _ ⟨_, _, _, _, _, _, _, _, _, _, _, _, _, _, _, _, rfl, hB.trans (hb.mono hB.size), fun h => h0 (getD_was (by decide) h), fun h => h1 (getD_was (by decide) h), fun h => h2 (getD_was (by decide) h), fun h => h3 (getD_was (by decide) h), fun h => h4 (getD_was (by decide) h), fun h => h5 (getD_was (by decide) h), fun h => h6 (getD_was (by decide) h), fun h => h7 (getD_was (by decide) h), fun _ => rfl, fun _ => rfl, fun h => h10 (getD_was (by decide) h), fun h => h11 (getD_was (by decide) h), fun h => h12 (getD_was (by decide) h), fun h => h13 (getD_was (by decide) h), fun h => h14 (getD_was (by decide) h), fun h => h15 (getD_was (by decide) h)⟩
        · have q3 := h3 (ready_dep hr (by kernel_rfl))
          have q9 := h9 (ready_dep hr (by kernel_rfl))
          subst q3
          subst q9
          refine wpOp_step rfl (fun K hK => ?_)
          go_simp
          rw [if_neg (by first | omega | (simp only [ByteArray.size_append]; omega) | (simp; omega))]
          go_simp
          exact hK _ _ ⟨_, _, _, _, _, _, _, _, _, _, _, _, _, _, _, _, rfl, hB, fun h => h0 (getD_was (by decide) h), fun h => h1 (getD_was (by decide) h), fun h => h2 (getD_was (by decide) h), fun _ => rfl, fun h => h4 (getD_was (by decide) h), fun h => h5 (getD_was (by decide) h), fun h => h6 (getD_was (by decide) h), fun h => h7 (getD_was (by decide) h), fun h => h8 (getD_was (by decide) h), fun _ => rfl, fun _ => rfl, fun h => h11 (getD_was (by decide) h), fun h => h12 (getD_was (by decide) h), fun h => h13 (getD_was (by decide) h), fun h => h14 (getD_was (by decide) h), fun h => h15 (getD_was (by decide) h)⟩
        · have q10 := h10 (ready_dep hr (by kernel_rfl))
          subst q10
          refine wpOp_step rfl (fun K hK => ?_)
          go_simp
          rw [if_neg (by first | omega | (simp only [ByteArray.size_append]; omega) | (simp; omega))]
          go_simp
          exact hK _ _ ⟨_, _, _, _, _, _, _, _, _, _, _, _, _, _, _, _, rfl, hB, fun h => h0 (getD_was (by decide) h), fun h => h1 (getD_was (by decide) h), fun h => h2 (getD_was (by decide) h), fun h => h3 (getD_was (by decide) h), fun h => h4 (getD_was (by decide) h), fun h => h5 (getD_was (by decide) h), fun h => h6 (getD_was (by decide) h), fun h => h7 (getD_was (by decide) h), fun h => h8 (getD_was (by decide) h), fun h => h9 (getD_was (by decide) h), fun _ => rfl, fun _ => rfl, fun h => h12 (getD_was (by decide) h), fun h => h13 (getD_was (by decide) h), fun h => h14 (getD_was (by decide) h), fun h => h15 (getD_was (by decide) h)⟩
        · refine wpOp_step rfl (fun K hK => ?_)
          go_simp
          exact hK _ _ ⟨_, _, _, _, _, _, _, _, _, _, _, _, _, _, _, _, rfl, hB, fun h => h0 (getD_was (by decide) h), fun h => h1 (getD_was (by decide) h), fun h => h2 (getD_was (by decide) h), fun h => h3 (getD_was (by decide) h), fun h => h4 (getD_was (by decide) h), fun h => h5 (getD_was (by decide) h), fun h => h6 (getD_was (by decide) h), fun h => h7 (getD_was (by decide) h), fun h => h8 (getD_was (by decide) h), fun h => h9 (getD_was (by decide) h), fun h => h10 (getD_was (by decide) h), fun h => h11 (getD_was (by decide) h), fun _ => rfl, fun h => h13 (getD_was (by decide) h), fun h => h14 (getD_was (by decide) h), fun h => h15 (getD_was (by decide) h)⟩
        · have q12 := h12 (ready_dep hr (by kernel_rfl))
          subst q12
          have z := (HD3.out.below hB).c 1
          simp only [List.getElem?_toArray, List.getElem?_cons_zero, List.getElem?_cons_succ] at z
          refine wpOp_step rfl (fun K hK => ?_)
          go_simp
          exact hK _ _ ⟨_, _, _, _, _, _, _, _, _, _, _, _, _, _, _, _, rfl, hB, fun h => h0 (getD_was (by decide) h), fun h => h1 (getD_was (by decide) h), fun h => h2 (getD_was (by decide) h), fun h => h3 (getD_was (by decide) h), fun h => h4 (getD_was (by decide) h), fun h => h5 (getD_was (by decide) h), fun h => h6 (getD_was (by decide) h), fun h => h7 (getD_was (by decide) h), fun h => h8 (getD_was (by decide) h), fun h => h9 (getD_was (by decide) h), fun h => h10 (getD_was (by decide) h), fun h => h11 (getD_was (by decide) h), fun _ => rfl, fun _ => rfl, fun h => h14 (getD_was (by decide) h), fun h => h15 (getD_was (by decide) h)⟩
        · have q11 := h11 (ready_dep hr (by kernel_rfl))
          have q13 := h13 (ready_dep hr (by kernel_rfl))
          subst q11
          subst q13
          refine wpOp_step rfl (fun K hK => ?_)
          go_simp
          rw [if_neg (by first | omega | (simp only [ByteArray.size_append]; omega) | (simp; omega))]
          go_simp
          exact hK _ _ ⟨_, _, _, _, _, _, _, _, _, _, _, _, _, _, _, _, rfl, hB, fun h => h0 (getD_was (by decide) h), fun h => h1 (getD_was (by decide) h), fun h => h2 (getD_was (by decide) h), fun h => h3 (getD_was (by decide) h), fun h => h4 (getD_was (by decide) h), fun h => h5 (getD_was (by decide) h), fun h => h6 (getD_was (by decide) h), fun h => h7 (getD_was (by decide) h), fun h => h8 (getD_was (by decide) h), fun h => h9 (getD_was (by decide) h), fun h => h10 (getD_was (by decide) h), fun _ => rfl, fun h => h12 (getD_was (by decide) h), fun _ => rfl, fun _ => rfl, fun h => h15 (getD_was (by decide) h)⟩
        · have q14 := h14 (ready_dep hr (by kernel_rfl))
          subst q14
          refine wpOp_step rfl (fun K hK => ?_)
          go_simp
          rw [if_neg (by first | omega | (simp only [ByteArray.size_append]; omega) | (simp; omega))]
          go_simp
          exact hK _ _ ⟨_, _, _, _, _, _, _, _, _, _, _, _, _, _, _, _, rfl, hB, fun h => h0 (getD_was (by decide) h), fun h => h1 (getD_was (by decide) h), fun h => h2 (getD_was (by decide) h), fun h => h3 (getD_was (by decide) h), fun h => h4 (getD_was (by decide) h), fun h => h5 (getD_was (by decide) h), fun h => h6 (getD_was (by decide) h), fun h => h7 (getD_was (by decide) h), fun h => h8 (getD_was (by decide) h), fun h => h9 (getD_was (by decide) h), fun h => h10 (getD_was (by decide) h), fun h => h11 (getD_was (by decide) h), fun h => h12 (getD_was (by decide) h), fun h => h13 (getD_was (by decide) h), fun _ => rfl, fun _ => rfl⟩
      case last =>
        intro a' w' hI
        obtain ⟨x0, x1, x2, x3, x4, x5, x6, x7, x8, x9, x10, x11, x12, x13, x14, x15, rfl, hB, h0, h1, h2, h3, h4, h5, h6, h7, h8, h9, h10, h11, h12, h13, h14, h15⟩ := hI
        have q15 := h15 rfl
        clear h0 h1 h2 h3 h4 h5 h6 h7 h8 h9 h10 h11 h12 h13 h14 h15
        subst q15
        refine wpAny_of_seqA 1 16 rfl (by kernel_rfl) ?_
        simp only [List.drop_succ_cons, List.drop_zero]
        have HB4 := Lib.hid (HB3.out.trans (hB.mono HB3.out.size))
        have hsz := hB.size
        have HBl4 := Lib.hid (bld_below HBl3.out hB)
        have HX4 := Lib.hid (HX3.out.below hB)
        have hul : u.length + ((⟨#[100, 111, 99, 32]⟩ : ByteArray) ++ addr ++ (⟨#[32]⟩ : ByteArray) ++ (⟨(Lib.itoa n).toArray⟩ : ByteArray) ++ (⟨#[32]⟩ : ByteArray) ++ title ++ (⟨#[10]⟩ : ByteArray)).size ≤ 1073741824 := by
          have h1 := HLen.out
          rw [idxT, HU2.out, ← doc_bytes addr title text n] at h1
          simp only [List.length_append, size_toList] at h1
          omega
        go_wp2_with (go_at_call 33; go_must (refine (writeString_any (nb + 1) (nb + 1) u _ _ HBl4.out hul (by omega)).mono ?_); rintro e w5 ⟨rfl, hbl5, hb5⟩; have HBl5 := Lib.hid hbl5; have HB5 := Lib.hid hb5; clear hbl5 hb5)
        go_roundw
        case rel =>
          refine ⟨k + 1, _, by omega, by go_num, ?_, HBl5.out, HX4.out.belowB HB5.out (by omega), HB4.out.trans (HB5.out.mono (by have := HNb.out; omega))⟩
          show docsT D S = _
          rw [HU2.out, doc_bytes addr title text n, List.append_assoc]
        case measure => simp [intOf]; omega
    · have HU2 := Lib.hid (show docsT D S = u by rw [HU.out, show k = D.length by omega, docsT_end, List.append_nil])
      clear HU HA
      have bx2 := HX.out.c 2
      have bsh := HX.out.sh
      go_wp2_with fail
      go_loopw [39] (fun t wr => ∃ (k : Nat) (u : List UInt8), k ≤ T.length ∧ t = .int .i64 k ∧ Hid (idxT D S T = u ++ termsT (T.drop k)) ∧ Hid (Bld (nb + 1) (nb + 1) u wr) ∧ Hid (Below w.heap.size w wr) ∧ Hid (nb + 1 < wr.heap.size)) (fun t _ => T.length - (intOf t).toNat)
      case atStart => exact ⟨0, u, Nat.zero_le _, rfl, (show idxT D S T = _ by rw [idxT, HU2.out]; rfl), HBl.out, HB.out, (bld_lt HBl.out).1⟩
      case round =>
        clear HU2 HBl HB HX bx2 bsh hnr hk
        obtain ⟨i, u, hi, rfl, HU, HBl, HB, HSz⟩ := hrel
        by_cases hlt3 : i < T.length
        · have hA3' := HA3.out (by rintro rfl; simp at hlt3)
          subst hA3'
          clear HA3
          obtain ⟨⟨word, ds, ms⟩, hn⟩ : ∃ n, T[i]? = some n := ⟨_, List.getElem?_eq_getElem hlt3⟩
          have HU2 := Lib.hid (HU.out.trans (by rw [termsT_at hn]))
          obtain ⟨q0, q1, q2, _, _⟩ := (HCell3.out i _ hn).keep (Keeps.of_below HB.out)
          obtain ⟨_, _, _, qd, qm⟩ := HCell3.out i _ hn
          simp only at q0 q1 q2 qd qm
          have hdm := HT.out _ (List.mem_of_getElem? hn)
          simp only at hdm
          clear hn
          obtain ⟨Ad, cd, bd, od, hdv, hlcd, hcd, hAd, hcelld⟩ := qd
          obtain ⟨Am, cm, bm, om, hmv, hlcm, hcm, hAm, hcellm⟩ := qm
          rw [hdv] at q1
          rw [hmv] at q2
          clear hdv hmv
          unfold maxLen at hcd hcm
          have HCd := Lib.hid hcelld; clear hcelld
          have HCm := Lib.hid hcellm; clear hcellm
          have HAd := Lib.hid hAd; clear hAd
          have HAm := Lib.hid hAm; clear hAm
          have bb := World.block_lt_of_cell? _ _ q0
          simp only at bb
          have hwl : word.size ≤ 1073741824 := by
            have h1 := HLen.out
            rw [HU2.out] at h1
            simp only [termT, List.length_append, size_toList] at h1
            omega
          have hul : u.length + ((⟨#[116, 101, 114, 109, 32]⟩ : ByteArray) ++ word).size ≤ 1073741824 := by
            have h1 := HLen.out
            rw [HU2.out] at h1
            simp only [termT, List.length_append, size_toList, List.length_cons, List.length_nil] at h1
            simp only [ByteArray.size_append]
            have : (⟨#[116, 101, 114, 109, 32]⟩ : ByteArray).size = 5 := rfl
            omega
          obtain ⟨W4, hW4⟩ : ∃ W4, wr.alloc (.cells #[.string word, .slice Ad ds.length cd, .slice Am ms.length cm] 44) = W4 := ⟨_, rfl⟩
          obtain ⟨nt, hnt⟩ : ∃ nt, wr.heap.size = nt := ⟨_, rfl⟩
          have HBl4 := Lib.hid (show Bld (nb + 1) (nb + 1) u W4 by rw [← hW4]; exact bld_below HBl.out ((Below.refl _ _).alloc (Nat.le_refl _) _))
          have HB4 := Lib.hid (show Below w.heap.size w W4 by rw [← hW4]; exact HB.out.alloc HB.out.size _)
          have HX4 := Lib.hid (show CB W4 nt 44 #[.string word, .slice Ad ds.length cd, .slice Am ms.length cm] by rw [← hW4, ← hnt]; exact CB.new _ _ _)
          have hs4 : nb + 1 ≤ W4.heap.size := by have := HSz.out; rw [← hW4]; simp; omega
          have hntb : nb + 1 < nt := by have := HSz.out; omega
          have HW4 := Lib.hid hW4
          have HNt := Lib.hid hnt
          clear hW4 hnt HBl HB
          go_wp2_with (go_at_call 33; rw [HW4.out, HNt.out]; go_must (refine (writeString_k (nb + 1) (nb + 1) u _ _ HBl4.out hul hs4).mono ?_); rintro e w5 ⟨rfl, hbl5, hb5, hk5⟩; have HBl5 := Lib.hid hbl5; have HB5 := Lib.hid (HB4.out.trans (hb5.mono (by have := HNb.out; omega))); have HX5 := Lib.hid (hk5 nt _ _ HX4.out (by decide) (by omega)); have bx0 := HX5.out.c 0; have bx1 := HX5.out.c 1; have bx2 := HX5.out.c 2; have bsh := HX5.out.sh; clear hbl5 hb5 hk5)
          have hs5 := HX5.out.lt
          have HX5 := HX5
          clear q0 q1 q2 bb bx0 bx1 bx2 bsh HBl4 HB4 HX4 hs4 HW4
          go_loopw [50] (fun t wr => ∃ (j : Nat) (u2 : List UInt8), j ≤ ds.length ∧ t = .int .i64 j ∧ Hid (idxT D S T = u2 ++ (postsT (ds.drop j) (ms.drop j) ++ ([10] ++ termsT (T.drop (i + 1))))) ∧ Hid (Bld (nb + 1) (nb + 1) u2 wr) ∧ Hid (Below w.heap.size w wr) ∧ Hid (CB wr nt 44 #[.string word, .slice Ad ds.length cd, .slice Am ms.length cm])) (fun t _ => ds.length - (intOf t).toNat)
          case atStart => exact ⟨0, _, Nat.zero_le _, rfl, (show idxT D S T = _ by rw [HU2.out]; simp [termT]), HBl5.out, HB5.out, HX5.out⟩
          case round =>
            clear HBl5 HB5 HX5 hs5 HU2 hul HU
            obtain ⟨j, u2, hj2, rfl, HU, HBl, HB, HX⟩ := hrel
            by_cases hlt5 : j < ds.length
            · have hAd' := HAd.out (by rintro rfl; simp at hlt5)
              subst hAd'
              have hAm' := HAm.out (by rintro rfl; simp at hdm; rw [hdm] at hlt5; simp at hlt5)
              subst hAm'
              obtain ⟨x, hx⟩ : ∃ x, ds[j]? = some x := ⟨_, List.getElem?_eq_getElem hlt5⟩
              have hkm : j < ms.length := by omega
              obtain ⟨y, hy⟩ : ∃ y, ms[j]? = some y := ⟨_, List.getElem?_eq_getElem hkm⟩
              obtain ⟨p0, i0⟩ := HCd.out j _ hx
              obtain ⟨p1, i1⟩ := HCm.out j _ hy
              have p0 := Keeps.of_below HB.out _ _ p0
              have P1 := Lib.hid (Keeps.of_below HB.out _ _ p1)
              have I0 := Lib.hid i0
              have I1 := Lib.hid i1
              clear p1 i0 i1
              have HU2 := Lib.hid (HU.out.trans (by rw [postsT_at hx hy]))
              clear hx hy HU
              go_wp2_with fail
              refine wp_region_any (by kernel_rfl) ?_
              change wpAny _ _ _ _ _ _ _ wr.drew
              obtain ⟨W3, hW3⟩ : ∃ W3, wr.drew = W3 := ⟨_, rfl⟩
              have HX3 := Lib.hid (show CB W3 nt 44 _ by rw [← hW3]; exact HX.out.drew)
              have P3 := Lib.hid (show W3.cell? ⟨bm, om + j, none⟩ = some (.int .i64 y) by rw [← hW3]; exact P1.out)
              have HB3 := Lib.hid (show Below w.heap.size w W3 by rw [← hW3]; exact HB.out.drew)
              have HBl3 := Lib.hid (show Bld (nb + 1) (nb + 1) u2 W3 by rw [← hW3]; exact bld_below HBl.out (Below.refl _ _).drew)
              have HTab3 := Lib.hid (HTab.out.keep HB3.out)
              have hW3s : nb + 1 < W3.heap.size := (bld_lt HBl3.out).1
              have hIx : (Lib.itoa x).length ≤ 21 := itL_len I0.out
              have hIxz : (⟨(Lib.itoa x).toArray⟩ : ByteArray).size ≤ 21 := by rw [← size_toList]; exact hIx
              have hIy : (Lib.itoa y).length ≤ 21 := itL_len I1.out
              have hIyz : (⟨(Lib.itoa y).toArray⟩ : ByteArray).size ≤ 21 := by rw [← size_toList]; exact hIy
              rw [hW3]
              clear hW3 HX P1 HB HBl
              refine wpAny_inv [0, 1, 2, 3, 4, 5, 6, 7, 8, 9, 10] (InvP (fun v55 v56 v57 v58 v59 v60 v61 v62 v63 v64 v65 => ⟨#[.agg #[.slice A D.length c, .slice A2 S.length c2, .slice (some ⟨b3, o3, none⟩) T.length c3], .pointer (some ⟨nb, 0, none⟩), .string ⟨#[]⟩, .pointer (some ⟨nb + 1, 0, none⟩), u4, u5, undef, .pointer (some ⟨nt, 0, none⟩), .int .i64 ↑j, .int .i64 x, .pointer (some ⟨nb, 0, none⟩), .slice A D.length c, .int .i64 ↑D.length, .int .i64 ↑k, .bool false, u15, u16, u17, u18, u19, u20, u21, u22, u23, u24, u25, u26, u27, u28, u29, u30, u31, u32, u33, u34, u35, .pointer (some ⟨nb, 2, none⟩), .slice (some ⟨b3, o3, none⟩) T.length c3, .int .i64 ↑T.length, .int .i64 ↑i, .bool true, .pointer (some ⟨b3, o3 + i * 3, none⟩), .agg #[.string word, .slice (some ⟨bd, od, none⟩) ds.length cd, .slice (some ⟨bm, om, none⟩) ms.length cm], .pointer (some ⟨nt, 0, none⟩), .string word, .string ((⟨#[116, 101, 114, 109, 32]⟩ : ByteArray) ++ word), .tuple #[.int .i64 (5 + ↑word.size), .nilIface], .pointer (some ⟨nt, 1, none⟩), .slice (some ⟨bd, od, none⟩) ds.length cd, .int .i64 ↑ds.length, .int .i64 ↑j, .bool true, .int .i64 ↑j, .pointer (some ⟨bd, od + j, none⟩), .int .i64 x, v55, v56, v57, v58, v59, v60, v61, v62, v63, v64, v65, u66, u67, u68, u69, undef], []⟩) nt bm om ms.length cm j x y W3) #[true, true, true, true, true, true, true, true, true, true, true, false] (g := 1) (by kernel_rfl) (by kernel_rfl) (by kernel_rfl) (InvP.start u55 u56 u57 u58 u59 u60 u61 u62 u63 u64 u65 rfl) ?step ?last
              case step =>
                intro i hi L a' w' hs hr hI
                obtain ⟨x0, x1, x2, x3, x4, x5, x6, x7, x8, x9, x10, rfl, hB, h0, h1, h2, h3, h4, h5, h6, h7, h8, h9, h10⟩ := hI
                simp only [List.mem_cons, List.not_mem_nil, or_false] at hi
                rcases hi with rfl | rfl | rfl | rfl | rfl | rfl | rfl | rfl | rfl | rfl | rfl
                · refine wpOp_step rfl (fun K hK => ?_)
                  go_simp
                  exact hK _ _ ⟨_, _, _, _, _, _, _, _, _, _, _, rfl, hB, fun _ => rfl, fun h => h1 (getD_was (by decide) h), fun h => h2 (getD_was (by decide) h), fun h => h3 (getD_was (by decide) h), fun h => h4 (getD_was (by decide) h), fun h => h5 (getD_was (by decide) h), fun h => h6 (getD_was (by decide) h), fun h => h7 (getD_was (by decide) h), fun h => h8 (getD_was (by decide) h), fun h => h9 (getD_was (by decide) h), fun h => h10 (getD_was (by decide) h)⟩
                · have q0 := h0 (ready_dep hr (by kernel_rfl))
                  subst q0
                  refine wpOp_step rfl (fun K hK => ?_)
                  go_simp
                  refine (itoa_any x _ I0.out (HTab3.out.keep hB)).mono ?_
                  rintro e w'' ⟨rfl, hb⟩
                  exact hK _ _ ⟨_, _, _, _, _, _, _, _, _, _, _, rfl, hB.trans (hb.mono hB.size), fun _ => rfl, fun _ => rfl, fun h => h2 (getD_was (by decide) h), fun h => h3 (getD_was (by decide) h), fun h => h4 (getD_was (by decide) h), fun h => h5 (getD_was (by decide) h), fun h => h6 (getD_was (by decide) h), fun h => h7 (getD_was (by decide) h), fun h => h8 (getD_was (by decide) h), fun h => h9 (getD_was (by decide) h), fun h => h10 (getD_was (by decide) h)⟩
                · have q1 := h1 (ready_dep hr (by kernel_rfl))
                  subst q1
                  refine wpOp_step rfl (fun K hK => ?_)
                  go_simp
                  rw [if_neg (by first | omega | (simp only [ByteArray.size_append]; omega) | (simp; omega))]
                  go_simp
                  exact hK _ _ ⟨_, _, _, _, _, _, _, _, _, _, _, rfl, hB, fun h => h0 (getD_was (by decide) h), fun _ => rfl, fun _ => rfl, fun h => h3 (getD_was (by decide) h), fun h => h4 (getD_was (by decide) h), fun h => h5 (getD_was (by decide) h), fun h => h6 (getD_was (by decide) h), fun h => h7 (getD_was (by decide) h), fun h => h8 (getD_was (by decide) h), fun h => h9 (getD_was (by decide) h), fun h => h10 (getD_was (by decide) h)⟩
                · have q2 := h2 (ready_dep hr (by kernel_rfl))
                  subst q2
                  refine wpOp_step rfl (fun K hK => ?_)
                  go_simp
                  rw [if_neg (by first | omega | (simp only [ByteArray.size_append]; omega) | (simp; omega))]
                  go_simp
                  exact hK _ _ ⟨_, _, _, _, _, _, _, _, _, _, _, rfl, hB, fun h => h0 (getD_was (by decide) h), fun h => h1 (getD_was (by decide) h), fun _ => rfl, fun _ => rfl, fun h => h4 (getD_was (by decide) h), fun h => h5 (getD_was (by decide) h), fun h => h6 (getD_was (by decide) h), fun h => h7 (getD_was (by decide) h), fun h => h8 (getD_was (by decide) h), fun h => h9 (getD_was (by decide) h), fun h => h10 (getD_was (by decide) h)⟩
                · refine wpOp_step rfl (fun K hK => ?_)
                  go_simp
                  exact hK _ _ ⟨_, _, _, _, _, _, _, _, _, _, _, rfl, hB, fun h => h0 (getD_was (by decide) h), fun h => h1 (getD_was (by decide) h), fun h => h2 (getD_was (by decide) h), fun h => h3 (getD_was (by decide) h), fun _ => rfl, fun h => h5 (getD_was (by decide) h), fun h => h6 (getD_was (by decide) h), fun h => h7 (getD_was (by decide) h), fun h => h8 (getD_was (by decide) h), fun h => h9 (getD_was (by decide) h), fun h => h10 (getD_was (by decide) h)⟩
                · have q4 := h4 (ready_dep hr (by kernel_rfl))
                  subst q4
                  have z := (HX3.out.below hB).c 2
                  simp only [List.getElem?_toArray, List.getElem?_cons_zero, List.getElem?_cons_succ] at z
                  refine wpOp_step rfl (fun K hK => ?_)
                  go_simp
                  exact hK _ _ ⟨_, _, _, _, _, _, _, _, _, _, _, rfl, hB, fun h => h0 (getD_was (by decide) h), fun h => h1 (getD_was (by decide) h), fun h => h2 (getD_was (by decide) h), fun h => h3 (getD_was (by decide) h), fun _ => rfl, fun _ => rfl, fun h => h6 (getD_was (by decide) h), fun h => h7 (getD_was (by decide) h), fun h => h8 (getD_was (by decide) h), fun h => h9 (getD_was (by decide) h), fun h => h10 (getD_was (by decide) h)⟩
                · refine wpOp_step rfl (fun K hK => ?_)
                  go_simp
                  exact hK _ _ ⟨_, _, _, _, _, _, _, _, _, _, _, rfl, hB, fun h => h0 (getD_was (by decide) h), fun h => h1 (getD_was (by decide) h), fun h => h2 (getD_was (by decide) h), fun h => h3 (getD_was (by decide) h), fun h => h4 (getD_was (by decide) h), fun h => h5 (getD_was (by decide) h), fun _ => rfl, fun h => h7 (getD_was (by decide) h), fun h => h8 (getD_was (by decide) h), fun h => h9 (getD_was (by decide) h), fun h => h10 (getD_was (by decide) h)⟩
                · have q5 := h5 (ready_dep hr (by kernel_rfl))
                  have q6 := h6 (ready_dep hr (by kernel_rfl))
                  subst q5
                  subst q6
                  refine wpOp_step rfl (fun K hK => ?_)
                  go_simp
                  exact hK _ _ ⟨_, _, _, _, _, _, _, _, _, _, _, rfl, hB, fun h => h0 (getD_was (by decide) h), fun h => h1 (getD_was (by decide) h), fun h => h2 (getD_was (by decide) h), fun h => h3 (getD_was (by decide) h), fun h => h4 (getD_was (by decide) h), fun _ => rfl, fun _ => rfl, fun _ => rfl, fun h => h8 (getD_was (by decide) h), fun h => h9 (getD_was (by decide) h), fun h => h10 (getD_was (by decide) h)⟩
                · have q7 := h7 (ready_dep hr (by kernel_rfl))
                  subst q7
                  have z := Keeps.of_below hB _ _ P3.out
                  refine wpOp_step rfl (fun K hK => ?_)
                  go_simp
                  exact hK _ _ ⟨_, _, _, _, _, _, _, _, _, _, _, rfl, hB, fun h => h0 (getD_was (by decide) h), fun h => h1 (getD_was (by decide) h), fun h => h2 (getD_was (by decide) h), fun h => h3 (getD_was (by decide) h), fun h => h4 (getD_was (by decide) h), fun h => h5 (getD_was (by decide) h), fun h => h6 (getD_was (by decide) h), fun _ => rfl, fun _ => rfl, fun h => h9 (getD_was (by decide) h), fun h => h10 (getD_was (by decide) h)⟩
                · have q8 := h8 (ready_dep hr (by kernel_rfl))
                  subst q8
                  refine wpOp_step rfl (fun K hK => ?_)
                  go_simp
                  refine (itoa_any y _ I1.out (HTab3.out.keep hB)).mono ?_
                  rintro e w'' ⟨rfl, hb⟩
                  exact hK _ _ ⟨_, _, _, _, _, _, _, _, _, _, _, rfl, hB.trans (hb.mono hB.size), fun h => h0 (getD_was (by decide) h), fun h => h1 (getD_was (by decide) h), fun h => h2 (getD_was (by decide) h), fun h => h3 (getD_was (by decide) h), fun h => h4 (getD_was (by decide) h), fun h => h5 (getD_was (by decide) h), fun h => h6 (getD_was (by decide) h), fun h => h7 (getD_was (by decide) h), fun _ => rfl, fun _ => rfl, fun h => h10 (getD_was (by decide) h)⟩
                · have q3 := h3 (ready_dep hr (by kernel_rfl))
                  have q9 := h9 (ready_dep hr (by kernel_rfl))
                  subst q3
                  subst q9
                  refine wpOp_step rfl (fun K hK => ?_)
                  go_simp
                  rw [if_neg (by first | omega | (simp only [ByteArray.size_append]; omega) | (simp; omega))]
                  go_simp
                  exact hK _ _ ⟨_, _, _, _, _, _, _, _, _, _, _, rfl, hB, fun h => h0 (getD_was (by decide) h), fun h => h1 (getD_was (by decide) h), fun h => h2 (getD_was (by decide) h), fun _ => rfl, fun h => h4 (getD_was (by decide) h), fun h => h5 (getD_was (by decide) h), fun h => h6 (getD_was (by decide) h), fun h => h7 (getD_was (by decide) h), fun h => h8 (getD_was (by decide) h), fun _ => rfl, fun _ => rfl⟩
              case last =>
                intro a' w' hI
                obtain ⟨x0, x1, x2, x3, x4, x5, x6, x7, x8, x9, x10, rfl, hB, h0, h1, h2, h3, h4, h5, h6, h7, h8, h9, h10⟩ := hI
                have q10 := h10 rfl
                clear h0 h1 h2 h3 h4 h5 h6 h7 h8 h9 h10
                subst q10
                refine wpAny_of_seqA 1 11 rfl (by kernel_rfl) ?_
                simp only [List.drop_succ_cons, List.drop_zero]
                have HB4 := Lib.hid (HB3.out.trans (hB.mono HB3.out.size))
                have hsz := hB.size
                have HBl4 := Lib.hid (bld_below HBl3.out hB)
                have HX4 := Lib.hid (HX3.out.below hB)
                have hul : u2.length + ((⟨#[32]⟩ : ByteArray) ++ (⟨(Lib.itoa x).toArray⟩ : ByteArray) ++ (⟨#[58]⟩ : ByteArray) ++ (⟨(Lib.itoa y).toArray⟩ : ByteArray)).size ≤ 1073741824 := by
                  have h1 := HLen.out
                  rw [HU2.out, ← post_bytes x y] at h1
                  simp only [List.length_append, size_toList] at h1
                  omega
                go_wp2_with (go_at_call 33; go_must (refine (writeString_k (nb + 1) (nb + 1) u2 _ _ HBl4.out hul (by omega)).mono ?_); rintro e w5 ⟨rfl, hbl5, hb5, hk5⟩; have HBl5 := Lib.hid hbl5; have HB5 := Lib.hid (HB4.out.trans (hb5.mono (by have := HNb.out; omega))); have HX5 := Lib.hid (hk5 nt _ _ HX4.out (by decide) (by omega)); clear hbl5 hb5 hk5)
                go_roundw
                case rel =>
                  refine ⟨j + 1, _, by omega, by go_num, ?_, HBl5.out, HB5.out, HX5.out⟩
                  show idxT D S T = _
                  rw [HU2.out, post_bytes x y]
                  simp only [List.append_assoc]
                case measure => simp [intOf]; omega
            · have HU2 := Lib.hid (show idxT D S T = u2 ++ ([10] ++ termsT (T.drop (i + 1))) by rw [HU.out, show j = ds.length by omega, postsT_end, List.nil_append])
              clear HU
              have hul : u2.length + (⟨#[10]⟩ : ByteArray).size ≤ 1073741824 := by
                have h1 := HLen.out
                rw [HU2.out] at h1
                simp only [List.length_append, List.length_cons, List.length_nil] at h1
                have : (⟨#[10]⟩ : ByteArray).size = 1 := rfl
                omega
              have hsl := (bld_lt HBl.out).1
              go_wp2_with (go_at_call 33; go_must (refine (writeString_k (nb + 1) (nb + 1) u2 _ _ HBl.out hul (by omega)).mono ?_); rintro e w5 ⟨rfl, hbl5, hb5, hk5⟩; have HBl5 := Lib.hid hbl5; have HB5 := Lib.hid (HB.out.trans (hb5.mono (by have := HNb.out; omega))); clear hbl5 hb5 hk5)
              go_roundw
              case rel =>
                refine ⟨i + 1, _, by omega, by go_num, ?_, HBl5.out, HB5.out, (bld_lt HBl5.out).1⟩
                show idxT D S T = _
                rw [HU2.out, List.append_assoc]
              case measure => simp [intOf]; omega
        · have HU2 := Lib.hid (show idxT D S T = u by rw [HU.out, show i = T.length by omega, termsT_end, List.append_nil])
          have HS3 := Lib.hid (show nb + 1 ≤ wr.heap.size from Nat.le_of_lt HSz.out)
          clear HU HA3
          go_wp2_with (go_at_call 35; go_must (refine (Tryz.Builder_String_any (nb + 1) (nb + 1) _ _ HBl.out HS3.out).mono ?_); rintro e w5 ⟨rfl, hb5⟩; have HB5 := Lib.hid (HB.out.trans (hb5.mono (by have := HNb.out; omega))); clear hb5)
          go_ret
          exact ⟨by rw [HU2.out]; rfl, HB5.out⟩

end Go.Proofs.YtmcelgokchhpfaaGreatDoor
