/-
  (*strings.Replacer).build at the eight strings of mark.Escape.
-/
import Derived.Test.YtelelpjhepcmbaaGreatEscInv
import Derived.Deep.WholeRow
namespace Go.Proofs.YtelelpjhepcmbaaGreat
open Go.RowKit Go.Deep

/-- what mark.Escape hands to NewReplacer -/
def oldNew : List ByteArray := [⟨#[38]⟩, ⟨#[38, 97, 109, 112, 59]⟩, ⟨#[60]⟩, ⟨#[38, 108, 116, 59]⟩, ⟨#[62]⟩, ⟨#[38, 103, 116, 59]⟩, ⟨#[34]⟩, ⟨#[38, 113, 117, 111, 116, 59]⟩]
theorem zeroE : Tryz.zeroCells100 = (List.replicate 257 (Value.slice none 0 0)).toArray := by kernel_rfl
theorem size_repl : (Tryz.prog.info? 100).map (·.size) = some 257 := by kernel_rfl
theorem RepM.start (w : World) (A : Option Addr) (ct : Nat) : RepM (w.alloc (.cells (Tryz.zeroCells100.toList.set 256 (.slice A 0 ct)).toArray 100)) w.heap.size 0 A ct (Tryz.zeroCells100.toList.set 256 (.slice A 0 ct)).toArray := by
  obtain ⟨n, hn⟩ : ∃ n, 257 = n := ⟨_, rfl⟩
  have hz : Tryz.zeroCells100.toList = List.replicate n (Value.slice none 0 0) := by rw [zeroE, hn]
  rw [hz]
  refine ⟨CB.new _ _ _, by simp; omega, by rw [List.getElem?_toArray, List.getElem?_set_self (by simp; omega)], fun c _ => ?_, fun c l hc => by simp at hc⟩
  have hlt : c.toNat < 256 := c.toNat_lt
  rw [List.getElem?_toArray, List.getElem?_set_ne (by omega), List.getElem?_replicate, if_pos (by omega)]
theorem bytes_below (w : World) (e : TypeId) (s : ByteArray) : Below w.heap.size w (Lib.bytesWorld w e s) := by
  refine ⟨?_, ?_, ?_, ?_, fun k hk => Lib.bytesWorld_at_old w e s k hk⟩
  · unfold Lib.bytesWorld World.freeze; split <;> rfl
  · unfold Lib.bytesWorld World.freeze; split <;> rfl
  · unfold Lib.bytesWorld World.freeze; split <;> rfl
  · rw [Lib.bytesWorld_size]; omega
theorem bytes_blk (w : World) (s : ByteArray) (l : List UInt8) (h : s.data.toList = l) : BytesBlk (Lib.bytesWorld w 5 s) w.heap.size l := by
  refine ⟨_, _, Lib.bytesWorld_at_new w _ s, fun j x hx => ?_⟩
  subst h
  have hj := (List.getElem?_eq_some_iff.1 hx).1
  rw [Lib.bytesCells, Array.getElem?_append_left (by simpa using hj), Array.getElem?_map]
  rw [Array.getElem?_toList] at hx
  rw [hx]; rfl
theorem own_setB {w : World} {B n b o : Nat} {v x : Value} {xs : List Value} {cs : Array Value} (h : w.ownsRow B 9 1 v n xs) (hc : CB w b 100 cs) : (w.setCell ⟨b, o, none⟩ x).ownsRow B 9 1 v n xs := by
  refine h.kept (grown_setB w b o x) ?_
  by_cases hx : v.ownBlock = some b
  · exfalso
    rcases h.2 with ⟨rfl, rfl⟩ | ⟨g2, cap, cur, rfl, hB, hgg, _⟩
    · simp [Value.ownBlock] at hx
    · have e2 : g2 = b := by simpa [Value.ownBlock] using hx
      subst e2
      have h7 : w.heap[g2]? = some (.cells cs 100 (0, 0)) := hc
      rw [hgg] at h7
      simp at h7
  · exact Or.inr hx
theorem own_belowB {w w' : World} {B n : Nat} {v : Value} {xs : List Value} (h : w.ownsRow B 9 1 v n xs) (hb : Below w.heap.size w w') : w'.ownsRow B 9 1 v n xs :=
  h.kept (row := none) ⟨hb.os, hb.tape, hb.output, hb.size, fun k hk _ => hb.block k hk⟩ (by cases hv : v.ownBlock <;> simp)
theorem one_strB2 (s : ByteArray) : ∀ u ∈ [Value.string s], u.oneCell' = true := by intro u hu; simp at hu; subst hu; rfl
def BuildPost (w : World) (e : Ending) (w' : World) : Prop := ∃ bb : Nat, e = .returned (.iface 101 (.pointer (some ⟨bb, 0, none⟩))) ∧ w.heap.size ≤ bb ∧ ReplAt w' bb ∧ Below w.heap.size w w'

theorem info_strE : (Tryz.prog.info? 9).map (fun i => (i.zero, i.size, i.bytes)) = some (some (.string ⟨#[]⟩), 1, 16) := by kernel_rfl

set_option maxRecDepth 100000 in
set_option maxHeartbeats 2000000 in
theorem build_q (br g cap : Nat) (w : World) (h : w.cell? ⟨br, 4, none⟩ = some (.slice (some ⟨g, 0, none⟩) 8 cap)) (hc : ∀ (j : Nat) (x : ByteArray), oldNew[j]? = some x → w.cell? ⟨g, j, none⟩ = some (.string x)) :
    Calls Tryz.prog 52 #[.pointer (some ⟨br, 0, none⟩)] w (BuildPost w) := by
  have HC := Lib.hid hc
  have c0 := hc 0 _ rfl
  have c1 := hc 1 _ rfl
  have c2 := hc 2 _ rfl
  have c3 := hc 3 _ rfl
  have c4 := hc 4 _ rfl
  have c5 := hc 5 _ rfl
  have c6 := hc 6 _ rfl
  have c7 := hc 7 _ rfl
  clear hc
  go_enter Tryz.func52, Tryz.ntmps52
  go_wp2_with fail
  go_loopw [4, 5] (fun t4 t5 wr => ∃ k : Nat, k ≤ 4 ∧ t5 = .int .i64 ((2 * k : Nat) : Int) ∧ t4 = .bool (decide (k = 0)) ∧ EqW wr w) (fun _ t _ => 8 - (intOf t).toNat)
  case atStart => exact ⟨0, Nat.zero_le _, rfl, rfl, EqW.refl _⟩
  case round =>
    obtain ⟨k, hk, rfl, rfl, hww⟩ := hrel
    unfold EqW at hww
    subst hww
    have hkk : k = 0 ∨ k = 1 ∨ k = 2 ∨ k = 3 ∨ k = 4 := by omega
    rcases hkk with rfl | rfl | rfl | rfl | rfl
    · go_wp2_with fail
      go_roundw
      case rel => exact ⟨1, by omega, by go_num, rfl, EqW.refl _⟩
      case measure => simp [intOf]
    · go_wp2_with fail
      go_roundw
      case rel => exact ⟨2, by omega, by go_num, rfl, EqW.refl _⟩
      case measure => simp [intOf]
    · go_wp2_with fail
      go_roundw
      case rel => exact ⟨3, by omega, by go_num, rfl, EqW.refl _⟩
      case measure => simp [intOf]
    · go_wp2_with fail
      go_roundw
      case rel => exact ⟨4, by omega, by go_num, rfl, EqW.refl _⟩
      case measure => simp [intOf]
    · obtain ⟨i0, hi, hz0, hz1, hz2⟩ := info_parts info_strE
      have HB0 := Lib.hid (Below.refl wr.heap.size wr)
      go_wp2_with (refine wpList_make_own _ rfl (.const (.int .i64 0)) (.tmp 93) 64 rfl wr.heap.size 9 i0 (.string ⟨#[]⟩) 1 Tryz.underlying64 hi hz0 hz1 .i64 .i64 4 4 rfl rfl rfl (by rw [hz2]; omega) (by unfold maxLen; omega) (Nat.le_refl _) ?_; intro w2 own2 hg2; have hst := run_storeCells_new (P := Tryz.prog) w2 100 Tryz.zeroCells100 (Tryz.zeroCells100.toList.set 256 (.slice (some ⟨wr.heap.size, 0, none⟩) 0 4)).toArray (by rw [zeroE]; exact size_repl) (by rw [zeroE]; rfl) (by rw [zeroE]; kernel_rfl); have HO2 := Lib.hid own2; have HG2 := Lib.hid hg2; clear own2 hg2)
      obtain ⟨bb, hbb⟩ : ∃ bb, w2.heap.size = bb := ⟨_, rfl⟩
      obtain ⟨w3, hw3⟩ : ∃ w3, w2.alloc (.cells (Tryz.zeroCells100.toList.set 256 (.slice (some ⟨wr.heap.size, 0, none⟩) 0 4)).toArray 100) = w3 := ⟨_, rfl⟩
      have HR3 := Lib.hid (show RepM w3 bb 0 (some ⟨wr.heap.size, 0, none⟩) 4 _ by rw [← hw3, ← hbb]; exact RepM.start _ _ _)
      have HO3 := Lib.hid (show w3.ownsRow wr.heap.size 9 1 (.slice (some ⟨wr.heap.size, 0, none⟩) 0 4) 0 (trS 0) by rw [← hw3]; exact HO2.out.alloc _)
      have HB2 := Lib.hid (HB0.out.grown HG2.out (Nat.le_refl _) (fun k hk => by cases hk))
      have HB3 := Lib.hid (show Below wr.heap.size wr w3 by rw [← hw3]; exact HB2.out.alloc HB2.out.size _)
      have hbw : wr.heap.size ≤ bb := by rw [← hbb]; exact HB2.out.size
      rw [hw3, hbb]
      clear hw3 hbb HO2 HG2 hst HB2 HB0
      obtain ⟨v0, rfl⟩ : ∃ v0 : World, v0 = wr := ⟨_, rfl⟩
      go_loopw [12] (fun t wr => ∃ (m : Nat) (A : Option Addr) (ct : Nat) (cs : Array Value), m ≤ 4 ∧ t = .int .i64 (6 - 2 * (m : Int)) ∧ Hid (RepM wr bb m A ct cs) ∧ Hid (wr.ownsRow v0.heap.size 9 1 (.slice A m ct) m (trS m)) ∧ Hid (Below v0.heap.size v0 wr)) (fun t _ => (intOf t + 2).toNat)
      case atStart => exact ⟨0, _, _, _, Nat.zero_le _, rfl, HR3.out, HO3.out, HB3.out⟩
      case round =>
        clear HR3 HO3 HB3
        obtain ⟨m, A, ct, cs, hm, rfl, HR, HO, HB⟩ := hrel
        have hmm : m = 0 ∨ m = 1 ∨ m = 2 ∨ m = 3 ∨ m = 4 := by omega
        rcases hmm with rfl | rfl | rfl | rfl | rfl
        · have p0 := Keeps.of_below HB.out _ _ c6
          have p1 := Keeps.of_below HB.out _ _ c7
          have x0 : wr.cell? ⟨bb, 34, none⟩ = some (.slice none 0 0) := (HR.out.blk.c 34).trans (HR.out.no 34 (by decide))
          have x1 : wr.cell? ⟨bb, 256, none⟩ = some (.slice A 0 ct) := (HR.out.blk.c 256).trans HR.out.top
          have xsh := HR.out.blk.sh
          rw [HR.out.sz] at xsh
          have heq : ∀ W : World, Sem.run Tryz.prog (binOp BinOp.eql 56 (Value.slice none 0 0) (Value.slice none 0 0)) W = Result.ok (Value.bool true) W := fun _ => rfl
          have e0 : ∀ h : 0 < (⟨#[34]⟩ : ByteArray).size, ((⟨#[34]⟩ : ByteArray)[0]'h) = 34 := fun _ => rfl
          have e1 : ∀ h : 0 < (⟨#[34]⟩ : ByteArray).size, (((⟨#[34]⟩ : ByteArray)[0]'h).toNat : Int) = 34 := fun _ => rfl
          have HSz := Lib.hid HB.out.size
          have bb2 := HR.out.blk.lt
          have hco : ∀ W : World, (convert 56 9 (.slice (some ⟨W.heap.size, 0, none⟩) 1 1)).run Tryz.prog (W.alloc (.cells #[.int .u8 34] 5)) = .ok (.string ⟨#[34]⟩) (W.alloc (.cells #[.int .u8 34] 5)) := fun W => conv_one W 34
          go_wp2_with (at_builtin; have hh := (HO.out.alloc (.cells #[.int .u8 34] 5)).alloc (.cells #[.string ⟨#[34]⟩] 9); have k3 : v0.heap.size ≤ ((wr.alloc (.cells #[.int .u8 34] 5)).alloc (.cells #[.string ⟨#[34]⟩] 9)).heap.size := (by have := HSz.out; simp; omega); have k4 := cell_new (wr.alloc (.cells #[.int .u8 34] 5)) [.string ⟨#[34]⟩] 9 (wr.heap.size + 1) (by simp); go_must (refine wpList_push _ rfl (.tmp 119) (.tmp 123) 64 rfl v0.heap.size 9 (.string ⟨#[]⟩) 1 16 Tryz.underlying64 info_strE rfl (by omega) (.slice A 0 ct) 0 _ rfl hh [.string ⟨#[34]⟩] rfl (wr.heap.size + 1) rfl k4 (one_strB2 _) (by omega) (by unfold maxLen; omega) k3 ?_); intro g1 ct1 w5 own5 hg5 hgg5 hb5; have HR5 := Lib.hid ((HR.out.below (((Below.refl _ _).alloc (Nat.le_refl _) (.cells #[.int .u8 34] 5)).alloc (by simp) (.cells #[.string ⟨#[34]⟩] 9))).grown hh hg5); have HO5 := Lib.hid own5; have HB5 := Lib.hid (((HB.out.alloc HSz.out (.cells #[.int .u8 34] 5)).alloc (by have := HSz.out; simp; omega) (.cells #[.string ⟨#[34]⟩] 9)).trans hb5); clear hh k3 k4 own5 hg5 hgg5 hb5 x0 x1 xsh; have y1 : w5.cell? ⟨bb, 256, none⟩ = some (.slice A 0 ct) := (HR5.out.blk.c 256).trans HR5.out.top; have yf := HR5.out.blk.f 256; have ysh := HR5.out.blk.sh; rw [HR5.out.sz] at ysh; have HCS := Lib.hid ((HR5.out.blk.put 256 (.slice (some ⟨g1, 0, none⟩) 1 ct1)).below (bytes_below _ 5 ⟨#[38, 113, 117, 111, 116, 59]⟩)); have z0 := (HCS.out.c 34).trans ((Array.getElem?_setIfInBounds_ne (by decide)).trans (HR5.out.no 34 (by decide))); have zf := HCS.out.f 34; have zsh := HCS.out.sh; rw [Array.size_setIfInBounds, HR5.out.sz] at zsh; have hcv := fun W : World => Lib.run_convert_string_bytes (P := Tryz.prog) W 9 56 5 ⟨#[38, 113, 117, 111, 116, 59]⟩ Tryz.underlying9 Tryz.underlying56 Tryz.underlying5)
          go_roundw
          case rel =>
            obtain ⟨w6, hw6⟩ : ∃ w6, w5.setCell ⟨bb, 256, none⟩ (.slice (some ⟨g1, 0, none⟩) 1 ct1) = w6 := ⟨_, rfl⟩
            have hz6 : w6.heap.size = w5.heap.size := by rw [← hw6]; simp
            have hc6 : CB w6 bb 100 _ := hw6 ▸ HR5.out.blk.put 256 (.slice (some ⟨g1, 0, none⟩) 1 ct1)
            have ho6 : w6.ownsRow v0.heap.size 9 1 (.slice (some ⟨g1, 0, none⟩) 1 ct1) 1 (trS 1) := hw6 ▸ own_setB HO5.out HR5.out.blk
            have hb6 : Below v0.heap.size v0 w6 := hw6 ▸ HB5.out.setCell (p := ⟨bb, 256, none⟩) hbw _
            have hbb6 := bytes_below w6 5 ⟨#[38, 113, 117, 111, 116, 59]⟩
            have hbk := bytes_blk w6 ⟨#[38, 113, 117, 111, 116, 59]⟩ [38, 113, 117, 111, 116, 59] rfl
            rw [hz6] at hbk
            have hge := grownCap_ge w6 6 0 5
            have hlm := grownCap_le_maxLen w6 6 0 5 (by simp only [maxLen]; omega)
            obtain ⟨cs', HR6⟩ := HR5.out.step (c := 34) (l := [38, 113, 117, 111, 116, 59]) rfl rfl (A' := some ⟨g1, 0, none⟩) (ct' := ct1) (cap := grownCap w6 6 0 5) hge hlm hw6.symm hbb6 hbk rfl
            rw [hw6]
            exact ⟨1, _, _, cs', by omega, rfl, HR6, own_setB (own_belowB ho6 hbb6) (hc6.below hbb6), (hb6.trans (hbb6.mono hb6.size)).setCell (p := ⟨bb, 34, none⟩) hbw _⟩
          case measure => simp [intOf]
        · have p0 := Keeps.of_below HB.out _ _ c4
          have p1 := Keeps.of_below HB.out _ _ c5
          have x0 : wr.cell? ⟨bb, 62, none⟩ = some (.slice none 0 0) := (HR.out.blk.c 62).trans (HR.out.no 62 (by decide))
          have x1 : wr.cell? ⟨bb, 256, none⟩ = some (.slice A 1 ct) := (HR.out.blk.c 256).trans HR.out.top
          have xsh := HR.out.blk.sh
          rw [HR.out.sz] at xsh
          have heq : ∀ W : World, Sem.run Tryz.prog (binOp BinOp.eql 56 (Value.slice none 0 0) (Value.slice none 0 0)) W = Result.ok (Value.bool true) W := fun _ => rfl
          have e0 : ∀ h : 0 < (⟨#[62]⟩ : ByteArray).size, ((⟨#[62]⟩ : ByteArray)[0]'h) = 62 := fun _ => rfl
          have e1 : ∀ h : 0 < (⟨#[62]⟩ : ByteArray).size, (((⟨#[62]⟩ : ByteArray)[0]'h).toNat : Int) = 62 := fun _ => rfl
          have HSz := Lib.hid HB.out.size
          have bb2 := HR.out.blk.lt
          have hco : ∀ W : World, (convert 56 9 (.slice (some ⟨W.heap.size, 0, none⟩) 1 1)).run Tryz.prog (W.alloc (.cells #[.int .u8 62] 5)) = .ok (.string ⟨#[62]⟩) (W.alloc (.cells #[.int .u8 62] 5)) := fun W => conv_one W 62
          go_wp2_with (at_builtin; have hh := (HO.out.alloc (.cells #[.int .u8 62] 5)).alloc (.cells #[.string ⟨#[62]⟩] 9); have k3 : v0.heap.size ≤ ((wr.alloc (.cells #[.int .u8 62] 5)).alloc (.cells #[.string ⟨#[62]⟩] 9)).heap.size := (by have := HSz.out; simp; omega); have k4 := cell_new (wr.alloc (.cells #[.int .u8 62] 5)) [.string ⟨#[62]⟩] 9 (wr.heap.size + 1) (by simp); go_must (refine wpList_push _ rfl (.tmp 119) (.tmp 123) 64 rfl v0.heap.size 9 (.string ⟨#[]⟩) 1 16 Tryz.underlying64 info_strE rfl (by omega) (.slice A 1 ct) 1 _ rfl hh [.string ⟨#[62]⟩] rfl (wr.heap.size + 1) rfl k4 (one_strB2 _) (by omega) (by unfold maxLen; omega) k3 ?_); intro g1 ct1 w5 own5 hg5 hgg5 hb5; have HR5 := Lib.hid ((HR.out.below (((Below.refl _ _).alloc (Nat.le_refl _) (.cells #[.int .u8 62] 5)).alloc (by simp) (.cells #[.string ⟨#[62]⟩] 9))).grown hh hg5); have HO5 := Lib.hid own5; have HB5 := Lib.hid (((HB.out.alloc HSz.out (.cells #[.int .u8 62] 5)).alloc (by have := HSz.out; simp; omega) (.cells #[.string ⟨#[62]⟩] 9)).trans hb5); clear hh k3 k4 own5 hg5 hgg5 hb5 x0 x1 xsh; have y1 : w5.cell? ⟨bb, 256, none⟩ = some (.slice A 1 ct) := (HR5.out.blk.c 256).trans HR5.out.top; have yf := HR5.out.blk.f 256; have ysh := HR5.out.blk.sh; rw [HR5.out.sz] at ysh; have HCS := Lib.hid ((HR5.out.blk.put 256 (.slice (some ⟨g1, 0, none⟩) 2 ct1)).below (bytes_below _ 5 ⟨#[38, 103, 116, 59]⟩)); have z0 := (HCS.out.c 62).trans ((Array.getElem?_setIfInBounds_ne (by decide)).trans (HR5.out.no 62 (by decide))); have zf := HCS.out.f 62; have zsh := HCS.out.sh; rw [Array.size_setIfInBounds, HR5.out.sz] at zsh; have hcv := fun W : World => Lib.run_convert_string_bytes (P := Tryz.prog) W 9 56 5 ⟨#[38, 103, 116, 59]⟩ Tryz.underlying9 Tryz.underlying56 Tryz.underlying5)
          go_roundw
          case rel =>
            obtain ⟨w6, hw6⟩ : ∃ w6, w5.setCell ⟨bb, 256, none⟩ (.slice (some ⟨g1, 0, none⟩) 2 ct1) = w6 := ⟨_, rfl⟩
            have hz6 : w6.heap.size = w5.heap.size := by rw [← hw6]; simp
            have hc6 : CB w6 bb 100 _ := hw6 ▸ HR5.out.blk.put 256 (.slice (some ⟨g1, 0, none⟩) 2 ct1)
            have ho6 : w6.ownsRow v0.heap.size 9 1 (.slice (some ⟨g1, 0, none⟩) 2 ct1) 2 (trS 2) := hw6 ▸ own_setB HO5.out HR5.out.blk
            have hb6 : Below v0.heap.size v0 w6 := hw6 ▸ HB5.out.setCell (p := ⟨bb, 256, none⟩) hbw _
            have hbb6 := bytes_below w6 5 ⟨#[38, 103, 116, 59]⟩
            have hbk := bytes_blk w6 ⟨#[38, 103, 116, 59]⟩ [38, 103, 116, 59] rfl
            rw [hz6] at hbk
            have hge := grownCap_ge w6 4 0 5
            have hlm := grownCap_le_maxLen w6 4 0 5 (by simp only [maxLen]; omega)
            obtain ⟨cs', HR6⟩ := HR5.out.step (c := 62) (l := [38, 103, 116, 59]) rfl rfl (A' := some ⟨g1, 0, none⟩) (ct' := ct1) (cap := grownCap w6 4 0 5) hge hlm hw6.symm hbb6 hbk rfl
            rw [hw6]
            exact ⟨2, _, _, cs', by omega, rfl, HR6, own_setB (own_belowB ho6 hbb6) (hc6.below hbb6), (hb6.trans (hbb6.mono hb6.size)).setCell (p := ⟨bb, 62, none⟩) hbw _⟩
          case measure => simp [intOf]
        · have p0 := Keeps.of_below HB.out _ _ c2
          have p1 := Keeps.of_below HB.out _ _ c3
          have x0 : wr.cell? ⟨bb, 60, none⟩ = some (.slice none 0 0) := (HR.out.blk.c 60).trans (HR.out.no 60 (by decide))
          have x1 : wr.cell? ⟨bb, 256, none⟩ = some (.slice A 2 ct) := (HR.out.blk.c 256).trans HR.out.top
          have xsh := HR.out.blk.sh
          rw [HR.out.sz] at xsh
          have heq : ∀ W : World, Sem.run Tryz.prog (binOp BinOp.eql 56 (Value.slice none 0 0) (Value.slice none 0 0)) W = Result.ok (Value.bool true) W := fun _ => rfl
          have e0 : ∀ h : 0 < (⟨#[60]⟩ : ByteArray).size, ((⟨#[60]⟩ : ByteArray)[0]'h) = 60 := fun _ => rfl
          have e1 : ∀ h : 0 < (⟨#[60]⟩ : ByteArray).size, (((⟨#[60]⟩ : ByteArray)[0]'h).toNat : Int) = 60 := fun _ => rfl
          have HSz := Lib.hid HB.out.size
          have bb2 := HR.out.blk.lt
          have hco : ∀ W : World, (convert 56 9 (.slice (some ⟨W.heap.size, 0, none⟩) 1 1)).run Tryz.prog (W.alloc (.cells #[.int .u8 60] 5)) = .ok (.string ⟨#[60]⟩) (W.alloc (.cells #[.int .u8 60] 5)) := fun W => conv_one W 60
          go_wp2_with (at_builtin; have hh := (HO.out.alloc (.cells #[.int .u8 60] 5)).alloc (.cells #[.string ⟨#[60]⟩] 9); have k3 : v0.heap.size ≤ ((wr.alloc (.cells #[.int .u8 60] 5)).alloc (.cells #[.string ⟨#[60]⟩] 9)).heap.size := (by have := HSz.out; simp; omega); have k4 := cell_new (wr.alloc (.cells #[.int .u8 60] 5)) [.string ⟨#[60]⟩] 9 (wr.heap.size + 1) (by simp); go_must (refine wpList_push _ rfl (.tmp 119) (.tmp 123) 64 rfl v0.heap.size 9 (.string ⟨#[]⟩) 1 16 Tryz.underlying64 info_strE rfl (by omega) (.slice A 2 ct) 2 _ rfl hh [.string ⟨#[60]⟩] rfl (wr.heap.size + 1) rfl k4 (one_strB2 _) (by omega) (by unfold maxLen; omega) k3 ?_); intro g1 ct1 w5 own5 hg5 hgg5 hb5; have HR5 := Lib.hid ((HR.out.below (((Below.refl _ _).alloc (Nat.le_refl _) (.cells #[.int .u8 60] 5)).alloc (by simp) (.cells #[.string ⟨#[60]⟩] 9))).grown hh hg5); have HO5 := Lib.hid own5; have HB5 := Lib.hid (((HB.out.alloc HSz.out (.cells #[.int .u8 60] 5)).alloc (by have := HSz.out; simp; omega) (.cells #[.string ⟨#[60]⟩] 9)).trans hb5); clear hh k3 k4 own5 hg5 hgg5 hb5 x0 x1 xsh; have y1 : w5.cell? ⟨bb, 256, none⟩ = some (.slice A 2 ct) := (HR5.out.blk.c 256).trans HR5.out.top; have yf := HR5.out.blk.f 256; have ysh := HR5.out.blk.sh; rw [HR5.out.sz] at ysh; have HCS := Lib.hid ((HR5.out.blk.put 256 (.slice (some ⟨g1, 0, none⟩) 3 ct1)).below (bytes_below _ 5 ⟨#[38, 108, 116, 59]⟩)); have z0 := (HCS.out.c 60).trans ((Array.getElem?_setIfInBounds_ne (by decide)).trans (HR5.out.no 60 (by decide))); have zf := HCS.out.f 60; have zsh := HCS.out.sh; rw [Array.size_setIfInBounds, HR5.out.sz] at zsh; have hcv := fun W : World => Lib.run_convert_string_bytes (P := Tryz.prog) W 9 56 5 ⟨#[38, 108, 116, 59]⟩ Tryz.underlying9 Tryz.underlying56 Tryz.underlying5)
          go_roundw
          case rel =>
            obtain ⟨w6, hw6⟩ : ∃ w6, w5.setCell ⟨bb, 256, none⟩ (.slice (some ⟨g1, 0, none⟩) 3 ct1) = w6 := ⟨_, rfl⟩
            have hz6 : w6.heap.size = w5.heap.size := by rw [← hw6]; simp
            have hc6 : CB w6 bb 100 _ := hw6 ▸ HR5.out.blk.put 256 (.slice (some ⟨g1, 0, none⟩) 3 ct1)
            have ho6 : w6.ownsRow v0.heap.size 9 1 (.slice (some ⟨g1, 0, none⟩) 3 ct1) 3 (trS 3) := hw6 ▸ own_setB HO5.out HR5.out.blk
            have hb6 : Below v0.heap.size v0 w6 := hw6 ▸ HB5.out.setCell (p := ⟨bb, 256, none⟩) hbw _
            have hbb6 := bytes_below w6 5 ⟨#[38, 108, 116, 59]⟩
            have hbk := bytes_blk w6 ⟨#[38, 108, 116, 59]⟩ [38, 108, 116, 59] rfl
            rw [hz6] at hbk
            have hge := grownCap_ge w6 4 0 5
            have hlm := grownCap_le_maxLen w6 4 0 5 (by simp only [maxLen]; omega)
            obtain ⟨cs', HR6⟩ := HR5.out.step (c := 60) (l := [38, 108, 116, 59]) rfl rfl (A' := some ⟨g1, 0, none⟩) (ct' := ct1) (cap := grownCap w6 4 0 5) hge hlm hw6.symm hbb6 hbk rfl
            rw [hw6]
            exact ⟨3, _, _, cs', by omega, rfl, HR6, own_setB (own_belowB ho6 hbb6) (hc6.below hbb6), (hb6.trans (hbb6.mono hb6.size)).setCell (p := ⟨bb, 60, none⟩) hbw _⟩
          case measure => simp [intOf]
        · have p0 := Keeps.of_below HB.out _ _ c0
          have p1 := Keeps.of_below HB.out _ _ c1
          have x0 : wr.cell? ⟨bb, 38, none⟩ = some (.slice none 0 0) := (HR.out.blk.c 38).trans (HR.out.no 38 (by decide))
          have x1 : wr.cell? ⟨bb, 256, none⟩ = some (.slice A 3 ct) := (HR.out.blk.c 256).trans HR.out.top
          have xsh := HR.out.blk.sh
          rw [HR.out.sz] at xsh
          have heq : ∀ W : World, Sem.run Tryz.prog (binOp BinOp.eql 56 (Value.slice none 0 0) (Value.slice none 0 0)) W = Result.ok (Value.bool true) W := fun _ => rfl
          have e0 : ∀ h : 0 < (⟨#[38]⟩ : ByteArray).size, ((⟨#[38]⟩ : ByteArray)[0]'h) = 38 := fun _ => rfl
          have e1 : ∀ h : 0 < (⟨#[38]⟩ : ByteArray).size, (((⟨#[38]⟩ : ByteArray)[0]'h).toNat : Int) = 38 := fun _ => rfl
          have HSz := Lib.hid HB.out.size
          have bb2 := HR.out.blk.lt
          have hco : ∀ W : World, (convert 56 9 (.slice (some ⟨W.heap.size, 0, none⟩) 1 1)).run Tryz.prog (W.alloc (.cells #[.int .u8 38] 5)) = .ok (.string ⟨#[38]⟩) (W.alloc (.cells #[.int .u8 38] 5)) := fun W => conv_one W 38
          go_wp2_with (at_builtin; have hh := (HO.out.alloc (.cells #[.int .u8 38] 5)).alloc (.cells #[.string ⟨#[38]⟩] 9); have k3 : v0.heap.size ≤ ((wr.alloc (.cells #[.int .u8 38] 5)).alloc (.cells #[.string ⟨#[38]⟩] 9)).heap.size := (by have := HSz.out; simp; omega); have k4 := cell_new (wr.alloc (.cells #[.int .u8 38] 5)) [.string ⟨#[38]⟩] 9 (wr.heap.size + 1) (by simp); go_must (refine wpList_push _ rfl (.tmp 119) (.tmp 123) 64 rfl v0.heap.size 9 (.string ⟨#[]⟩) 1 16 Tryz.underlying64 info_strE rfl (by omega) (.slice A 3 ct) 3 _ rfl hh [.string ⟨#[38]⟩] rfl (wr.heap.size + 1) rfl k4 (one_strB2 _) (by omega) (by unfold maxLen; omega) k3 ?_); intro g1 ct1 w5 own5 hg5 hgg5 hb5; have HR5 := Lib.hid ((HR.out.below (((Below.refl _ _).alloc (Nat.le_refl _) (.cells #[.int .u8 38] 5)).alloc (by simp) (.cells #[.string ⟨#[38]⟩] 9))).grown hh hg5); have HO5 := Lib.hid own5; have HB5 := Lib.hid (((HB.out.alloc HSz.out (.cells #[.int .u8 38] 5)).alloc (by have := HSz.out; simp; omega) (.cells #[.string ⟨#[38]⟩] 9)).trans hb5); clear hh k3 k4 own5 hg5 hgg5 hb5 x0 x1 xsh; have y1 : w5.cell? ⟨bb, 256, none⟩ = some (.slice A 3 ct) := (HR5.out.blk.c 256).trans HR5.out.top; have yf := HR5.out.blk.f 256; have ysh := HR5.out.blk.sh; rw [HR5.out.sz] at ysh; have HCS := Lib.hid ((HR5.out.blk.put 256 (.slice (some ⟨g1, 0, none⟩) 4 ct1)).below (bytes_below _ 5 ⟨#[38, 97, 109, 112, 59]⟩)); have z0 := (HCS.out.c 38).trans ((Array.getElem?_setIfInBounds_ne (by decide)).trans (HR5.out.no 38 (by decide))); have zf := HCS.out.f 38; have zsh := HCS.out.sh; rw [Array.size_setIfInBounds, HR5.out.sz] at zsh; have hcv := fun W : World => Lib.run_convert_string_bytes (P := Tryz.prog) W 9 56 5 ⟨#[38, 97, 109, 112, 59]⟩ Tryz.underlying9 Tryz.underlying56 Tryz.underlying5)
          go_roundw
          case rel =>
            obtain ⟨w6, hw6⟩ : ∃ w6, w5.setCell ⟨bb, 256, none⟩ (.slice (some ⟨g1, 0, none⟩) 4 ct1) = w6 := ⟨_, rfl⟩
            have hz6 : w6.heap.size = w5.heap.size := by rw [← hw6]; simp
            have hc6 : CB w6 bb 100 _ := hw6 ▸ HR5.out.blk.put 256 (.slice (some ⟨g1, 0, none⟩) 4 ct1)
            have ho6 : w6.ownsRow v0.heap.size 9 1 (.slice (some ⟨g1, 0, none⟩) 4 ct1) 4 (trS 4) := hw6 ▸ own_setB HO5.out HR5.out.blk
            have hb6 : Below v0.heap.size v0 w6 := hw6 ▸ HB5.out.setCell (p := ⟨bb, 256, none⟩) hbw _
            have hbb6 := bytes_below w6 5 ⟨#[38, 97, 109, 112, 59]⟩
            have hbk := bytes_blk w6 ⟨#[38, 97, 109, 112, 59]⟩ [38, 97, 109, 112, 59] rfl
            rw [hz6] at hbk
            have hge := grownCap_ge w6 5 0 5
            have hlm := grownCap_le_maxLen w6 5 0 5 (by simp only [maxLen]; omega)
            obtain ⟨cs', HR6⟩ := HR5.out.step (c := 38) (l := [38, 97, 109, 112, 59]) rfl rfl (A' := some ⟨g1, 0, none⟩) (ct' := ct1) (cap := grownCap w6 5 0 5) hge hlm hw6.symm hbb6 hbk rfl
            rw [hw6]
            exact ⟨4, _, _, cs', by omega, rfl, HR6, own_setB (own_belowB ho6 hbb6) (hc6.below hbb6), (hb6.trans (hbb6.mono hb6.size)).setCell (p := ⟨bb, 38, none⟩) hbw _⟩
          case measure => simp [intOf]
        · go_wp2_with fail
          go_ret
          exact ⟨bb, rfl, hbw, HR.out.done HO.out, HB.out⟩

end Go.Proofs.YtelelpjhepcmbaaGreat
