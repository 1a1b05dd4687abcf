/-
  A value copied with all below: build.clone's walk.
-/
import Derived.Test.YtnoiipngingdoaaDoorCloneV
namespace Go.Proofs.YtnoiipngingdoaaDoor
open Go.RowKit Go.Deep

theorem CB.setOther {w : World} {n m o : Nat} {t : TypeId} {cs : Array Value} (h : CB w n t cs) (hne : n ≠ m) (v : Value) : CB (w.setCell ⟨m, o, none⟩ v) n t cs := h.other (grown_setB w m o v) (fun e => hne (Option.some.inj e))
theorem keepsIn_set {w : World} {n o B : Nat} {v : Value} (hn : n < B) : KeepsIn (fun b => B ≤ b) w (w.setCell ⟨n, o, none⟩ v) := by
  intro a x hp hx
  rw [World.cell?_of_block ((grown_setB w n o v).block a.block (World.block_lt_of_cell? _ _ hx) (fun e => by have := Option.some.inj e; omega))]
  exact hx
theorem val_atC {N : Nat} {v : Val} {k : Nat} {n : Val} (hN : SizeOf.sizeOf v ≤ N + 1) (h : v.items[k]? = some n) : SizeOf.sizeOf n ≤ N := val_at hN h

set_option maxRecDepth 100000 in
set_option maxHeartbeats 8000000 in
theorem clone_q (N : Nat) : ∀ (v : Val) (va : Value) (w : World), SizeOf.sizeOf v ≤ N → ValIn w AnyB va v → valW v ≤ 1073741824 → Calls Tryd.prog 9 #[va] w (ClonePost v w) := by
  induction N with
  | zero =>
    intro v va w hN
    cases v; simp at hN
  | succ N ih =>
    intro v va w hN hv hm
    obtain ⟨iv, kv, rfl, hok, hI, hK⟩ := hv
    obtain ⟨Ai, ci, bi, oi, ivf, kvf, rfl, hlc, hci, hAi, hcell, hit, hky⟩ := hI.inv
    obtain ⟨Ak, ck, bk, ok, rfl, hlk, hck, hAk, hkc⟩ := hK.inv
    clear hI hK
    unfold maxLen at hci hck
    have hval : valW v = v.text.size + valsW v.items + strsW v.keys + 1 := rfl
    have hkl := strsW_len v.keys
    have hil := valsW_len v.items
    have HN := Lib.hid hN; clear hN
    have HIH := Lib.hid ih; clear ih
    have HCell := Lib.hid hcell; clear hcell
    have HIt := Lib.hid hit; clear hit
    have HKy := Lib.hid hky; clear hky
    have HKc := Lib.hid hkc; clear hkc
    have HOk := Lib.hid hok; clear hok
    have HB2 := Lib.hid (show Below w.heap.size w ((w.alloc (.cells #[.int .i64 v.kind, .bool v.flag, .int .i64 v.num, .string v.text, .slice Ai v.items.length ci, .slice Ak v.keys.length ck] 29)).alloc (.cells #[.int .i64 0, .bool false, .int .i64 0, .string ⟨#[]⟩, .slice none 0 0, .slice none 0 0] 29)) from ((Below.refl _ _).alloc (Nat.le_refl _) _).alloc (by simp) _)
    have HBv := Lib.hid (show CB ((w.alloc (.cells #[.int .i64 v.kind, .bool v.flag, .int .i64 v.num, .string v.text, .slice Ai v.items.length ci, .slice Ak v.keys.length ck] 29)).alloc (.cells #[.int .i64 0, .bool false, .int .i64 0, .string ⟨#[]⟩, .slice none 0 0, .slice none 0 0] 29)) w.heap.size 29 #[.int .i64 v.kind, .bool v.flag, .int .i64 v.num, .string v.text, .slice Ai v.items.length ci, .slice Ak v.keys.length ck] from (CB.new w _ _).alloc _)
    have HBz := Lib.hid (show CB ((w.alloc (.cells #[.int .i64 v.kind, .bool v.flag, .int .i64 v.num, .string v.text, .slice Ai v.items.length ci, .slice Ak v.keys.length ck] 29)).alloc (.cells #[.int .i64 0, .bool false, .int .i64 0, .string ⟨#[]⟩, .slice none 0 0, .slice none 0 0] 29)) (w.heap.size + 1) 29 #[.int .i64 0, .bool false, .int .i64 0, .string ⟨#[]⟩, .slice none 0 0, .slice none 0 0] from (by have h := CB.new (w.alloc (.cells #[.int .i64 v.kind, .bool v.flag, .int .i64 v.num, .string v.text, .slice Ai v.items.length ci, .slice Ak v.keys.length ck] 29)) #[.int .i64 0, .bool false, .int .i64 0, .string ⟨#[]⟩, .slice none 0 0, .slice none 0 0] 29; rw [World.size_alloc] at h; exact h))
    have HKc2 := Lib.hid (show ∀ i s, v.keys[i]? = some s → World.cell? ((w.alloc (.cells #[.int .i64 v.kind, .bool v.flag, .int .i64 v.num, .string v.text, .slice Ai v.items.length ci, .slice Ak v.keys.length ck] 29)).alloc (.cells #[.int .i64 0, .bool false, .int .i64 0, .string ⟨#[]⟩, .slice none 0 0, .slice none 0 0] 29)) ⟨bk, ok + i, none⟩ = some (.string s) from fun i s hi => Keeps.of_below HB2.out _ _ (HKc.out i s hi).1)
    unfold valAgg
    go_enter Tryd.func9, Tryd.ntmps9
    go_wp2_with (at_builtin; refine wpList_copyS _ rfl (.const (.slice none 0 0)) (.tmp 7) 24 rfl 9 _ 16 Tryd.underlying24 info_strK rfl rfl Ak v.keys.length ck bk ok v.keys rfl rfl hAk HKc2.out (by omega) (by unfold maxLen; omega) ?_; intro A5 c5 w5 own5 hb5; have HV5 := Lib.hid (HBv.out.below hb5); have HZ5 := Lib.hid (HBz.out.below hb5); have vc4 : w5.cell? ⟨w.heap.size, 4, none⟩ = some (.slice Ai v.items.length ci) := HV5.out.c 4; have vc5 : w5.cell? ⟨w.heap.size, 5, none⟩ = some (.slice Ak v.keys.length ck) := HV5.out.c 5; have vf5 := HV5.out.f 5; have vsh := HV5.out.sh; have hn5 : w.heap.size < w5.heap.size := HV5.out.lt)
    obtain ⟨w6, hw6⟩ : ∃ w6, w5.setCell ⟨w.heap.size, 5, none⟩ (.slice A5 v.keys.length c5) = w6 := ⟨_, rfl⟩
    have hs6 : w6.heap.size = w5.heap.size := by rw [← hw6]; simp [World.setCell]
    have hs5 : w.heap.size + 2 ≤ w5.heap.size := by have := hb5.size; rw [World.size_alloc, World.size_alloc] at this; exact this
    have HB6 := Lib.hid (show Below w.heap.size w w6 by rw [← hw6]; exact (HB2.out.trans (hb5.mono HB2.out.size)).setCell (p := ⟨w.heap.size, 5, none⟩) (Nat.le_refl _) _)
    have HV6 := Lib.hid (show CB w6 w.heap.size 29 #[.int .i64 v.kind, .bool v.flag, .int .i64 v.num, .string v.text, .slice Ai v.items.length ci, .slice A5 v.keys.length c5] by rw [← hw6]; exact HV5.out.put 5 _)
    have HZ6 := Lib.hid (show CB w6 (w.heap.size + 1) 29 #[.int .i64 0, .bool false, .int .i64 0, .string ⟨#[]⟩, .slice none 0 0, .slice none 0 0] by rw [← hw6]; exact HZ5.out.setOther (by omega) _)
    have HS6 := Lib.hid (show StrsIn w6 (fun b => w.heap.size + 2 ≤ b) (.slice A5 v.keys.length c5) v.keys by
      rw [← hw6]
      have h := own5.kept (grown_setB w5 w.heap.size 5 (.slice A5 v.keys.length c5)) (by
        by_cases hx : (Value.slice A5 v.keys.length c5).ownBlock = some w.heap.size
        · have := own5.lt _ hx
          rw [World.size_alloc, World.size_alloc] at this
          omega
        · exact Or.inr hx)
      exact (StrsIn.of_own h (fun s hs => by obtain ⟨i, hi⟩ := List.getElem?_of_mem hs; exact (HKc.out i s hi).2)).keep (KeepsIn.refl _ _) (fun b _ hb => by rw [World.size_alloc, World.size_alloc] at hb; omega))
    have hlt6 : w.heap.size < w6.heap.size := HV6.out.lt
    rw [hw6]
    clear hw6 vc4 vc5 vf5 vsh hn5 own5 hb5 HV5 HZ5
    go_loopw [3, 13] (fun t3 t wr => ∃ (j mk : Nat) (Ao : Option Addr) (co : Nat) (ps : List PartV), j ≤ v.items.length ∧ t = .int .i64 j ∧ t3 = .slice Ao mk co ∧ Hid (mk = ps.length) ∧ Hid (MadeV wr w6.heap.size (.slice Ao mk co) ps) ∧ Hid (ps.map (·.n) = v.items.take j) ∧ Hid (Below w6.heap.size w6 wr) ∧ mk = j) (fun _ t _ => v.items.length - (intOf t).toNat)
    case atStart => exact ⟨0, 0, none, 0, [], Nat.zero_le _, rfl, rfl, rfl, MadeV.nil _ _, rfl, Below.refl _ _, rfl⟩
    case round =>
      obtain ⟨j, mk, Ao, co, ps, hj, rfl, rfl, HPl, HMd, HPs, HBq, hmj⟩ := hrel
      have hmj2 : mk ≤ 1073741823 := by omega
      have HMj := Lib.hid hmj
      clear hmj
      have HBe := Lib.hid (show Below w.heap.size w wr from HB6.out.trans (HBq.out.mono (by omega)))
      have HVw := Lib.hid (HV6.out.below HBq.out)
      have HZw := Lib.hid (HZ6.out.below HBq.out)
      have hszq := HBq.out.size
      by_cases hlt : j < v.items.length
      · have hA' := (hAi (by intro e; rw [e] at hlt; simp at hlt)).1
        subst hA'
        obtain ⟨x, hx⟩ : ∃ x, v.items[j]? = some x := ⟨_, List.getElem?_eq_getElem hlt⟩
        obtain ⟨⟨c0, c1, c2, c3, c4, c5x⟩, okx⟩ := HCell.out j x hx
        have hix := HIt.out j x hx
        have hkx := HKy.out j x hx
        obtain ⟨A3, c3', _, _, _, _, e3, _, _, _, _, _, _⟩ := hix.inv
        obtain ⟨A4, c4', _, _, e4, _, _, _, _⟩ := hkx.inv
        rw [e3] at c4 hix
        rw [e4] at c5x hkx
        have KW := Keeps.of_below HBe.out
        have HVx := Lib.hid (show ValIn w AnyB (.agg #[.int .i64 x.kind, .bool x.flag, .int .i64 x.num, .string x.text, .slice A3 x.items.length c3', .slice A4 x.keys.length c4']) x from ⟨_, _, rfl, okx, hix, hkx⟩)
        have p0 := KW _ _ c0
        have p1 := KW _ _ c1
        have p2 := KW _ _ c2
        have p3 := KW _ _ c3
        have p4 := KW _ _ c4
        have p5 := KW _ _ c5x
        have HOx := Lib.hid okx
        clear KW c0 c1 c2 c3 c4 c5x e3 e4 hix hkx okx
        have bb := World.block_lt_of_cell? _ _ p0
        simp only at bb
        have HSz := Lib.hid (val_at HN.out hx)
        have hvm := valsW_mem (List.mem_of_getElem? hx)
        have HTk := Lib.hid (show v.items.take (j + 1) = v.items.take j ++ [x] by
          obtain ⟨hk, rfl⟩ := List.getElem?_eq_some_iff.1 hx
          exact List.take_succ_eq_append_getElem hk)
        have HBx := Lib.hid (show Below wr.heap.size wr (wr.alloc (.cells #[.int .i64 x.kind, .bool x.flag, .int .i64 x.num, .string x.text, .slice A3 x.items.length c3', .slice A4 x.keys.length c4'] 29)) from (Below.refl _ _).alloc (Nat.le_refl _) _)
        have hcall := HIH.out x _ (wr.alloc (.cells #[.int .i64 x.kind, .bool x.flag, .int .i64 x.num, .string x.text, .slice A3 x.items.length c3', .slice A4 x.keys.length c4'] 29)) HSz.out (HVx.out.keeps (Keeps.of_below (HBe.out.trans (HBx.out.mono HBe.out.size)))) (by omega)
        clear hx
        go_wp2_with fail
        refine hcall.mono ?_
        clear hcall
        rintro e w8 ⟨A8, n8, c8, A9, n9, c9, rfl, hv8, hb8⟩
        have hsx : (World.heap (wr.alloc (.cells #[.int .i64 x.kind, .bool x.flag, .int .i64 x.num, .string x.text, .slice A3 x.items.length c3', .slice A4 x.keys.length c4'] 29))).size = wr.heap.size + 1 := World.size_alloc _ _
        have HB8 := Lib.hid (HBx.out.trans (hb8.mono (by rw [hsx]; omega)))
        have hs8 := HB8.out.size
        have hs8' : wr.heap.size + 1 ≤ w8.heap.size := by have := hb8.size; rw [hsx] at this; exact this
        have HV8 := Lib.hid hv8
        clear hv8 hb8
        have HM8 := Lib.hid (HMd.out.below HB8.out)
        have HO8 := Lib.hid HM8.out.own
        rw [← HPl.out] at HO8
        unfold valAgg
        go_wp2_with (at_builtin; have hh := HO8.out.alloc (.cells #[.int .i64 x.kind, .bool x.flag, .int .i64 x.num, .string x.text, .slice A8 n8 c8, .slice A9 n9 c9] 29); have k1 : (mk + 1) * 88 ≤ 140737488355328 := (by omega); have k2 : mk + 1 ≤ maxLen := (by unfold maxLen; omega); have k3 : w6.heap.size ≤ (World.alloc w8 (.cells #[.int .i64 x.kind, .bool x.flag, .int .i64 x.num, .string x.text, .slice A8 n8 c8, .slice A9 n9 c9] 29)).heap.size := (by rw [World.size_alloc]; omega); have k4 := cell_new w8 (cellsV x (.slice A8 n8 c8) (.slice A9 n9 c9)) 29 (World.heap w8).size rfl; go_must (refine wpList_push _ rfl (.tmp 17) (.tmp 20) 27 rfl w6.heap.size 29 (.agg #[.int .i64 0, .bool false, .int .i64 0, .string ⟨#[]⟩, .slice none 0 0, .slice none 0 0]) 6 88 Tryd.underlying27 info_valK rfl (by omega) (.slice Ao mk co) mk _ rfl hh (cellsV x (.slice A8 n8 c8) (.slice A9 n9 c9)) rfl _ rfl k4 (cellsV_one x _ _ _ _ _ _) k1 k2 k3 ?_); clear hh k1 k2 k3 k4; intro g9 c9' w9 own9 hg9 hgg9 hb9)
        have HB9 := Lib.hid ((HBq.out.trans (HB8.out.mono hszq)).trans (((Below.refl w6.heap.size w8).alloc (by omega) (.cells #[.int .i64 x.kind, .bool x.flag, .int .i64 x.num, .string x.text, .slice A8 n8 c8, .slice A9 n9 c9] 29)).trans hb9))
        have hob : ∀ b, (Value.slice Ao mk co).ownBlock = some b → b < wr.heap.size := fun b hb => by
          have h := HMd.out.own
          rw [← HPl.out] at h
          exact (h.lt b hb).2
        obtain ⟨iv8, kv8, he8, hok8, hi8, hk8⟩ := HV8.out
        have hiv : iv8 = .slice A8 n8 c8 ∧ kv8 = .slice A9 n9 c9 := by unfold valAgg at he8; simp at he8; exact ⟨he8.1.symm, he8.2.symm⟩
        obtain ⟨rfl, rfl⟩ := hiv
        have hA8 := Below.refl w8.heap.size w8 |>.alloc (Nat.le_refl _) (.cells #[.int .i64 x.kind, .bool x.flag, .int .i64 x.num, .string x.text, .slice A8 n8 c8, .slice A9 n9 c9] 29)
        have hP : ∀ b, b < w8.heap.size → (World.heap (wr.alloc (.cells #[.int .i64 x.kind, .bool x.flag, .int .i64 x.num, .string x.text, .slice A3 x.items.length c3', .slice A4 x.keys.length c4'] 29))).size ≤ b → (w6.heap.size ≤ b ∧ (Value.slice Ao mk co).ownBlock ≠ some b) := fun b _ hb => by
          rw [hsx] at hb
          exact ⟨by omega, fun e => by have := hob b e; omega⟩
        have hM9 := HPl.out ▸ (HM8.out.below hA8)
        have HMp := Lib.hid (MadeV.push (n := x) (HM8.out.below hA8) (hi8.keep (KeepsIn.of_keeps (Keeps.of_below hA8)) hP) (hk8.keep (KeepsIn.of_keeps (Keeps.of_below hA8)) hP) HOx.out (g := g9) (c := c9') (by rw [← HPl.out]; exact own9) hg9 hgg9)
        clear own9 hg9 hgg9 hb9 hM9 hi8 hk8 hok8 he8
        go_roundw
        case rel =>
          refine ⟨j + 1, mk + 1, some ⟨g9, 0, none⟩, c9', ps ++ [⟨x, .slice A8 n8 c8, .slice A9 n9 c9⟩], by omega, by go_num, rfl, (show _ = _ by rw [List.length_append, ← HPl.out]; rfl), (show MadeV _ _ _ _ by rw [HPl.out]; exact HMp.out), (show _ = _ by rw [List.map_append, HPs.out, HTk.out]; rfl), HB9.out, by rw [HMj.out]⟩
        case measure => simp [intOf]; omega
      · have HVs := Lib.hid (show ValsIn wr (fun b => w.heap.size + 2 ≤ b) (.slice Ao mk co) v.items by
          have h := HMd.out.vals
          rw [HPs.out, List.take_of_length_le (by omega)] at h
          exact h.keep (KeepsIn.refl _ _) (fun b _ hb => by omega))
        have HSs := Lib.hid (HS6.out.keep (KeepsIn.of_keeps (Keeps.of_below HBq.out)) (Q := fun b => w.heap.size + 2 ≤ b) (fun _ _ x => x))
        have vc0 := HVw.out.c 0
        have vc1 := HVw.out.c 1
        have vc2 := HVw.out.c 2
        have vc3 := HVw.out.c 3
        have vc4 := HVw.out.c 4
        have vc5 := HVw.out.c 5
        have vf4 := HVw.out.f 4
        have vsh := HVw.out.sh
        have hnv : w.heap.size < wr.heap.size := HVw.out.lt
        have zc0 := HZw.out.c 0
        have zf0 := HZw.out.f 0
        have zc1 := HZw.out.c 1
        have zf1 := HZw.out.f 1
        have zc2 := HZw.out.c 2
        have zf2 := HZw.out.f 2
        have zc3 := HZw.out.c 3
        have zf3 := HZw.out.f 3
        have zc4 := HZw.out.c 4
        have zf4 := HZw.out.f 4
        have zc5 := HZw.out.c 5
        have zf5 := HZw.out.f 5
        have zsh := HZw.out.sh
        have hnz : w.heap.size + 1 < wr.heap.size := HZw.out.lt
        simp only [List.getElem?_toArray, List.getElem?_cons_zero, List.getElem?_cons_succ] at vc0 vc1 vc2 vc3 vc4 vc5 zc0 zc1 zc2 zc3 zc4 zc5
        go_wp2_with fail
        have K1 : KeepsIn (fun b => w.heap.size + 2 ≤ b) wr ((((((((wr.setCell ⟨w.heap.size, 4, none⟩ (.slice Ao mk co)).setCell ⟨w.heap.size + 1, 0, none⟩ (.int .i64 v.kind)).setCell ⟨w.heap.size + 1, 1, none⟩ (.bool v.flag)).setCell ⟨w.heap.size + 1, 2, none⟩ (.int .i64 v.num)).setCell ⟨w.heap.size + 1, 3, none⟩ (.string v.text)).setCell ⟨w.heap.size + 1, 4, none⟩ (.slice Ao mk co)).setCell ⟨w.heap.size + 1, 5, none⟩ (.slice A5 v.keys.length c5))) :=
          ((((((keepsIn_set (by omega)).trans (keepsIn_set (by omega))).trans (keepsIn_set (by omega))).trans (keepsIn_set (by omega))).trans (keepsIn_set (by omega))).trans (keepsIn_set (by omega))).trans (keepsIn_set (by omega))
        exact val_done (n := w.heap.size + 1) rfl (((((((HZw.out.setOther (m := w.heap.size) (o := 4) (by omega) _).put 0 _).put 1 _).put 2 _).put 3 _).put 4 _).put 5 _) rfl rfl rfl
          ⟨Ao, mk, co, A5, v.keys.length, c5, rfl, ⟨_, _, rfl, HOk.out, HVs.out.keep K1 (fun b _ hb => by omega), HSs.out.keep K1 (fun b _ hb => by omega)⟩,
            ((((((HBe.out.setCell (p := ⟨w.heap.size, 4, none⟩) (Nat.le_refl _) _).setCell (p := ⟨w.heap.size + 1, 0, none⟩) (Nat.le_succ _) _).setCell (p := ⟨w.heap.size + 1, 1, none⟩) (Nat.le_succ _) _).setCell (p := ⟨w.heap.size + 1, 2, none⟩) (Nat.le_succ _) _).setCell (p := ⟨w.heap.size + 1, 3, none⟩) (Nat.le_succ _) _).setCell (p := ⟨w.heap.size + 1, 4, none⟩) (Nat.le_succ _) _).setCell (p := ⟨w.heap.size + 1, 5, none⟩) (Nat.le_succ _) _⟩

end Go.Proofs.YtnoiipngingdoaaDoor
