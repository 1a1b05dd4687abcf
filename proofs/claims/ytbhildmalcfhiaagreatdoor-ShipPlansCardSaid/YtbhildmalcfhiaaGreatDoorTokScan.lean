/-
  Tokens: the scanner's upTo, begins, chars.
-/
import Derived.Test.YtbhildmalcfhiaaGreatDoorTokSmall
namespace Go.Proofs.YtbhildmalcfhiaaGreatDoor
open Go.RowKit Go.Deep

/-- in a region that draws its order: append of one element to a slice of the call's own -/
theorem step_pushT {P : Program} {ops : Array Oper} {o : Oper} {a : Act} {W : World} {K : Act → World → Prop} {Q : Exit → Act → World → Prop} {E : Prop} (hgd : o.guard = none) (s x : Operand) (t : TypeId)
    (ho : o.op = .call { callee := .builtin .append, args := #[s, x], argTypes := #[t, t] })
    (B : Nat) (e : TypeId) (z : Value) (k bytes : Nat) (ht : P.underlying t = some (.slice e)) (hi : (P.info? e).map (fun i => (i.zero, i.size, i.bytes)) = some (some z, k, bytes)) (hzs : z.cells.size = k) (hk : 0 < k)
    (v : Value) (n : Nat) (xs : List Value) (hs : a.eval s = v) (hown : W.ownsRow B e k v n xs)
    (news : List Value) (hl : news.length = k) (sz : Nat) (hx : a.eval x = .slice (some ⟨sz, 0, none⟩) 1 1) (hnew : ∀ (j : Nat) (u : Value), news[j]? = some u → W.cell? ⟨sz, j, none⟩ = some u) (h1 : ∀ u ∈ news, u.oneCell' = true)
    (hn : (n + 1) * bytes ≤ 140737488355328) (hn' : n + 1 ≤ maxLen) (hB : B ≤ W.heap.size)
    (hK : ∀ g cap w', w'.ownsRow B e k (.slice (some ⟨g, 0, none⟩) (n + 1) cap) (n + 1) (xs ++ news) → W.grownBy w' v.ownBlock → (v.ownBlock = some g ∨ W.heap.size ≤ g) → Below B W w' → K (a.put o.dst (.slice (some ⟨g, 0, none⟩) (n + 1) cap)) w') :
    if Region.wanted o (yielded ops a.tmps) = true then Oper.wp P o a W K Q else E := by
  have hw : Region.wanted o (yielded ops a.tmps) = true := by simp [Region.wanted, hgd]
  rw [if_pos hw]
  obtain ⟨i, hi1, hi2, hi3, hi4⟩ := info_parts hi
  obtain ⟨v', w', hr, h2, hg, _, h5⟩ := run_append_own_at (P := P) W B t o.type e i z k bytes ht hi1 hi2 hi3 hi4 hzs hk v n xs hown ⟨sz, 0, none⟩ 1 1 news (by omega) (fun j u hj => by
    have hadd : (⟨sz, 0, none⟩ : Addr).add j = ⟨sz, j, none⟩ := by unfold Addr.add; split <;> simp_all
    rw [hadd]
    exact hnew j u hj) h1 hn' hn hB
  unfold Oper.wp execOp
  simp only [ho, resolve, invoke, builtin, Sem.run_bind, Sem.run_pure, Result.andThen_ok, List.map_toArray, List.map_cons, List.map_nil, hs, hx, hr]
  have hb : Below B W w' := below_of_grown hg hB (own_block_ge hown)
  obtain ⟨A, c, rfl, _, _, hA⟩ := own_form h2
  obtain ⟨g, rfl, _, _⟩ := hA (by omega)
  refine hK g c w' h2 hg ?_ hb
  simp only [Value.ownBlock] at h5
  rcases h5 with h5 | h5
  · left; exact h5.symm
  · right; simp at h5; omega

/-- the variable that strings.Index reads lies below B -/
def MaxT (B : Nat) (w : World) : Prop := 2 < B ∧ ∃ m, w.cell? ⟨2, 0, none⟩ = some (.int .i64 m)
theorem MaxT.keep {B : Nat} {w w' : World} (h : MaxT B w) (hb : Below B w w') : MaxT B w' := by
  obtain ⟨h1, m, h2⟩ := h
  exact ⟨h1, m, by rw [hb.cell (p := ⟨_, 0, none⟩) h1]; exact h2⟩
theorem MaxT.drewN {B : Nat} {w : World} (h : MaxT B w) (n : Nat) : MaxT B (w.drewN n) := h
theorem index_q (B : Nat) (s t : ByteArray) (v : Int) (w : World) (hm : MaxT B w) (hs : s.size ≤ 1048576) (h : Lib.index s.data.toList t.data.toList = v) :
    Calls Tryz.prog 122 #[.string s, .string t] w fun e w' => e = .returned (.int .i64 v) ∧ w' = w := by
  obtain ⟨_, m, hm⟩ := hm
  subst h
  exact Tryz.strings_Index s t m w (by omega) hm
theorem info_tok : (Tryz.prog.info? 56).map (fun i => (i.zero, i.size, i.bytes)) = some (some (.agg #[.int .i64 0, .int .i64 0, .string ⟨#[]⟩, .string ⟨#[]⟩, .slice none 0 0]), 5, 72) := by kernel_rfl
theorem info_att : (Tryz.prog.info? 68).map (fun i => (i.zero, i.size, i.bytes)) = some (some (.agg #[.string ⟨#[]⟩, .string ⟨#[]⟩]), 2, 32) := by kernel_rfl
theorem ScanAt.go {w : World} {bx : Nat} {s : ByteArray} {i j : Nat} {ov : Value} (h : ScanAt w bx s i ov) (n : Int) (e : n = (j : Int)) (k : Nat) : ScanAt ((w.drewN k).setCell ⟨bx, 1, none⟩ (.int .i64 n)) bx s j ov := by
  subst e
  exact CB.put (CB.drewN h k) 1 _
theorem ScanAt.go0 {w : World} {bx : Nat} {s : ByteArray} {i j : Nat} {ov : Value} (h : ScanAt w bx s i ov) (n : Int) (e : n = (j : Int)) : ScanAt (w.setCell ⟨bx, 1, none⟩ (.int .i64 n)) bx s j ov := by
  subst e
  exact CB.put h 1 _
theorem ToksOwn.ne {w : World} {B b : Nat} {ov : Value} {L : List (TokR × Value)} {t : TypeId} {cs : Array Value} (h : ToksOwn w B ov L) (hc : CB w b t cs) (ht : t ≠ 56) : ov.ownBlock ≠ some b := by
  intro e
  rcases h.row.2 with ⟨h1, _⟩ | ⟨g, cap, cur, h1, _, hg, _⟩
  · rw [h1] at e; cases e
  · rw [h1] at e
    simp only [Value.ownBlock, Option.some.injEq] at e
    subst e
    rw [show w.heap[g]? = _ from hc] at hg
    simp at hg
    exact ht hg.2

set_option maxRecDepth 100000 in
set_option maxHeartbeats 2000000 in
theorem upTo_q (B bx : Nat) (s : ByteArray) (i : Nat) (ov : Value) (t : ByteArray) (w : World) (hX : ScanAt w bx s i ov) (hi : i ≤ s.size) (hs : s.size ≤ 1048576) (ht : t.size ≤ 3) (hm : MaxT B w) :
    Calls Tryz.prog 81 #[.pointer (some ⟨bx, 0, none⟩), .string t] w fun e w' =>
      e = .returned (.string (s.extract i (upE s i t.data.toList))) ∧ ScanAt w' bx s (upN s i t.data.toList) ov ∧ GrownX (fun x => x = bx) w w' := by
  have b0 : w.cell? ⟨bx, 0, none⟩ = some (.string s) := hX.c 0
  have b1 : w.cell? ⟨bx, 1, none⟩ = some (.int .i64 (i : Int)) := hX.c 1
  have bf1 := hX.f 1
  have bsh : w.shape? bx = some (97, 3) := hX.sh
  have hlt : bx < w.heap.size := hX.lt
  have HX := Lib.hid hX; clear hX
  have HM := Lib.hid hm; clear hm
  have hi0 : (0 : Int) ≤ (i : Int) := by omega
  have hi1 : (i : Int) ≤ (s.size : Int) := by omega
  have hys : (s.extract i s.size).size ≤ 1048576 := by rw [ext_size s (Nat.le_refl _)]; omega
  rcases up_cases s i t.data.toList hi with ⟨h1, h2, h3⟩ | ⟨k, h1, h2, h3, h4⟩
  · have H1 := Lib.hid (show Lib.index (s.extract i s.size).data.toList t.data.toList = -1 from h1)
    rw [h2, h3]
    clear h1 h2 h3
    go_enter Tryz.func81, Tryz.ntmps81
    go_wp2_with fail
    go_quiet ((go_at_call 122; exact Calls.quiet_of_same (index_q B _ _ _ _ (HM.out.drewN _) hys H1.out)))
    go_wp2_with fail
    go_ret
    exact ⟨rfl, (HX.out.drewN _).put 1 _, GrownX.one _ _ _ _ _⟩
  · have H1 := Lib.hid (show Lib.index (s.extract i s.size).data.toList t.data.toList = (k : Int) from h1)
    rw [size_toList] at h3 h4
    rw [h2, h3]
    clear h1 h2 h3
    have hk0 : ¬ (k : Int) < 0 := by omega
    have hk1 : (i : Int) ≤ (i : Int) + (k : Int) := by omega
    have hk2 : (i : Int) + (k : Int) ≤ (s.size : Int) := by omega
    go_enter Tryz.func81, Tryz.ntmps81
    go_wp2_with fail
    go_quiet ((go_at_call 122; exact Calls.quiet_of_same (index_q B _ _ _ _ (HM.out.drewN _) hys H1.out)))
    go_wp2_with fail
    go_ret
    exact ⟨rfl, HX.out.go _ (by omega) _, GrownX.one _ _ _ _ _⟩

/-- what a few more tokens leave -/
def More (B bx : Nat) (s : ByteArray) (i : Nat) (L : List (TokR × Value)) (add : List TokR) (w w' : World) : Prop :=
  ∃ (ov : Value) (N : List (TokR × Value)), N.map (·.1) = add ∧ ScanAt w' bx s i ov ∧ ToksOwn w' B ov (L ++ N) ∧ Below B w w'

set_option maxRecDepth 100000 in
set_option maxHeartbeats 4000000 in
theorem chars_q (B bx : Nat) (s : ByteArray) (i a b : Nat) (ov : Value) (L : List (TokR × Value)) (w : World) (hX : ScanAt w bx s i ov) (hO : ToksOwn w B ov L) (hB : B ≤ bx) (hb : b ≤ s.size) (hL : L.length ≤ 1048576) :
    Calls Tryz.prog 47 #[.pointer (some ⟨bx, 0, none⟩), .int .i64 (a : Int), .int .i64 (b : Int)] w fun e w' => e = .returned (.tuple #[]) ∧ More B bx s i L (charsL s a b) w w' := by
  obtain ⟨A, c, rfl⟩ := hO.len
  have b0 : w.cell? ⟨bx, 0, none⟩ = some (.string s) := hX.c 0
  have b2 : w.cell? ⟨bx, 2, none⟩ = some (.slice A L.length c) := hX.c 2
  have hlt : bx < w.heap.size := hX.lt
  have HX := Lib.hid hX; clear hX
  have HO := Lib.hid hO; clear hO
  have hBw : B ≤ w.heap.size := by omega
  have hi0 : (0 : Int) ≤ (a : Int) := by omega
  have hi2 : (b : Int) ≤ (s.size : Int) := by omega
  by_cases hab : a < b
  · have hi1 : (a : Int) ≤ (b : Int) := by omega
    have HC := Lib.hid (show charsL s a b = [⟨1, a, ⟨#[]⟩, s.extract a b, []⟩] by rw [charsL, if_pos hab])
    go_enter Tryz.func47, Tryz.ntmps47
    go_wp2_with fail
    go_region_law (refine step_pushT rfl (.tmp 13) (.tmp 23) 50 rfl B 56 _ 5 72 Tryz.underlying50 info_tok rfl (by omega) (.slice A L.length c) L.length _ (by simp [Act.eval]) (own_alloc (own_drew HO.out.row) _) (tokRow (⟨1, a, ⟨#[]⟩, s.extract a b, []⟩, .slice none 0 0)) rfl _ (by simp [Act.eval]) (cell_new _ (tokRow (⟨1, a, ⟨#[]⟩, s.extract a b, []⟩, .slice none 0 0)) 56 _ rfl) (by intro u hu; simp [tokRow] at hu; rcases hu with rfl | rfl | rfl | rfl | rfl <;> rfl) (by omega) (by unfold maxLen; omega) (by simp; omega) ?_
                   intro g6 k6 w6 own6 hg6 hgg6 hb6
                   have HX6 := Lib.hid (CB.other ((HX.out.drew).alloc (.cells (tokRow (⟨1, a, ⟨#[]⟩, s.extract a b, []⟩, .slice none 0 0)).toArray 56)) hg6 (fun e => HO.out.ne HX.out (by decide) e.symm))
                   have u2 : w6.cell? ⟨bx, 2, none⟩ = some (.slice A L.length c) := HX6.out.c 2
                   have u2f := HX6.out.f 2
                   have u2s : w6.shape? bx = some (97, 3) := HX6.out.sh)
    all_goals
      have hOp := ((HO.out.alloc (.cells (tokRow (⟨1, a, ⟨#[]⟩, s.extract a b, []⟩, .slice none 0 0)).toArray 56)).drew).push (⟨1, a, ⟨#[]⟩, s.extract a b, []⟩, .slice none 0 0) (World.ownsRow_nil _ _ _ _) hg6 own6
      have HO7 := Lib.hid (hOp.box (o := 2) HX6.out (hOp.ne HX6.out (by decide)) (by decide) (.slice (some ⟨g6, 0, none⟩) (L.length + 1) k6))
      have HX7 := Lib.hid (HX6.out.put 2 (.slice (some ⟨g6, 0, none⟩) (L.length + 1) k6))
      have HB7 := Lib.hid (Below.setCell (p := ⟨bx, 2, none⟩) ((((Below.refl B w).alloc hBw (.cells (tokRow (⟨1, a, ⟨#[]⟩, s.extract a b, []⟩, .slice none 0 0)).toArray 56)).drew).trans hb6) hB (.slice (some ⟨g6, 0, none⟩) (L.length + 1) k6))
      clear hOp own6 hg6 hgg6 hb6
      go_wp2_with fail
      go_end0
      exact ⟨rfl, _, [(⟨1, a, ⟨#[]⟩, s.extract a b, []⟩, .slice none 0 0)], HC.out.symm, HX7.out, HO7.out, HB7.out⟩
  · have HC := Lib.hid (show charsL s a b = [] by rw [charsL, if_neg hab])
    have hi1 : ¬ (a : Int) < (b : Int) := by omega
    go_enter Tryz.func47, Tryz.ntmps47
    go_wp2_with fail
    go_end0
    exact ⟨rfl, _, [], HC.out.symm, HX.out, by rw [List.append_nil]; exact HO.out, Below.refl _ _⟩

end Go.Proofs.YtbhildmalcfhiaaGreatDoor
