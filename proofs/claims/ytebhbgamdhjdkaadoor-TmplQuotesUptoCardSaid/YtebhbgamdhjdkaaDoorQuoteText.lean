/-
  Rows of bytes of the call's own that a callee writes on; a string as a constant of script: tmpl.numbered, tmpl.quoteText, mastref1.quoteString.
-/
import Derived.Test.YtebhbgamdhjdkaaDoorQuotePlain
import Derived.Test.YtebhbgamdhjdkaaDoorOwn
import Derived.Test.YtebhbgamdhjdkaaDoorConv
import Derived.Test.YtebhbgamdhjdkaaDoorPagePart
import Derived.Deep.RegionLaw
import Derived.BigQuiet
import Derived.Deep.QuietTactic
import Derived.RegionTactic
import Derived.Lib.AppendStr
namespace Go.Proofs.YtebhbgamdhjdkaaDoor
open Go.RowKit Go.Deep

theorem info_byteQ : (Tryd.prog.info? 5).map (fun i => (i.zero, i.size, i.bytes)) = some (some (.int .u8 0), 1, 1) := by kernel_rfl
/-- blocks that hold no bytes stay as they are -/
def KeepsT (w w' : World) : Prop := w.heap.size ≤ w'.heap.size ∧ ∀ (b : Nat) (cs : Array Value) (t : TypeId) (fz : Nat × Nat), w.heap[b]? = some (.cells cs t fz) → t ≠ 5 → w'.heap[b]? = some (.cells cs t fz)
theorem KeepsT.refl (w : World) : KeepsT w w := ⟨Nat.le_refl _, fun _ _ _ _ h _ => h⟩
theorem KeepsT.trans {a b c : World} (h : KeepsT a b) (k : KeepsT b c) : KeepsT a c := ⟨Nat.le_trans h.1 k.1, fun x cs t fz hx ht => k.2 x cs t fz (h.2 x cs t fz hx ht) ht⟩
theorem KeepsT.alloc (w : World) (o : Obj) : KeepsT w (w.alloc o) := ⟨by simp, fun b cs t fz h _ => by
  rw [Below.heap_alloc w o b (Array.getElem?_eq_some_iff.1 h).1]; exact h⟩
theorem KeepsT.drewN {a b : World} (h : KeepsT a b) (n : Nat) : KeepsT a (b.drewN n) := h
theorem KeepsT.drew {a b : World} (h : KeepsT a b) : KeepsT a b.drew := h
theorem KeepsT.below {w w' : World} (h : Below w.heap.size w w') : KeepsT w w' := ⟨h.size, fun b cs t fz hb _ => by rw [h.block b (Array.getElem?_eq_some_iff.1 hb).1]; exact hb⟩
theorem KeepsT.grown {w w' : World} {B : Nat} {v : Value} {n : Nat} {xs : List Value} (h : w.ownsRow B 5 1 v n xs) (hg : w.grownBy w' v.ownBlock) : KeepsT w w' := by
  refine ⟨hg.size, fun b cs t fz hb ht => ?_⟩
  rw [hg.block b (Array.getElem?_eq_some_iff.1 hb).1 ?_]
  · exact hb
  · intro e
    rcases h.2 with ⟨rfl, _⟩ | ⟨g, cap, cur, rfl, _, hgg, _⟩
    · simp [Value.ownBlock] at e
    · simp only [Value.ownBlock, Option.some.injEq] at e
      subst e
      rw [hgg] at hb
      cases hb
      exact ht rfl
abbrev OwnM (B : Nat) (w : World) (v : Value) (m : Nat) (bs : List UInt8) : Prop := w.ownsRow B 5 1 v m (byteCells bs)
theorem ownM_len {B : Nat} {w : World} {v : Value} {m : Nat} {bs : List UInt8} (h : OwnM B w v m bs) : bs.length = m := by
  have := h.1
  simpa [byteCells] using this
theorem ownM_more {B : Nat} {w : World} {v : Value} {m : Nat} {bs cs : List UInt8} {xs : List Value} (h : w.ownsRow B 5 1 v m (byteCells bs ++ xs)) (hx : xs = byteCells cs) : OwnM B w v m (bs ++ cs) := by
  subst hx
  have : byteCells (bs ++ cs) = byteCells bs ++ byteCells cs := by simp [byteCells]
  unfold OwnM
  rw [this]
  exact h
/-- more bytes in a row of the call's own -/
def More (w0 : World) (bs : List UInt8) (w : World) (e : Ending) (w' : World) : Prop := ∃ A m c, e = .returned (.slice A m c) ∧ OwnM w0.heap.size w' (.slice A m c) m bs ∧ Below w0.heap.size w0 w' ∧ KeepsT w w'
theorem byteCells_one (l : List UInt8) : ∀ u ∈ byteCells l, u.oneCell' = true := by
  intro u hu
  simp only [byteCells, List.mem_map] at hu
  obtain ⟨s, _, rfl⟩ := hu
  rfl

/-- append of fresh elements of one cell each to a slice of the call's own -/
theorem wpList_app {P : Program} {ops : Array Oper} {rest : List Oper} {o : Oper} {a : Act} {Q : Exit → Act → World → Prop} (W : World) (hgd : o.guard = none) (s x : Operand) (t : TypeId)
    (ho : o.op = .call { callee := .builtin .append, args := #[s, x], argTypes := #[t, t] })
    (B : Nat) (e : TypeId) (z : Value) (bytes : Nat) (ht : P.underlying t = some (.slice e)) (hi : (P.info? e).map (fun i => (i.zero, i.size, i.bytes)) = some (some z, 1, bytes)) (hzs : z.cells.size = 1)
    (v : Value) (n : Nat) (xs : List Value) (hs : a.eval s = v) (hown : W.ownsRow B e 1 v n xs)
    (news : List Value) (q : Nat) (hl : news.length = q) (hq : 0 < q) (sz : Nat) (hx : a.eval x = .slice (some ⟨sz, 0, none⟩) q q) (hnew : ∀ (j : Nat) (u : Value), news[j]? = some u → W.cell? ⟨sz, j, none⟩ = some u) (h1 : ∀ u ∈ news, u.oneCell' = true)
    (hn : (n + q) * bytes ≤ 140737488355328) (hn' : n + q ≤ maxLen) (hB : B ≤ W.heap.size)
    (h : ∀ g cap w', w'.ownsRow B e 1 (.slice (some ⟨g, 0, none⟩) (n + q) cap) (n + q) (xs ++ news) → W.grownBy w' v.ownBlock → (v.ownBlock = some g ∨ W.heap.size ≤ g) → Below B W w' → wpList P ops Q rest (a.put o.dst (.slice (some ⟨g, 0, none⟩) (n + q) cap)) w') :
    wpList P ops Q (o :: rest) a W := by
  obtain ⟨i, hi1, hi2, hi3, hi4⟩ := info_parts hi
  refine wpList_append_own_at (P := P) W hgd s x t ho B e i z 1 bytes ht hi1 hi2 hi3 hi4 hzs (by omega) v n xs hs hown ⟨sz, 0, none⟩ q q news hx (by omega) ?_ h1 hn' hn hB ?_
  · intro j u hj
    have hadd : (⟨sz, 0, none⟩ : Addr).add j = ⟨sz, j, none⟩ := by unfold Addr.add; split <;> simp_all
    rw [hadd]
    exact hnew j u hj
  · intro v' w' h2 hg _ h5
    have hb : Below B W w' := below_of_grown hg hB (own_block_ge hown)
    obtain ⟨A, c, rfl, _, _, hA⟩ := own_form h2
    obtain ⟨g, rfl, _, _⟩ := hA (by omega)
    refine h g c w' h2 hg ?_ hb
    simp only [Value.ownBlock] at h5
    rcases h5 with h5 | h5
    · left; exact h5.symm
    · right; simp at h5; omega
/-- the same as a step of a region that draws its order -/
theorem step_app {P : Program} {ops : Array Oper} {o : Oper} {a : Act} {W : World} {K : Act → World → Prop} {Q : Exit → Act → World → Prop} {E : Prop} (hgd : o.guard = none) (s x : Operand) (t : TypeId)
    (ho : o.op = .call { callee := .builtin .append, args := #[s, x], argTypes := #[t, t] })
    (B : Nat) (e : TypeId) (z : Value) (bytes : Nat) (ht : P.underlying t = some (.slice e)) (hi : (P.info? e).map (fun i => (i.zero, i.size, i.bytes)) = some (some z, 1, bytes)) (hzs : z.cells.size = 1)
    (v : Value) (n : Nat) (xs : List Value) (hs : a.eval s = v) (hown : W.ownsRow B e 1 v n xs)
    (news : List Value) (q : Nat) (hl : news.length = q) (hq : 0 < q) (sz : Nat) (hx : a.eval x = .slice (some ⟨sz, 0, none⟩) q q) (hnew : ∀ (j : Nat) (u : Value), news[j]? = some u → W.cell? ⟨sz, j, none⟩ = some u) (h1 : ∀ u ∈ news, u.oneCell' = true)
    (hn : (n + q) * bytes ≤ 140737488355328) (hn' : n + q ≤ maxLen) (hB : B ≤ W.heap.size)
    (hK : ∀ g cap w', w'.ownsRow B e 1 (.slice (some ⟨g, 0, none⟩) (n + q) cap) (n + q) (xs ++ news) → W.grownBy w' v.ownBlock → (v.ownBlock = some g ∨ W.heap.size ≤ g) → Below B W w' → K (a.put o.dst (.slice (some ⟨g, 0, none⟩) (n + q) cap)) w') :
    if Region.wanted o (yielded ops a.tmps) = true then Oper.wp P o a W K Q else E := by
  have hw : Region.wanted o (yielded ops a.tmps) = true := by simp [Region.wanted, hgd]
  rw [if_pos hw]
  obtain ⟨i, hi1, hi2, hi3, hi4⟩ := info_parts hi
  obtain ⟨v', w', hr, h2, hg, _, h5⟩ := run_append_own_at (P := P) W B t o.type e i z 1 bytes ht hi1 hi2 hi3 hi4 hzs (by omega) v n xs hown ⟨sz, 0, none⟩ q q news (by omega) (fun j u hj => by
    have hadd : (⟨sz, 0, none⟩ : Addr).add j = ⟨sz, j, none⟩ := by unfold Addr.add; split <;> simp_all
    rw [hadd]
    exact hnew j u hj) h1 hn' hn hB
  unfold Oper.wp execOp
  simp only [ho, resolve, invoke, builtin, Sem.run_bind, Sem.run_pure, Result.andThen_ok, List.map_toArray, List.map_cons, List.map_nil, hs, hx, hr]
  have hb : Below B W w' := below_of_grown hg hB (own_block_ge hown)
  obtain ⟨A, c, rfl, _, _, hA⟩ := own_form h2
  obtain ⟨g, rfl, _, _⟩ := hA (by omega)
  refine hK g c w' h2 hg ?_ hb
  simp only [Value.ownBlock] at h5
  rcases h5 with h5 | h5
  · left; exact h5.symm
  · right; simp at h5; omega

theorem numQ_int (c : UInt8) : numQ c = (decide ((c.toNat : Int) < 32) || decide (0 ≤ Lib.indexByte [60, 62, 38, 39] c)) :=
  eq_of_beq (byte_every (p := fun c => numQ c == (decide ((c.toNat : Int) < 32) || decide (0 ≤ Lib.indexByte [60, 62, 38, 39] c))) (by decide +kernel) c)
theorem and15 (c : UInt8) : Go.bits BinOp.and IntKind.u8 (c.toNat : Int) 15 = ((c.toNat % 16 : Nat) : Int) :=
  eq_of_beq (byte_every (p := fun c => Go.bits BinOp.and IntKind.u8 (c.toNat : Int) 15 == ((c.toNat % 16 : Nat) : Int)) (by decide +kernel) c)
theorem hex_at (h : Nat) (hp : h < 16) : (⟨#[48, 49, 50, 51, 52, 53, 54, 55, 56, 57, 97, 98, 99, 100, 101, 102]⟩ : ByteArray)[h]'hp = hexQ h := by
  have key : ∀ i : Fin 16, (⟨#[48, 49, 50, 51, 52, 53, 54, 55, 56, 57, 97, 98, 99, 100, 101, 102]⟩ : ByteArray)[i.1]'i.2 = hexQ i.1 := by decide +kernel
  exact key ⟨h, hp⟩
theorem indexNum (c : UInt8) (v : Int) (w : World) (h : Lib.indexByte [60, 62, 38, 39] c = v) :
    Calls Tryd.prog 24 #[.string ⟨#[60, 62, 38, 39]⟩, .int .u8 (c.toNat : Int)] w fun e w' => e = .returned (.int .i64 v) ∧ w = w' := by
  subst h
  refine (Tryd.strings_IndexByte ⟨#[60, 62, 38, 39]⟩ (c.toNat : Int) w).mono fun e w' ⟨h1, h2⟩ => ⟨h1.trans ?_, h2.symm⟩
  rw [Int.toNat_natCast]
  congr 4
  simp
theorem numbered_q (c : UInt8) (r : Bool) (w : World) (hr : numQ c = r) : Calls Tryd.prog 109 #[.int .u8 (c.toNat : Int)] w fun e w' => e = .returned (.bool r) ∧ w = w' := by
  have HR := Lib.hid (hr.symm.trans (numQ_int c)); clear hr
  obtain ⟨v, hv⟩ : ∃ v, Lib.indexByte [60, 62, 38, 39] c = v := ⟨_, rfl⟩
  have HV := Lib.hid hv; clear hv
  by_cases h1 : (c.toNat : Int) < 32
  · go_enter Tryd.func109, Tryd.ntmps109
    go_wp2_with fail
    go_ret
    exact ⟨ret_bool (by rw [HR.out]; simp [h1]), rfl⟩
  · by_cases h2 : v < 0
    · go_enter Tryd.func109, Tryd.ntmps109
      go_wp2_with (go_at_call 24; go_must (refine (indexNum c v _ HV.out).mono ?_); rintro e wx ⟨rfl, rfl⟩)
      go_ret
      exact ⟨ret_bool (by rw [HR.out, HV.out]; simp; omega), rfl⟩
    · go_enter Tryd.func109, Tryd.ntmps109
      go_wp2_with (go_at_call 24; go_must (refine (indexNum c v _ HV.out).mono ?_); rintro e wx ⟨rfl, rfl⟩)
      go_ret
      exact ⟨ret_bool (by rw [HR.out, HV.out]; simp; omega), rfl⟩

set_option maxRecDepth 100000 in
set_option maxHeartbeats 4000000 in
theorem quoteText_q (w0 : World) (bs : List UInt8) (A : Option Addr) (m cp : Nat) (s : ByteArray) (w : World) (hb : Below w0.heap.size w0 w) (own : OwnM w0.heap.size w (.slice A m cp) m bs) (hs : m + 6 * s.size + 2 ≤ 1073741824) :
    Calls Tryd.prog 73 #[.slice A m cp, .string s] w (More w0 (bs ++ quoteL s.data.toList) w) := by
  have HOX := Lib.hid own; clear own
  have HBX := Lib.hid hb; clear hb
  have HKX := Lib.hid (KeepsT.refl w)
  go_enter Tryd.func73, Tryd.ntmps73
  go_wp2_with (at_builtin; have hh := HOX.out.alloc (.cells #[.int .u8 34] 5); have k1 : (m + 1) * 1 ≤ 140737488355328 := (by omega); have k2 : m + 1 ≤ maxLen := (by unfold maxLen; omega); have k3 : w0.heap.size ≤ (World.alloc w (.cells #[.int .u8 34] 5)).heap.size := (by have := HBX.out.size; simp; omega); have k4 := cell_new w [.int .u8 34] 5 (World.heap w).size rfl; go_must (refine wpList_app _ rfl (.tmp 7) (.tmp 8) 71 rfl w0.heap.size 5 (.int .u8 0) 1 Tryd.underlying71 info_byteQ rfl (.slice A m cp) m _ rfl hh [.int .u8 34] 1 rfl (by omega) _ (by first | rfl | simp) k4 (by intro u hu; simp at hu; first | (rcases hu with rfl | rfl <;> rfl) | (subst hu; rfl)) k1 k2 k3 ?_); clear hh k1 k2 k3 k4; intro g1 c1 w1 own1 hg1 hgg1 hb1)
  have HO1 := Lib.hid (ownM_more (cs := [34]) own1 (by simp [byteCells]))
  have HB1 := Lib.hid ((HBX.out.alloc HBX.out.size (.cells #[.int .u8 34] 5)).trans hb1)
  have HK1 := Lib.hid ((HKX.out.trans (KeepsT.alloc _ (.cells #[.int .u8 34] 5))).trans (KeepsT.grown (HOX.out.alloc (.cells #[.int .u8 34] 5)) hg1))
  clear own1 hg1 hgg1 hb1
  clear HOX HBX HKX
  go_loopw [0, 5] (fun t0 t wr => ∃ (k mk : Nat) (Ao : Option Addr) (co : Nat), k ≤ s.size ∧ t = .int .i64 k ∧ t0 = .slice Ao mk co ∧ Hid (OwnM w0.heap.size wr (.slice Ao mk co) mk (bs ++ [34] ++ escL (s.data.toList.take k))) ∧ Hid (Below w0.heap.size w0 wr) ∧ Hid (KeepsT w wr) ∧ mk + 6 * (s.size - k) + 1 ≤ 1073741824) (fun _ t _ => s.size - (intOf t).toNat)
  case atStart => exact ⟨0, m + 1, _, _, Nat.zero_le _, rfl, rfl, (show OwnM _ _ _ _ _ by rw [List.take_zero, escL_nil, List.append_nil]; exact HO1.out), HB1.out, HK1.out, by omega⟩
  case round =>
    obtain ⟨k, mk, Ao, co, hk, rfl, rfl, HOX, HBX, HKX, hmk⟩ := hrel
    by_cases hlt : k < s.size
    · have HE := Lib.hid (escL_take (byteQ hlt))
      have hcb : (s[k].toNat : Int) < 256 := by have := s[k].toNat_lt; omega
      by_cases hq : s[k] = 34 ∨ s[k] = 92
      · have HEs := Lib.hid (show escQ s[k] = [92, s[k]] by unfold escQ; rw [if_pos hq])
        have hx : (s[k].toNat : Int) = 34 ∨ (s[k].toNat : Int) = 92 := by
          rcases hq with h | h <;> rw [h] <;> simp
        clear hq
        rcases hx with hx | hx
        · have t1 : ((s[k].toNat : Int) == 34) = true := by simp [hx]
          have HX := Lib.hid hx; clear hx
          go_wp2_with (at_builtin; have hh := HOX.out.alloc (.cells #[.int .u8 92, .int .u8 (s[k].toNat : Int)] 5); have k1 : (mk + 2) * 1 ≤ 140737488355328 := (by omega); have k2 : mk + 2 ≤ maxLen := (by unfold maxLen; omega); have k3 : w0.heap.size ≤ (World.alloc wr (.cells #[.int .u8 92, .int .u8 (s[k].toNat : Int)] 5)).heap.size := (by have := HBX.out.size; simp; omega); have k4 := cell_new wr [.int .u8 92, .int .u8 (s[k].toNat : Int)] 5 (World.heap wr).size rfl; go_must (refine wpList_app _ rfl (.tmp 30) (.tmp 32) 71 rfl w0.heap.size 5 (.int .u8 0) 1 Tryd.underlying71 info_byteQ rfl (.slice Ao mk co) mk _ rfl hh [.int .u8 92, .int .u8 (s[k].toNat : Int)] 2 rfl (by omega) _ (by first | rfl | simp) k4 (by intro u hu; simp at hu; first | (rcases hu with rfl | rfl <;> rfl) | (subst hu; rfl)) k1 k2 k3 ?_); clear hh k1 k2 k3 k4; intro g5 c5 w5 own5 hg5 hgg5 hb5)
          have HO5 := Lib.hid (ownM_more (cs := [92, s[k]]) own5 (by simp [byteCells]))
          have HB5 := Lib.hid ((HBX.out.alloc HBX.out.size (.cells #[.int .u8 92, .int .u8 (s[k].toNat : Int)] 5)).trans hb5)
          have HK5 := Lib.hid ((HKX.out.trans (KeepsT.alloc _ (.cells #[.int .u8 92, .int .u8 (s[k].toNat : Int)] 5))).trans (KeepsT.grown (HOX.out.alloc (.cells #[.int .u8 92, .int .u8 (s[k].toNat : Int)] 5)) hg5))
          clear own5 hg5 hgg5 hb5
          go_roundw
          case rel => exact ⟨k + 1, mk + 2, _, _, by omega, by go_num, rfl, (show OwnM _ _ _ _ _ by rw [HE.out, HEs.out, ← List.append_assoc]; exact HO5.out), HB5.out, HK5.out, by omega⟩
          case measure => simp [intOf]; omega
        · have t1 : ((s[k].toNat : Int) == 34) = false := by simp [hx]
          have t2 : ((s[k].toNat : Int) == 92) = true := by simp [hx]
          have HX := Lib.hid hx; clear hx
          go_wp2_with (at_builtin; have hh := HOX.out.alloc (.cells #[.int .u8 92, .int .u8 (s[k].toNat : Int)] 5); have k1 : (mk + 2) * 1 ≤ 140737488355328 := (by omega); have k2 : mk + 2 ≤ maxLen := (by unfold maxLen; omega); have k3 : w0.heap.size ≤ (World.alloc wr (.cells #[.int .u8 92, .int .u8 (s[k].toNat : Int)] 5)).heap.size := (by have := HBX.out.size; simp; omega); have k4 := cell_new wr [.int .u8 92, .int .u8 (s[k].toNat : Int)] 5 (World.heap wr).size rfl; go_must (refine wpList_app _ rfl (.tmp 30) (.tmp 32) 71 rfl w0.heap.size 5 (.int .u8 0) 1 Tryd.underlying71 info_byteQ rfl (.slice Ao mk co) mk _ rfl hh [.int .u8 92, .int .u8 (s[k].toNat : Int)] 2 rfl (by omega) _ (by first | rfl | simp) k4 (by intro u hu; simp at hu; first | (rcases hu with rfl | rfl <;> rfl) | (subst hu; rfl)) k1 k2 k3 ?_); clear hh k1 k2 k3 k4; intro g5 c5 w5 own5 hg5 hgg5 hb5)
          have HO5 := Lib.hid (ownM_more (cs := [92, s[k]]) own5 (by simp [byteCells]))
          have HB5 := Lib.hid ((HBX.out.alloc HBX.out.size (.cells #[.int .u8 92, .int .u8 (s[k].toNat : Int)] 5)).trans hb5)
          have HK5 := Lib.hid ((HKX.out.trans (KeepsT.alloc _ (.cells #[.int .u8 92, .int .u8 (s[k].toNat : Int)] 5))).trans (KeepsT.grown (HOX.out.alloc (.cells #[.int .u8 92, .int .u8 (s[k].toNat : Int)] 5)) hg5))
          clear own5 hg5 hgg5 hb5
          go_roundw
          case rel => exact ⟨k + 1, mk + 2, _, _, by omega, by go_num, rfl, (show OwnM _ _ _ _ _ by rw [HE.out, HEs.out, ← List.append_assoc]; exact HO5.out), HB5.out, HK5.out, by omega⟩
          case measure => simp [intOf]; omega
      · have hne : ¬ (s[k].toNat : Int) = 34 ∧ ¬ (s[k].toNat : Int) = 92 := by
          refine ⟨fun h => hq (Or.inl ?_), fun h => hq (Or.inr ?_)⟩
          · apply UInt8.toNat.inj; simpa using (by exact_mod_cast h : s[k].toNat = 34)
          · apply UInt8.toNat.inj; simpa using (by exact_mod_cast h : s[k].toNat = 92)
        have t1 : ((s[k].toNat : Int) == 34) = false := by simp [hne.1]
        have t2 : ((s[k].toNat : Int) == 92) = false := by simp [hne.2]
        clear hne
        cases hn : numQ s[k]
        · have HN := Lib.hid hn
          have HEs := Lib.hid (show escQ s[k] = [s[k]] by unfold escQ; rw [if_neg hq, if_neg (by simp [hn])])
          clear hq hn
          go_wp2_with ((first | (go_at_call 109; go_must (refine (numbered_q _ false _ HN.out).mono ?_); rintro e wx ⟨rfl, rfl⟩) | (at_builtin; have hh := HOX.out.alloc (.cells #[.int .u8 (s[k].toNat : Int)] 5); have k1 : (mk + 1) * 1 ≤ 140737488355328 := (by omega); have k2 : mk + 1 ≤ maxLen := (by unfold maxLen; omega); have k3 : w0.heap.size ≤ (World.alloc wr (.cells #[.int .u8 (s[k].toNat : Int)] 5)).heap.size := (by have := HBX.out.size; simp; omega); have k4 := cell_new wr [.int .u8 (s[k].toNat : Int)] 5 (World.heap wr).size rfl; go_must (refine wpList_app _ rfl (.tmp 19) (.tmp 21) 71 rfl w0.heap.size 5 (.int .u8 0) 1 Tryd.underlying71 info_byteQ rfl (.slice Ao mk co) mk _ rfl hh [.int .u8 (s[k].toNat : Int)] 1 rfl (by omega) _ (by first | rfl | simp) k4 (by intro u hu; simp at hu; first | (rcases hu with rfl | rfl <;> rfl) | (subst hu; rfl)) k1 k2 k3 ?_); clear hh k1 k2 k3 k4; intro g5 c5 w5 own5 hg5 hgg5 hb5)))
          have HO5 := Lib.hid (ownM_more (cs := [s[k]]) own5 (by simp [byteCells]))
          have HB5 := Lib.hid ((HBX.out.alloc HBX.out.size (.cells #[.int .u8 (s[k].toNat : Int)] 5)).trans hb5)
          have HK5 := Lib.hid ((HKX.out.trans (KeepsT.alloc _ (.cells #[.int .u8 (s[k].toNat : Int)] 5))).trans (KeepsT.grown (HOX.out.alloc (.cells #[.int .u8 (s[k].toNat : Int)] 5)) hg5))
          clear own5 hg5 hgg5 hb5
          go_roundw
          case rel => exact ⟨k + 1, mk + 1, _, _, by omega, by go_num, rfl, (show OwnM _ _ _ _ _ by rw [HE.out, HEs.out, ← List.append_assoc]; exact HO5.out), HB5.out, HK5.out, by omega⟩
          case measure => simp [intOf]; omega
        · have HN := Lib.hid hn
          have HEs := Lib.hid (show escQ s[k] = [92, 117, 48, 48, hexQ (s[k].toNat / 16), hexQ (s[k].toNat % 16)] by unfold escQ; rw [if_neg hq, if_pos hn])
          clear hq hn
          go_wp2_with (go_at_call 109; go_must (refine (numbered_q _ true _ HN.out).mono ?_); rintro e wx ⟨rfl, rfl⟩)
          obtain ⟨h, hh⟩ : ∃ h : Nat, s[k].toNat / 16 = h := ⟨_, rfl⟩
          obtain ⟨l, hl⟩ : ∃ l : Nat, s[k].toNat % 16 = l := ⟨_, rfl⟩
          have hh16 : h < 16 := by have := s[k].toNat_lt; omega
          have hl16 : l < 16 := by omega
          have d1 : (s[k].toNat : Int) / 16 = (h : Int) := by omega
          have d2 : Go.bits BinOp.and IntKind.u8 (s[k].toNat : Int) 15 = (l : Int) := by rw [and15, hl]
          have d3 : (h : Int) < 16 := by omega
          have d4 : (l : Int) < 16 := by omega
          have x1 : (⟨#[48, 49, 50, 51, 52, 53, 54, 55, 56, 57, 97, 98, 99, 100, 101, 102]⟩ : ByteArray)[h]'hh16 = hexQ h := hex_at h hh16
          have x2 : (⟨#[48, 49, 50, 51, 52, 53, 54, 55, 56, 57, 97, 98, 99, 100, 101, 102]⟩ : ByteArray)[l]'hl16 = hexQ l := hex_at l hl16
          rw [hh, hl] at HEs
          have HH := Lib.hid hh
          have HL := Lib.hid hl
          clear hh hl
          go_region_law (refine step_app rfl (.tmp 37) (.tmp 44) 71 rfl w0.heap.size 5 (.int .u8 0) 1 Tryd.underlying71 info_byteQ rfl (.slice Ao mk co) mk _ (by simp [Act.eval]) ((own_drew HOX.out).alloc (.cells #[.int .u8 92, .int .u8 117, .int .u8 48, .int .u8 48, .int .u8 ((hexQ h).toNat : Int), .int .u8 ((hexQ l).toNat : Int)] 5)) [.int .u8 92, .int .u8 117, .int .u8 48, .int .u8 48, .int .u8 ((hexQ h).toNat : Int), .int .u8 ((hexQ l).toNat : Int)] 6 rfl (by omega) _ (by simp [Act.eval]) (cell_new _ _ _ _ rfl) (by intro u hu; simp at hu; rcases hu with rfl | rfl | rfl | rfl | rfl | rfl <;> rfl) (by omega) (by unfold maxLen; omega) (by have := HBX.out.size; simp; omega) ?_
                         intro g5 c5 w5 own5 hg5 hgg5 hb5)
          all_goals
            (try go_wp2_with fail)
            have HO5 := Lib.hid (ownM_more (cs := [92, 117, 48, 48, hexQ h, hexQ l]) own5 (by simp [byteCells]))
            have HB5 := Lib.hid (((HBX.out.drew).alloc HBX.out.size (.cells #[.int .u8 92, .int .u8 117, .int .u8 48, .int .u8 48, .int .u8 ((hexQ h).toNat : Int), .int .u8 ((hexQ l).toNat : Int)] 5)).trans hb5)
            have HK5 := Lib.hid ((HKX.out.drew.trans (KeepsT.alloc _ (.cells #[.int .u8 92, .int .u8 117, .int .u8 48, .int .u8 48, .int .u8 ((hexQ h).toNat : Int), .int .u8 ((hexQ l).toNat : Int)] 5))).trans (KeepsT.grown ((own_drew HOX.out).alloc (.cells #[.int .u8 92, .int .u8 117, .int .u8 48, .int .u8 48, .int .u8 ((hexQ h).toNat : Int), .int .u8 ((hexQ l).toNat : Int)] 5)) hg5))
            clear own5 hg5 hgg5 hb5
            go_roundw
            case rel => exact ⟨k + 1, mk + 6, _, _, by omega, by go_num, rfl, (show OwnM _ _ _ _ _ by rw [HE.out, HEs.out, ← List.append_assoc]; exact HO5.out), HB5.out, HK5.out, by omega⟩
            case measure => simp [intOf]; omega
    · have hke : k = s.size := by omega
      have HE := Lib.hid (show escL (s.data.toList.take k) = escL s.data.toList by rw [hke, List.take_of_length_le (by rw [size_toList]; exact Nat.le_refl _)])
      clear hke
      go_wp2_with (at_builtin; have hh := HOX.out.alloc (.cells #[.int .u8 34] 5); have k1 : (mk + 1) * 1 ≤ 140737488355328 := (by omega); have k2 : mk + 1 ≤ maxLen := (by unfold maxLen; omega); have k3 : w0.heap.size ≤ (World.alloc wr (.cells #[.int .u8 34] 5)).heap.size := (by have := HBX.out.size; simp; omega); have k4 := cell_new wr [.int .u8 34] 5 (World.heap wr).size rfl; go_must (refine wpList_app _ rfl (.tmp 46) (.tmp 47) 71 rfl w0.heap.size 5 (.int .u8 0) 1 Tryd.underlying71 info_byteQ rfl (.slice Ao mk co) mk _ rfl hh [.int .u8 34] 1 rfl (by omega) _ (by first | rfl | simp) k4 (by intro u hu; simp at hu; first | (rcases hu with rfl | rfl <;> rfl) | (subst hu; rfl)) k1 k2 k3 ?_); clear hh k1 k2 k3 k4; intro g9 c9 w9 own9 hg9 hgg9 hb9)
      have HO9 := Lib.hid (ownM_more (cs := [34]) own9 (by simp [byteCells]))
      have HB9 := Lib.hid ((HBX.out.alloc HBX.out.size (.cells #[.int .u8 34] 5)).trans hb9)
      have HK9 := Lib.hid ((HKX.out.trans (KeepsT.alloc _ (.cells #[.int .u8 34] 5))).trans (KeepsT.grown (HOX.out.alloc (.cells #[.int .u8 34] 5)) hg9))
      clear own9 hg9 hgg9 hb9
      go_ret
      refine ⟨_, _, _, rfl, ?_, HB9.out, HK9.out⟩
      have h9 := HO9.out
      rw [HE.out] at h9
      have e9 : bs ++ quoteL s.data.toList = bs ++ [34] ++ escL s.data.toList ++ [34] := by simp [quoteL]
      rw [e9]
      exact h9

end Go.Proofs.YtebhbgamdhjdkaaDoor
