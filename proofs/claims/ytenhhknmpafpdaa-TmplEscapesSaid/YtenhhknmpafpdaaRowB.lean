/-
  Rows of bytes of the call's own: append of fresh bytes, also as a step of a region that draws its order; facts on bytes.
-/
import Derived.Test.YtenhhknmpafpdaaOwn
import Derived.Test.YtenhhknmpafpdaaConv
import Derived.Deep.RegionLaw
import Derived.Deep.DeepMust
import Derived.BigQuiet
import Derived.Deep.QuietTactic
import Derived.RegionTactic
import Derived.Lib.AppendStr
import Derived.Laws.Strings2
namespace Go.Proofs.Ytenhhknmpafpdaa
open Go.RowKit Go.Deep

theorem info_byteQ : (Try.prog.info? 5).map (fun i => (i.zero, i.size, i.bytes)) = some (some (.int .u8 0), 1, 1) := by kernel_rfl
abbrev OwnM (B : Nat) (w : World) (v : Value) (m : Nat) (bs : List UInt8) : Prop := w.ownsRow B 5 1 v m (byteCells bs)
theorem ownM_len {B : Nat} {w : World} {v : Value} {m : Nat} {bs : List UInt8} (h : OwnM B w v m bs) : bs.length = m := by
  have := h.1
  simpa [byteCells] using this
theorem ownM_more {B : Nat} {w : World} {v : Value} {m : Nat} {bs cs : List UInt8} {xs : List Value} (h : w.ownsRow B 5 1 v m (byteCells bs ++ xs)) (hx : xs = byteCells cs) : OwnM B w v m (bs ++ cs) := by
  subst hx
  have : byteCells (bs ++ cs) = byteCells bs ++ byteCells cs := by simp [byteCells]
  unfold OwnM
  rw [this]
  exact h
theorem byteCells_one (l : List UInt8) : ∀ u ∈ byteCells l, u.oneCell' = true := by
  intro u hu
  simp only [byteCells, List.mem_map] at hu
  obtain ⟨s, _, rfl⟩ := hu
  rfl

/-- append of fresh elements of one cell each to a slice of the call's own -/
theorem wpList_app {P : Program} {ops : Array Oper} {rest : List Oper} {o : Oper} {a : Act} {Q : Exit → Act → World → Prop} (W : World) (hgd : o.guard = none) (s x : Operand) (t : TypeId)
    (ho : o.op = .call { callee := .builtin .append, args := #[s, x], argTypes := #[t, t] })
    (B : Nat) (e : TypeId) (z : Value) (bytes : Nat) (ht : P.underlying t = some (.slice e)) (hi : (P.info? e).map (fun i => (i.zero, i.size, i.bytes)) = some (some z, 1, bytes)) (hzs : z.cells.size = 1)
    (v : Value) (n : Nat) (xs : List Value) (hs : a.eval s = v) (hown : W.ownsRow B e 1 v n xs)
    (news : List Value) (q : Nat) (hl : news.length = q) (hq : 0 < q) (sz : Nat) (hx : a.eval x = .slice (some ⟨sz, 0, none⟩) q q) (hnew : ∀ (j : Nat) (u : Value), news[j]? = some u → W.cell? ⟨sz, j, none⟩ = some u) (h1 : ∀ u ∈ news, u.oneCell' = true)
    (hn : (n + q) * bytes ≤ 140737488355328) (hn' : n + q ≤ maxLen) (hB : B ≤ W.heap.size)
    (h : ∀ g cap w', w'.ownsRow B e 1 (.slice (some ⟨g, 0, none⟩) (n + q) cap) (n + q) (xs ++ news) → W.grownBy w' v.ownBlock → (v.ownBlock = some g ∨ W.heap.size ≤ g) → Below B W w' → wpList P ops Q rest (a.put o.dst (.slice (some ⟨g, 0, none⟩) (n + q) cap)) w') :
    wpList P ops Q (o :: rest) a W := by
  obtain ⟨i, hi1, hi2, hi3, hi4⟩ := info_parts hi
  refine wpList_append_own_at (P := P) W hgd s x t ho B e i z 1 bytes ht hi1 hi2 hi3 hi4 hzs (by omega) v n xs hs hown ⟨sz, 0, none⟩ q q news hx (by omega) ?_ h1 hn' hn hB ?_
  · intro j u hj
    have hadd : (⟨sz, 0, none⟩ : Addr).add j = ⟨sz, j, none⟩ := by unfold Addr.add; split <;> simp_all
    rw [hadd]
    exact hnew j u hj
  · intro v' w' h2 hg _ h5
    have hb : Below B W w' := below_of_grown hg hB (own_block_ge hown)
    obtain ⟨A, c, rfl, _, _, hA⟩ := own_form h2
    obtain ⟨g, rfl, _, _⟩ := hA (by omega)
    refine h g c w' h2 hg ?_ hb
    simp only [Value.ownBlock] at h5
    rcases h5 with h5 | h5
    · left; exact h5.symm
    · right; simp at h5; omega
/-- the same as a step of a region that draws its order -/
theorem step_app {P : Program} {ops : Array Oper} {o : Oper} {a : Act} {W : World} {K : Act → World → Prop} {Q : Exit → Act → World → Prop} {E : Prop} (hgd : o.guard = none) (s x : Operand) (t : TypeId)
    (ho : o.op = .call { callee := .builtin .append, args := #[s, x], argTypes := #[t, t] })
    (B : Nat) (e : TypeId) (z : Value) (bytes : Nat) (ht : P.underlying t = some (.slice e)) (hi : (P.info? e).map (fun i => (i.zero, i.size, i.bytes)) = some (some z, 1, bytes)) (hzs : z.cells.size = 1)
    (v : Value) (n : Nat) (xs : List Value) (hs : a.eval s = v) (hown : W.ownsRow B e 1 v n xs)
    (news : List Value) (q : Nat) (hl : news.length = q) (hq : 0 < q) (sz : Nat) (hx : a.eval x = .slice (some ⟨sz, 0, none⟩) q q) (hnew : ∀ (j : Nat) (u : Value), news[j]? = some u → W.cell? ⟨sz, j, none⟩ = some u) (h1 : ∀ u ∈ news, u.oneCell' = true)
    (hn : (n + q) * bytes ≤ 140737488355328) (hn' : n + q ≤ maxLen) (hB : B ≤ W.heap.size)
    (hK : ∀ g cap w', w'.ownsRow B e 1 (.slice (some ⟨g, 0, none⟩) (n + q) cap) (n + q) (xs ++ news) → W.grownBy w' v.ownBlock → (v.ownBlock = some g ∨ W.heap.size ≤ g) → Below B W w' → K (a.put o.dst (.slice (some ⟨g, 0, none⟩) (n + q) cap)) w') :
    if Region.wanted o (yielded ops a.tmps) = true then Oper.wp P o a W K Q else E := by
  have hw : Region.wanted o (yielded ops a.tmps) = true := by simp [Region.wanted, hgd]
  rw [if_pos hw]
  obtain ⟨i, hi1, hi2, hi3, hi4⟩ := info_parts hi
  obtain ⟨v', w', hr, h2, hg, _, h5⟩ := run_append_own_at (P := P) W B t o.type e i z 1 bytes ht hi1 hi2 hi3 hi4 hzs (by omega) v n xs hown ⟨sz, 0, none⟩ q q news (by omega) (fun j u hj => by
    have hadd : (⟨sz, 0, none⟩ : Addr).add j = ⟨sz, j, none⟩ := by unfold Addr.add; split <;> simp_all
    rw [hadd]
    exact hnew j u hj) h1 hn' hn hB
  unfold Oper.wp execOp
  simp only [ho, resolve, invoke, builtin, Sem.run_bind, Sem.run_pure, Result.andThen_ok, List.map_toArray, List.map_cons, List.map_nil, hs, hx, hr]
  have hb : Below B W w' := below_of_grown hg hB (own_block_ge hown)
  obtain ⟨A, c, rfl, _, _, hA⟩ := own_form h2
  obtain ⟨g, rfl, _, _⟩ := hA (by omega)
  refine hK g c w' h2 hg ?_ hb
  simp only [Value.ownBlock] at h5
  rcases h5 with h5 | h5
  · left; exact h5.symm
  · right; simp at h5; omega

theorem byte_every {p : UInt8 → Bool} (h : ∀ n : Fin 256, p (UInt8.ofNat n.1) = true) (c : UInt8) : p c = true := by
  have := h ⟨c.toNat, c.toNat_lt⟩
  simpa using this
theorem and15 (c : UInt8) : Go.bits BinOp.and IntKind.u8 (c.toNat : Int) 15 = ((c.toNat % 16 : Nat) : Int) :=
  eq_of_beq (byte_every (p := fun c => Go.bits BinOp.and IntKind.u8 (c.toNat : Int) 15 == ((c.toNat % 16 : Nat) : Int)) (by decide +kernel) c)
theorem byteQ {s : ByteArray} {k : Nat} (hlt : k < s.size) : s.data.toList[k]? = some s[k] := by
  rw [List.getElem?_eq_getElem (by rw [size_toList]; exact hlt)]
  rfl
theorem one_cut (s : ByteArray) (k : Nat) (h : k < s.size) : (s.extract k (k + 1)).data.toList = [s[k]] := by
  rw [Lib.extract_data]
  have hk : k < s.data.toList.length := by rw [size_toList]; exact h
  rw [List.drop_eq_getElem_cons hk, show k + 1 - k = 1 from by omega, List.take_succ_cons, List.take_zero]
  rfl

end Go.Proofs.Ytenhhknmpafpdaa
