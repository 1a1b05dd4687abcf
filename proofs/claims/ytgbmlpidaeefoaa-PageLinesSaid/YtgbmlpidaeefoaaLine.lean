/-
  page.Line: a line that opens a shortcode.
-/
import Derived.Test.YtgbmlpidaeefoaaArgsFault
import Derived.Deep.RegionLaw
import Derived.Laws.ResultCell
namespace Go.Proofs.Ytgbmlpidaeefoaa
open Go.RowKit Go.Deep

/-- append of one element to a slice of the call's own, as a step of a region that draws its order -/
theorem step_push {P : Program} {ops : Array Oper} {o : Oper} {a : Act} {W : World} {K : Act → World → Prop} {Q : Exit → Act → World → Prop} {E : Prop} (hgd : o.guard = none) (s x : Operand) (t : TypeId)
    (ho : o.op = .call { callee := .builtin .append, args := #[s, x], argTypes := #[t, t] })
    (B : Nat) (e : TypeId) (z : Value) (k bytes : Nat) (ht : P.underlying t = some (.slice e)) (hi : (P.info? e).map (fun i => (i.zero, i.size, i.bytes)) = some (some z, k, bytes)) (hzs : z.cells.size = k) (hk : 0 < k)
    (v : Value) (n : Nat) (xs : List Value) (hs : a.eval s = v) (hown : W.ownsRow B e k v n xs)
    (news : List Value) (hl : news.length = k) (sz : Nat) (hx : a.eval x = .slice (some ⟨sz, 0, none⟩) 1 1) (hnew : ∀ (j : Nat) (u : Value), news[j]? = some u → W.cell? ⟨sz, j, none⟩ = some u) (h1 : ∀ u ∈ news, u.oneCell' = true)
    (hn : (n + 1) * bytes ≤ 140737488355328) (hn' : n + 1 ≤ maxLen) (hB : B ≤ W.heap.size)
    (hK : ∀ g cap w', w'.ownsRow B e k (.slice (some ⟨g, 0, none⟩) (n + 1) cap) (n + 1) (xs ++ news) → W.grownBy w' v.ownBlock → (v.ownBlock = some g ∨ W.heap.size ≤ g) → Below B W w' → K (a.put o.dst (.slice (some ⟨g, 0, none⟩) (n + 1) cap)) w') :
    if Region.wanted o (yielded ops a.tmps) = true then Oper.wp P o a W K Q else E := by
  have hw : Region.wanted o (yielded ops a.tmps) = true := by simp [Region.wanted, hgd]
  rw [if_pos hw]
  obtain ⟨i, hi1, hi2, hi3, hi4⟩ := info_parts hi
  obtain ⟨v', w', hr, h2, hg, _, h5⟩ := run_append_own_at (P := P) W B t o.type e i z k bytes ht hi1 hi2 hi3 hi4 hzs hk v n xs hown ⟨sz, 0, none⟩ 1 1 news (by omega) (fun j u hj => by
    have hadd : (⟨sz, 0, none⟩ : Addr).add j = ⟨sz, j, none⟩ := by unfold Addr.add; split <;> simp_all
    rw [hadd]
    exact hnew j u hj) h1 hn' hn hB
  unfold Oper.wp execOp
  simp only [ho, resolve, invoke, builtin, Sem.run_bind, Sem.run_pure, Result.andThen_ok, List.map_toArray, List.map_cons, List.map_nil, hs, hx, hr]
  have hb : Below B W w' := below_of_grown hg hB (own_block_ge hown)
  obtain ⟨A, c, rfl, _, _, hA⟩ := own_form h2
  obtain ⟨g, rfl, _, _⟩ := hA (by omega)
  refine hK g c w' h2 hg ?_ hb
  simp only [Value.ownBlock] at h5
  rcases h5 with h5 | h5
  · left; exact h5.symm
  · right; simp at h5; omega

/-- a block of cells -/
def CX (w : World) (n : Nat) (t : TypeId) (cs : Array Value) : Prop := w.heap[n]? = some (.cells cs t (0, 0))
section
variable {w w' : World} {n : Nat} {t : TypeId} {cs : Array Value}
theorem CX.lt (h : CX w n t cs) : n < w.heap.size := (Array.getElem?_eq_some_iff.1 h).1
theorem CX.c (h : CX w n t cs) (i : Nat) : w.cell? ⟨n, i, none⟩ = cs[i]? := cell_of_row w n i cs t (0, 0) h
theorem CX.f (h : CX w n t cs) (i : Nat) : w.frozen? ⟨n, i, none⟩ = false := frozen_of_row w n i cs t h
theorem CX.sh (h : CX w n t cs) : w.shape? n = some (t, cs.size) := by simp [World.shape?, show w.heap[n]? = _ from h]
theorem CX.put (h : CX w n t cs) (i : Nat) (v : Value) : CX (w.setCell ⟨n, i, none⟩ v) n t (cs.setIfInBounds i v) := heap_setCell_same w n i cs t v h
theorem CX.other {row : Option Nat} (h : CX w n t cs) (hg : w.grownBy w' row) (hne : some n ≠ row) : CX w' n t cs := (hg.block n h.lt hne).trans h
theorem CX.set {m o : Nat} (h : CX w n t cs) (hne : n ≠ m) (v : Value) : CX (w.setCell ⟨m, o, none⟩ v) n t cs := h.other (grown_set w m o v) (fun e => hne (Option.some.inj e))
theorem CX.alloc (h : CX w n t cs) (o : Obj) : CX (w.alloc o) n t cs := h.other (World.grownBy_alloc w o none) (by simp)
theorem CX.below (h : CX w n t cs) (hb : Below w.heap.size w w') : CX w' n t cs := (hb.block n h.lt).trans h
theorem CX.new (w : World) (cs : Array Value) (t : TypeId) : CX (w.alloc (.cells cs t)) w.heap.size t cs := heap_alloc_new w _
end

/-- a part with nothing in it -/
def partZ : Array Value := #[.string ⟨#[]⟩, .string ⟨#[]⟩, .slice none 0 0, .bool false, .slice none 0 0]
/-- a part of a name and arguments -/
def partC (nm : ByteArray) (av : Value) (e : Bool) : Array Value := #[.string ⟨#[]⟩, .string nm, av, .bool e, .slice none 0 0]

theorem part_done {fn : Func} {a : Act} {W : World} {Post : Ending → World → Prop} {n : Nat} {cs : Array Value} {code : Int} (hfn : fn.results = #[.cell 2 25, .tmp 3]) (hb : CX W n 25 cs) (hs : cs.size = 5)
    (hp : a.tmps.getD 2 undef = .pointer (some ⟨n, 0, none⟩)) (hc : a.tmps.getD 3 undef = .int .i64 code) (hd : a.defers = []) (h : Post (.returned (.tuple #[.agg cs, .int .i64 code])) W) : bodyPost Try.prog fn Post .ret a W := by
  refine bodyPost_ret ?_ hd h
  rw [results_cell_tmp hfn, hp, hc]
  have h2 := run_loadVar_row (P := Try.prog) W n 25 25 cs (0, 0) _ hb Try.underlying25 rfl (by rw [hs]; kernel_rfl)
  simp [asAddr, h2, Result.andThen]

/-- what a line gives: the error, the name, the arguments, whether there is a closing line -/
noncomputable def lineOut (b : List UInt8) : Int × List UInt8 × List ArgL × Bool :=
  match lineF b with
  | none => (8, [], [], false)
  | some (n, l, e) => if argsE2 l = 0 then (0, n, l, e) else (argsE2 l, [], [], false)

theorem lineOut_none {b : List UInt8} (h : lineF b = none) : lineOut b = (8, [], [], false) := by unfold lineOut; rw [h]
theorem lineOut_ok {b n : List UInt8} {l : List ArgL} {e : Bool} (h : lineF b = some (n, l, e)) (h2 : argsE2 l = 0) : lineOut b = (0, n, l, e) := by unfold lineOut; rw [h]; simp only; rw [if_pos h2]
theorem lineOut_bad {b n : List UInt8} {l : List ArgL} {e : Bool} (h : lineF b = some (n, l, e)) (h2 : ¬ argsE2 l = 0) : lineOut b = (argsE2 l, [], [], false) := by unfold lineOut; rw [h]; simp only; rw [if_neg h2]

/-- a part and an error are returned -/
def PartPost (o : Int × List UInt8 × List ArgL × Bool) (w : World) (e : Ending) (w' : World) : Prop :=
  ∃ (nm : ByteArray) (av : Value), e = .returned (.tuple #[.agg (partC nm av o.2.2.2), .int .i64 o.1]) ∧ nm.data.toList = o.2.1 ∧ ArgsAt w' av o.2.2.1 ∧ Below w.heap.size w w'

theorem argsAt_nil (w : World) : ArgsAt w (.slice none 0 0) [] := ⟨none, 0, 0, 0, rfl, Nat.le_refl _, by simp [maxLen], fun h => absurd rfl h, fun i a ha => by simp at ha⟩
theorem PartPost.empty {w w' : World} {c : Int} (hb : Below w.heap.size w w') : PartPost (c, [], [], false) w (.returned (.tuple #[.agg partZ, .int .i64 c])) w' := ⟨⟨#[]⟩, _, rfl, rfl, argsAt_nil _, hb⟩

/-- how far a line has been read -/
def LRel (b : List UInt8) (nm : List UInt8) (z : ByteArray) (bd : Bool) (args : List ArgL) : Prop :=
  (bd = true ∧ lineF b = none) ∨ (bd = false ∧ lineF b = (argsF z.data.toList).map fun x => (nm, args ++ x.1, x.2))
theorem LRel.bad {b nm : List UInt8} {z : ByteArray} {args : List ArgL} (h : LRel b nm z true args) : lineF b = none := by
  rcases h with ⟨_, h⟩ | ⟨h, _⟩
  · exact h
  · cases h
theorem LRel.eq {b nm : List UInt8} {z : ByteArray} {args : List ArgL} (h : LRel b nm z false args) : lineF b = (argsF z.data.toList).map fun x => (nm, args ++ x.1, x.2) := by
  rcases h with ⟨h, _⟩ | ⟨_, h⟩
  · cases h
  · exact h
theorem LRel.fin {b nm : List UInt8} {z : ByteArray} {args : List ArgL} {K : List UInt8} {e : Bool} (h : LRel b nm z false args) (hK : isEnd K e) (hz : z.data.toList = K) : lineF b = some (nm, args, e) := by
  rw [h.eq, hz, args_end hK]
  simp
theorem argsF_step {z r : List UInt8} (h1 : ¬ z = [32, 62, 125]) (h2 : ¬ z = [32, 47, 62, 125]) (ht : take1 32 z = some r) : argsF z = match argF r with
      | none => none
      | some (a, t) => if t.length < z.length then (argsF t).map fun x => (a :: x.1, x.2) else none := by
  rw [argsF, if_neg h1, if_neg h2, ht]
  rfl
theorem argsF_stop {z : List UInt8} (h1 : ¬ z = [32, 62, 125]) (h2 : ¬ z = [32, 47, 62, 125]) (ht : take1 32 z = none) : argsF z = none := by
  rw [argsF, if_neg h1, if_neg h2, ht]
theorem LRel.stop {b nm : List UInt8} {z : ByteArray} {args : List ArgL} (h : LRel b nm z false args) (h1 : ¬ z.data.toList = [32, 62, 125]) (h2 : ¬ z.data.toList = [32, 47, 62, 125]) (ht : take1 32 z.data.toList = none) : lineF b = none := by
  rw [h.eq, argsF_stop h1 h2 ht]; rfl
theorem LRel.step {b nm : List UInt8} {z z1 z2 a1 a2 : ByteArray} {bd : Bool} {args : List ArgL} (h : LRel b nm z false args) (h1 : ¬ z.data.toList = [32, 62, 125]) (h2 : ¬ z.data.toList = [32, 47, 62, 125]) (ht : take1 32 z.data.toList = some z1.data.toList)
    (ha : (bd = true ∧ argF z1.data.toList = none) ∨ (bd = false ∧ argF z1.data.toList = some ((a1.data.toList, a2.data.toList), z2.data.toList))) : LRel b nm z2 bd (args ++ [(a1.data.toList, a2.data.toList)]) ∧ (bd = false → z2.size + 1 ≤ z.size) := by
  have hl := take1_len ht
  rcases ha with ⟨rfl, ha⟩ | ⟨rfl, ha⟩
  · exact ⟨Or.inl ⟨rfl, by rw [h.eq, argsF_step h1 h2 ht, ha]; rfl⟩, fun e => by cases e⟩
  · have hl2 := argF_len ha
    rw [size_toList, size_toList] at hl2
    refine ⟨Or.inr ⟨rfl, ?_⟩, fun _ => by omega⟩
    rw [h.eq, argsF_step h1 h2 ht, ha]
    simp only
    rw [if_pos (by rw [size_toList, size_toList]; omega)]
    cases argsF z2.data.toList with
    | none => rfl
    | some x => simp

/-- the loop's measure -/
def lineM (w : World) (g : Nat) : Nat := match w.cell? ⟨g, 1, none⟩ with
  | some (.bool true) => 0
  | _ => 1 + sizeAt w g
theorem lineM_bad {w : World} {g : Nat} {s : ByteArray} (h : RD w g s true) : lineM w g = 0 := by unfold lineM; rw [h.c1]
theorem lineM_good {w : World} {g : Nat} {s : ByteArray} (h : RD w g s false) : lineM w g = 1 + s.size := by unfold lineM; rw [h.c1]; simp only; rw [sizeAt_of h]

set_option maxHeartbeats 1000000 in
theorem line_no (s : ByteArray) (w : World) (h : Lib.hasPrefix s.data.toList [123, 60, 32] = false ∨ Lib.hasPrefix s.data.toList [123, 60, 32, 47] = true) : Calls Try.prog 7 #[.string s] w (PartPost (7, [], [], false) w) := by
  have key : ∀ (b1 b2 : Bool), Lib.hasPrefix s.data.toList (⟨#[123, 60, 32]⟩ : ByteArray).data.toList = b1 → Lib.hasPrefix s.data.toList (⟨#[123, 60, 32, 47]⟩ : ByteArray).data.toList = b2 → (b1 = false ∨ b2 = true) → Calls Try.prog 7 #[.string s] w (PartPost (7, [], [], false) w) := by
    intro b1 b2 h1 h2 h3
    have H1 := Lib.hid h1; clear h1
    have H2 := Lib.hid h2; clear h2
    cases b1
    · go_enter Try.func7, Try.ntmps7
      go_wp2_with (first
        | (go_at_call 20; refine (hasPrefix_r _ _ false _ H1.out).mono ?_; rintro e w1 ⟨rfl, rfl⟩))
      exact part_done rfl (CX.new w _ _) rfl rfl rfl rfl (PartPost.empty ((Below.refl _ _).alloc (Nat.le_refl _) _))
    · obtain rfl : b2 = true := h3.elim (fun h => by cases h) id
      go_enter Try.func7, Try.ntmps7
      go_wp2_with (first
        | (go_at_call 20; refine (hasPrefix_r _ _ true _ H1.out).mono ?_; rintro e w1 ⟨rfl, rfl⟩)
        | (go_at_call 20; refine (hasPrefix_r _ _ true _ H2.out).mono ?_; rintro e w1 ⟨rfl, rfl⟩))
      exact part_done rfl (CX.new w _ _) rfl rfl rfl rfl (PartPost.empty ((Below.refl _ _).alloc (Nat.le_refl _) _))
  exact key _ _ rfl rfl h

theorem info_arg : (Try.prog.info? 49).map (fun i => (i.zero, i.size, i.bytes)) = some (some (.agg #[.string ⟨#[]⟩, .string ⟨#[]⟩]), 2, 32) := by kernel_rfl

theorem argCells_single (a b : ByteArray) : argCells [(a.data.toList, b.data.toList)] = [.string a, .string b] := by simp only [argCells, mk_toList]
theorem own_keepB {w w' : World} {B k : Nat} {e : TypeId} {v : Value} {n : Nat} {xs : List Value} (h : w.ownsRow B e k v n xs) (hb : Below w.heap.size w w') : w'.ownsRow B e k v n xs :=
  h.kept (row := none) ⟨hb.os, hb.tape, hb.output, hb.size, fun k hk _ => hb.block k hk⟩ (by cases v.ownBlock <;> simp)
theorem two_strs (a b : ByteArray) : ∀ u ∈ [Value.string a, Value.string b], u.oneCell' = true := by
  intro u hu
  simp only [List.mem_cons, List.not_mem_nil, or_false] at hu
  rcases hu with rfl | rfl <;> rfl
theorem own_ne3 {w : World} {B g k : Nat} {e : TypeId} {v : Value} {n : Nat} {xs : List Value} (h : w.ownsRow B e k v n xs) (hg : g < B) : v.ownBlock = none ∨ v.ownBlock ≠ some g := by
  cases hv : v.ownBlock with
  | none => exact Or.inl rfl
  | some k =>
    have := own_block_ge h k hv
    right
    intro e
    cases e
    omega
theorem own_ne4 {w : World} {B g k : Nat} {e : TypeId} {v : Value} {n : Nat} {xs : List Value} (h : w.ownsRow B e k v n xs) (hg : g < B) : some g ≠ v.ownBlock := by
  intro e
  have := own_block_ge h g e.symm
  omega

set_option maxRecDepth 100000 in
set_option maxHeartbeats 4000000 in
theorem line_yes (s b : ByteArray) (w : World) (h1 : Lib.hasPrefix s.data.toList [123, 60, 32] = true) (h2 : Lib.hasPrefix s.data.toList [123, 60, 32, 47] = false) (hb : s.extract 3 s.size = b) (hs : s.size ≤ 20000) (hs3 : 3 ≤ s.size) :
    Calls Try.prog 7 #[.string s] w (PartPost (lineOut b.data.toList) w) := by
  have H1 := Lib.hid (show Lib.hasPrefix s.data.toList (⟨#[123, 60, 32]⟩ : ByteArray).data.toList = true from h1); clear h1
  have H2 := Lib.hid (show Lib.hasPrefix s.data.toList (⟨#[123, 60, 32, 47]⟩ : ByteArray).data.toList = false from h2); clear h2
  have hbs : b.size ≤ s.size := by rw [← hb, ByteArray.size_extract]; omega
  go_enter Try.func7, Try.ntmps7
  go_wp2_with (first
    | (go_at_call 20; refine (hasPrefix_r _ _ true _ H1.out).mono ?_; rintro e w1 ⟨rfl, rfl⟩)
    | (go_at_call 20; refine (hasPrefix_r _ _ false _ H2.out).mono ?_; rintro e w1 ⟨rfl, rfl⟩))
  -- THE WALK FROM THE NAME ON
  obtain ⟨w2, hw2⟩ : ∃ w2, (w.alloc (.cells #[.string ⟨#[]⟩, .string ⟨#[]⟩, .slice none 0 0, .bool false, .slice none 0 0] 25)).alloc (.cells #[.string b, .bool false] 46) = w2 := ⟨_, rfl⟩
  have HR := Lib.hid (show RD w2 (w.heap.size + 1) b false by rw [← hw2]; have := heap_alloc_new (w.alloc (.cells #[.string ⟨#[]⟩, .string ⟨#[]⟩, .slice none 0 0, .bool false, .slice none 0 0] 25)) (.cells #[.string b, .bool false] 46); simp only [World.size_alloc] at this; exact this)
  have HZ := Lib.hid (show CX w2 w.heap.size 25 partZ by rw [← hw2]; exact (CX.new w _ _).alloc _)
  have HB := Lib.hid (show Below w.heap.size w w2 by rw [← hw2]; exact ((Below.refl _ _).alloc (Nat.le_refl _) _).alloc (by simp) _)
  rw [hw2]
  clear hw2
  obtain ⟨n, hn⟩ : ∃ n, w.heap.size = n := ⟨_, rfl⟩
  rw [hn] at HR HZ
  rw [hn]
  have hnw : w.heap.size ≤ n := by omega
  clear hn
  refine (name_any (n + 1) b false w2 HR.out (by omega)).mono ?_
  rintro e w3 ⟨nm, z0, rfl, hnm, hz0, hr3, hg3⟩
  have hz0l := drop_len hz0
  have HL0 := Lib.hid (show LRel b.data.toList nm.data.toList z0 (nameBad nm.size false) [] by
    unfold LRel lineF
    rw [← hnm, ← hz0, size_toList]
    by_cases hk : 1 ≤ nm.size ∧ nm.size ≤ 20
    · right
      exact ⟨(nameBad_f hk).symm, by rw [if_pos hk]; simp⟩
    · left
      exact ⟨(nameBad_t hk).symm, by rw [if_neg hk]⟩)
  have HR3 := Lib.hid hr3
  have HZ3 := Lib.hid (HZ.out.other hg3 (by intro e; have := Option.some.inj e; omega))
  have HB3 := Lib.hid (HB.out.grown hg3 HB.out.size (fun k hk => by cases hk; omega))
  have hnl := HR3.out.lt
  clear HR HZ HB hr3 hg3 hnm hz0
  go_wp2_with fail
  obtain ⟨np, hnp⟩ : ∃ np, w3.heap.size = np := ⟨_, rfl⟩
  obtain ⟨w4, hw4⟩ : ∃ w4, w3.alloc (.cells #[.string ⟨#[]⟩, .string nm, .slice none 0 0, .bool false, .slice none 0 0] 25) = w4 := ⟨_, rfl⟩
  have HR4 := Lib.hid (show RD w4 (n + 1) z0 (nameBad nm.size false) by rw [← hw4]; exact HR3.out.other (World.grownBy_alloc w3 _ none) (by simp))
  have HZ4 := Lib.hid (show CX w4 n 25 partZ by rw [← hw4]; exact HZ3.out.alloc _)
  have HP4 := Lib.hid (show CX w4 np 25 (partC nm (.slice none 0 0) false) by rw [← hw4, ← hnp]; exact CX.new w3 _ _)
  have HB4 := Lib.hid (show Below w.heap.size w w4 by rw [← hw4]; exact HB3.out.alloc HB3.out.size _)
  rw [hw4, hnp]
  rw [hnp] at hnl
  clear hw4 hnp HR3 HZ3 HB3
  have hs4 : np + 1 ≤ w4.heap.size := HP4.out.lt
  go_loopw [] (fun wr => ∃ (z : ByteArray) (bd : Bool) (m : Nat) (Ao : Option Addr) (co : Nat) (args : List ArgL), (bd = false → m + z.size ≤ 20000) ∧ Hid (args.length = m) ∧ Hid (LRel b.data.toList nm.data.toList z bd args) ∧ Hid (RD wr (n + 1) z bd) ∧ Hid (CX wr n 25 partZ) ∧ Hid (CX wr np 25 (partC nm (.slice Ao m co) false)) ∧ Hid (wr.ownsRow (np + 1) 49 2 (.slice Ao m co) m (argCells args)) ∧ Hid (Below w.heap.size w wr) ∧ np + 1 ≤ wr.heap.size) (fun wr => lineM wr (n + 1))
  case atStart => exact ⟨z0, _, 0, none, 0, [], fun _ => by omega, rfl, HL0, HR4, HZ4, HP4, World.ownsRow_nil _ _ _ _, HB4, hs4⟩
  case round =>
    clear HR4 HZ4 HP4 HB4 hs4 HL0
    obtain ⟨z, bd, m, Ao, co, args, hm, HLn, HL, HR, HZ, HP, HO, HB, hs4⟩ := hrel
    have r0 := HR.out.c0
    have r1 := HR.out.c1
    have g0 := HR.out.f0
    have g1 := HR.out.f1
    have gs := HR.out.sh
    cases bd
    · have hm := hm rfl
      by_cases he1 : z.data.toList = [32, 62, 125]
      · have f1 : z.toList = [32, 62, 125] := by rw [Go.ByteArray.toList_eq]; exact he1
        have f2 : z.size = 3 := by rw [← size_toList, he1]; rfl
        have HF := Lib.hid (HL.out.fin (Or.inl ⟨rfl, rfl⟩) he1)
        have HO2 := Lib.hid (HO.out.kept (grown_set wr np 3 (.bool true)) (own_ne3 HO.out (by omega)))
        have HZ2 := Lib.hid (HZ.out.set (by omega : n ≠ np) (o := 3) (.bool true))
        have HP2 := Lib.hid (HP.out.put 3 (.bool true))
        have HB2 := Lib.hid (HB.out.setCell (p := ⟨np, 3, none⟩) (show w.heap.size ≤ np by omega) (.bool true))
        clear he1
        have pc2 := HP.out.c 2
        have pf2 := HP.out.f 2
        have pc3 := HP.out.c 3
        have pf3 := HP.out.f 3
        have psh := HP.out.sh
        simp only [partC] at pc2 pc3 psh
        have yc0 := HZ2.out.c 0
        have yf0 := HZ2.out.f 0
        have yc1 := HZ2.out.c 1
        have yf1 := HZ2.out.f 1
        have yc2 := HZ2.out.c 2
        have yf2 := HZ2.out.f 2
        have yc3 := HZ2.out.c 3
        have yf3 := HZ2.out.f 3
        have yc4 := HZ2.out.c 4
        have yf4 := HZ2.out.f 4
        have ysh := HZ2.out.sh
        simp only [partZ] at yc0 yc1 yc2 yc3 yc4 ysh
        by_cases hbig : 12 < m
        · have HX := Lib.hid (lineOut_bad HF.out (by rw [argsE2_big (by rw [HLn.out]; exact hbig)]; decide))
          have HX2 := Lib.hid (argsE2_big (l := args) (by rw [HLn.out]; exact hbig))
          go_wp2_with fail
          rw [HX.out, HX2.out]
          exact part_done rfl (((((HZ2.out.put 0 _).put 1 _).put 2 _).put 3 _).put 4 _) rfl rfl rfl rfl (PartPost.empty ((((((HB2.out).setCell (p := ⟨n, _, none⟩) hnw _).setCell (p := ⟨n, _, none⟩) hnw _).setCell (p := ⟨n, _, none⟩) hnw _).setCell (p := ⟨n, _, none⟩) hnw _).setCell (p := ⟨n, _, none⟩) hnw _))
        · have HBg := Lib.hid (show ¬ 12 < args.length by rw [HLn.out]; exact hbig)
          clear yc0 yc1 yc2 yc3 yc4 yf0 yf1 yf2 yf3 yf4 ysh
          go_wp2_with fail
          all_goals first
            | (exfalso; omega)
            | skip
          clear pc2 pc3 pf2 pf3 psh r0 r1 g0 g1 gs
          refine (argsFault_any args _ _ (ArgsAt.of_own HO2.out)).mono ?_
          rintro e w5 ⟨rfl, hb5⟩
          have HZ5 := Lib.hid (HZ2.out.below hb5)
          have HP5 := Lib.hid (HP2.out.below hb5)
          have HO5 := Lib.hid (own_keepB HO2.out hb5)
          have HB5 := Lib.hid (HB2.out.trans (hb5.mono HB2.out.size))
          have hs5 := hb5.size
          simp only [World.size_setCell] at hs5
          clear hb5 HZ2 HP2 HO2 HB2 HZ HP HO HB HR
          obtain ⟨ev, hev⟩ : ∃ ev, argsE args = ev := ⟨_, rfl⟩
          rw [hev]
          have HEv := Lib.hid (show argsE2 args = ev by rw [argsE2_small HBg.out, hev])
          clear hev
          have pc0 := HP5.out.c 0
          have pf0 := HP5.out.f 0
          have pc1 := HP5.out.c 1
          have pf1 := HP5.out.f 1
          have pc2 := HP5.out.c 2
          have pf2 := HP5.out.f 2
          have pc3 := HP5.out.c 3
          have pf3 := HP5.out.f 3
          have pc4 := HP5.out.c 4
          have pf4 := HP5.out.f 4
          have psh := HP5.out.sh
          simp only [partC] at pc0 pc1 pc2 pc3 pc4 psh
          have yc0 := HZ5.out.c 0
          have yf0 := HZ5.out.f 0
          have yc1 := HZ5.out.c 1
          have yf1 := HZ5.out.f 1
          have yc2 := HZ5.out.c 2
          have yf2 := HZ5.out.f 2
          have yc3 := HZ5.out.c 3
          have yf3 := HZ5.out.f 3
          have yc4 := HZ5.out.c 4
          have yf4 := HZ5.out.f 4
          have ysh := HZ5.out.sh
          simp only [partZ] at yc0 yc1 yc2 yc3 yc4 ysh
          simp only [Array.setIfInBounds] at pc0 pc1 pc2 pc3 pc4
          by_cases hev0 : ev = 0
          · subst hev0
            have HX := Lib.hid (lineOut_ok HF.out HEv.out)
            go_wp2_with fail
            rw [HX.out]
            refine part_done (cs := partC nm (.slice Ao m co) true) rfl (((((HZ5.out.put 0 _).put 1 _).put 2 _).put 3 _).put 4 _) rfl rfl rfl rfl ?_
            exact ⟨nm, _, rfl, rfl, ArgsAt.of_own (((((HO5.out.kept (grown_set _ n 0 _) (own_ne3 HO5.out (by omega))).kept (grown_set _ n 1 _) (own_ne3 HO5.out (by omega))).kept (grown_set _ n 2 _) (own_ne3 HO5.out (by omega))).kept (grown_set _ n 3 _) (own_ne3 HO5.out (by omega))).kept (grown_set _ n 4 _) (own_ne3 HO5.out (by omega))), (((((HB5.out).setCell (p := ⟨n, _, none⟩) hnw _).setCell (p := ⟨n, _, none⟩) hnw _).setCell (p := ⟨n, _, none⟩) hnw _).setCell (p := ⟨n, _, none⟩) hnw _).setCell (p := ⟨n, _, none⟩) hnw _⟩
          · have hne : (ev == 0) = false := by simpa using hev0
            have hne2 : (ev != 0) = true := by simpa using hev0
            have HX := Lib.hid (lineOut_bad HF.out (by rw [HEv.out]; exact hev0))
            clear hev0
            go_wp2_with fail
            rw [HX.out, HEv.out]
            exact part_done rfl (((((HZ5.out.put 0 _).put 1 _).put 2 _).put 3 _).put 4 _) rfl rfl rfl rfl (PartPost.empty ((((((HB5.out).setCell (p := ⟨n, _, none⟩) hnw _).setCell (p := ⟨n, _, none⟩) hnw _).setCell (p := ⟨n, _, none⟩) hnw _).setCell (p := ⟨n, _, none⟩) hnw _).setCell (p := ⟨n, _, none⟩) hnw _))
      by_cases he2 : z.data.toList = [32, 47, 62, 125]
      · have f1 : z.toList = [32, 47, 62, 125] := by rw [Go.ByteArray.toList_eq]; exact he2
        have f2 : z.size = 4 := by rw [← size_toList, he2]; rfl
        have HF := Lib.hid (HL.out.fin (Or.inr ⟨rfl, rfl⟩) he2)
        have HO2 := Lib.hid (HO.out.kept (grown_set wr np 3 (.bool false)) (own_ne3 HO.out (by omega)))
        have HZ2 := Lib.hid (HZ.out.set (by omega : n ≠ np) (o := 3) (.bool false))
        have HP2 := Lib.hid (HP.out.put 3 (.bool false))
        have HB2 := Lib.hid (HB.out.setCell (p := ⟨np, 3, none⟩) (show w.heap.size ≤ np by omega) (.bool false))
        clear he2
        have pc2 := HP.out.c 2
        have pf2 := HP.out.f 2
        have pc3 := HP.out.c 3
        have pf3 := HP.out.f 3
        have psh := HP.out.sh
        simp only [partC] at pc2 pc3 psh
        have yc0 := HZ2.out.c 0
        have yf0 := HZ2.out.f 0
        have yc1 := HZ2.out.c 1
        have yf1 := HZ2.out.f 1
        have yc2 := HZ2.out.c 2
        have yf2 := HZ2.out.f 2
        have yc3 := HZ2.out.c 3
        have yf3 := HZ2.out.f 3
        have yc4 := HZ2.out.c 4
        have yf4 := HZ2.out.f 4
        have ysh := HZ2.out.sh
        simp only [partZ] at yc0 yc1 yc2 yc3 yc4 ysh
        by_cases hbig : 12 < m
        · have HX := Lib.hid (lineOut_bad HF.out (by rw [argsE2_big (by rw [HLn.out]; exact hbig)]; decide))
          have HX2 := Lib.hid (argsE2_big (l := args) (by rw [HLn.out]; exact hbig))
          go_wp2_with fail
          rw [HX.out, HX2.out]
          exact part_done rfl (((((HZ2.out.put 0 _).put 1 _).put 2 _).put 3 _).put 4 _) rfl rfl rfl rfl (PartPost.empty ((((((HB2.out).setCell (p := ⟨n, _, none⟩) hnw _).setCell (p := ⟨n, _, none⟩) hnw _).setCell (p := ⟨n, _, none⟩) hnw _).setCell (p := ⟨n, _, none⟩) hnw _).setCell (p := ⟨n, _, none⟩) hnw _))
        · have HBg := Lib.hid (show ¬ 12 < args.length by rw [HLn.out]; exact hbig)
          clear yc0 yc1 yc2 yc3 yc4 yf0 yf1 yf2 yf3 yf4 ysh
          go_wp2_with fail
          all_goals first
            | (exfalso; omega)
            | skip
          clear pc2 pc3 pf2 pf3 psh r0 r1 g0 g1 gs
          refine (argsFault_any args _ _ (ArgsAt.of_own HO2.out)).mono ?_
          rintro e w5 ⟨rfl, hb5⟩
          have HZ5 := Lib.hid (HZ2.out.below hb5)
          have HP5 := Lib.hid (HP2.out.below hb5)
          have HO5 := Lib.hid (own_keepB HO2.out hb5)
          have HB5 := Lib.hid (HB2.out.trans (hb5.mono HB2.out.size))
          have hs5 := hb5.size
          simp only [World.size_setCell] at hs5
          clear hb5 HZ2 HP2 HO2 HB2 HZ HP HO HB HR
          obtain ⟨ev, hev⟩ : ∃ ev, argsE args = ev := ⟨_, rfl⟩
          rw [hev]
          have HEv := Lib.hid (show argsE2 args = ev by rw [argsE2_small HBg.out, hev])
          clear hev
          have pc0 := HP5.out.c 0
          have pf0 := HP5.out.f 0
          have pc1 := HP5.out.c 1
          have pf1 := HP5.out.f 1
          have pc2 := HP5.out.c 2
          have pf2 := HP5.out.f 2
          have pc3 := HP5.out.c 3
          have pf3 := HP5.out.f 3
          have pc4 := HP5.out.c 4
          have pf4 := HP5.out.f 4
          have psh := HP5.out.sh
          simp only [partC] at pc0 pc1 pc2 pc3 pc4 psh
          have yc0 := HZ5.out.c 0
          have yf0 := HZ5.out.f 0
          have yc1 := HZ5.out.c 1
          have yf1 := HZ5.out.f 1
          have yc2 := HZ5.out.c 2
          have yf2 := HZ5.out.f 2
          have yc3 := HZ5.out.c 3
          have yf3 := HZ5.out.f 3
          have yc4 := HZ5.out.c 4
          have yf4 := HZ5.out.f 4
          have ysh := HZ5.out.sh
          simp only [partZ] at yc0 yc1 yc2 yc3 yc4 ysh
          simp only [Array.setIfInBounds] at pc0 pc1 pc2 pc3 pc4
          by_cases hev0 : ev = 0
          · subst hev0
            have HX := Lib.hid (lineOut_ok HF.out HEv.out)
            go_wp2_with fail
            rw [HX.out]
            refine part_done (cs := partC nm (.slice Ao m co) false) rfl (((((HZ5.out.put 0 _).put 1 _).put 2 _).put 3 _).put 4 _) rfl rfl rfl rfl ?_
            exact ⟨nm, _, rfl, rfl, ArgsAt.of_own (((((HO5.out.kept (grown_set _ n 0 _) (own_ne3 HO5.out (by omega))).kept (grown_set _ n 1 _) (own_ne3 HO5.out (by omega))).kept (grown_set _ n 2 _) (own_ne3 HO5.out (by omega))).kept (grown_set _ n 3 _) (own_ne3 HO5.out (by omega))).kept (grown_set _ n 4 _) (own_ne3 HO5.out (by omega))), (((((HB5.out).setCell (p := ⟨n, _, none⟩) hnw _).setCell (p := ⟨n, _, none⟩) hnw _).setCell (p := ⟨n, _, none⟩) hnw _).setCell (p := ⟨n, _, none⟩) hnw _).setCell (p := ⟨n, _, none⟩) hnw _⟩
          · have hne : (ev == 0) = false := by simpa using hev0
            have hne2 : (ev != 0) = true := by simpa using hev0
            have HX := Lib.hid (lineOut_bad HF.out (by rw [HEv.out]; exact hev0))
            clear hev0
            go_wp2_with fail
            rw [HX.out, HEv.out]
            exact part_done rfl (((((HZ5.out.put 0 _).put 1 _).put 2 _).put 3 _).put 4 _) rfl rfl rfl rfl (PartPost.empty ((((((HB5.out).setCell (p := ⟨n, _, none⟩) hnw _).setCell (p := ⟨n, _, none⟩) hnw _).setCell (p := ⟨n, _, none⟩) hnw _).setCell (p := ⟨n, _, none⟩) hnw _).setCell (p := ⟨n, _, none⟩) hnw _))
      have f1 : (z.toList == [32, 62, 125]) = false := by rw [Go.ByteArray.toList_eq]; simpa using he1
      have f2 : (z.toList == [32, 47, 62, 125]) = false := by rw [Go.ByteArray.toList_eq]; simpa using he2
      have HE1 := Lib.hid he1
      have HE2 := Lib.hid he2
      clear he1 he2
      go_wp2_with fail
      clear f1 f2 r0 r1 g0 g1 gs
      refine (take_r (n + 1) z false 32 wr HR.out).mono ?_
      rintro e w5 (⟨rfl, ht, rfl⟩ | ⟨z1, rfl, ht, hr5, hg5⟩)
      · have HX := Lib.hid (lineOut_none (HL.out.stop HE1.out HE2.out ht))
        clear ht
        have r1 := HR.out.c1
        have g1 := HR.out.f1
        have gs := HR.out.sh
        have HZ2 := Lib.hid (HZ.out.set (by omega : n ≠ n + 1) (o := 1) (.bool true))
        have yc0 := HZ2.out.c 0
        have yf0 := HZ2.out.f 0
        have yc1 := HZ2.out.c 1
        have yf1 := HZ2.out.f 1
        have yc2 := HZ2.out.c 2
        have yf2 := HZ2.out.f 2
        have yc3 := HZ2.out.c 3
        have yf3 := HZ2.out.f 3
        have yc4 := HZ2.out.c 4
        have yf4 := HZ2.out.f 4
        have ysh := HZ2.out.sh
        simp only [partZ] at yc0 yc1 yc2 yc3 yc4 ysh
        go_wp2_with fail
        rw [HX.out]
        exact part_done rfl (((((HZ2.out.put 0 _).put 1 _).put 2 _).put 3 _).put 4 _) rfl rfl rfl rfl (PartPost.empty (((((((HB.out.setCell (p := ⟨n + 1, 1, none⟩) (show w.heap.size ≤ n + 1 by omega) _).setCell (p := ⟨n, 0, none⟩) hnw _).setCell (p := ⟨n, 1, none⟩) hnw _).setCell (p := ⟨n, 2, none⟩) hnw _).setCell (p := ⟨n, 3, none⟩) hnw _).setCell (p := ⟨n, 4, none⟩) hnw _)))
      · have HT := Lib.hid ht; clear ht
        have hz1 := take1_len HT.out
        have HR5 := Lib.hid hr5
        have HZ5 := Lib.hid (HZ.out.other hg5 (by intro e; have := Option.some.inj e; omega))
        have HP5 := Lib.hid (HP.out.other hg5 (by intro e; cases e; omega))
        have HO5 := Lib.hid (HO.out.kept hg5 (own_ne3 HO.out (by omega)))
        have HB5 := Lib.hid (HB.out.grown hg5 HB.out.size (fun k hk => by cases hk; omega))
        have hs5 : np + 1 ≤ w5.heap.size := HP5.out.lt
        have HM := Lib.hid (lineM_good HR.out)
        clear hr5 hg5 HR HZ HP HO HB
        have pc2 := HP5.out.c 2
        have pf2 := HP5.out.f 2
        have psh := HP5.out.sh
        simp only [partC] at pc2 psh
        go_wp2_with fail
        go_region_law (first
          | (refine step_push rfl (.tmp 48) (.tmp 51) 22 rfl (np + 1) 49 _ 2 32 Try.underlying22 info_arg rfl (by omega) (.slice Ao m co) m _ rfl (own_alloc HO6.out _) [.string a1, .string a2] rfl _ rfl (cell_new w6 [.string a1, .string a2] 49 w6.heap.size rfl) (two_strs a1 a2) (by omega) (by unfold maxLen; omega) (by simp; omega) ?_
             intro gg c1 w7 own7 hg7 hgg7 hb7
             have HP7 := Lib.hid ((HP6.out.alloc (.cells #[.string a1, .string a2] 49)).other hg7 (own_ne4 HO6.out (by omega)))
             have t2 := HP7.out.c 2
             have t3 := HP7.out.f 2
             have t4 := HP7.out.sh
             simp only [partC] at t2 t4)
          | (go_simp
             go_at_call 23
             refine (arg_any (n + 1) z1 _ ?_ (by omega)).mono ?_
             exact HR5.out
             rintro e w6 ⟨a1, a2, z2, b2, rfl, hr6, hg6, ha⟩
             have HP6 := Lib.hid (show CX w6 np 25 (partC nm (.slice Ao m co) false) from CX.other (w := w5.drew) HP5.out hg6 (by intro e; cases e; omega))
             have HO6 := Lib.hid (World.ownsRow.kept (w := w5.drew) HO5.out hg6 (own_ne3 HO5.out (by omega)))
             have hs6 : np + 1 ≤ w6.heap.size := HP6.out.lt
             have u5 := HP6.out.lt
             have u2 := HP6.out.c 2
             have u3 := HP6.out.f 2
             have u4 := HP6.out.sh
             simp only [partC] at u2 u4))
        all_goals
          (try go_wp2_with fail)
          obtain ⟨hl1, hl2⟩ := HL.out.step HE1.out HE2.out HT.out ha
          have hgA := World.grownBy_alloc w6 (.cells #[.string a1, .string a2] 49) none
          have hrF := ((hr6.other hgA (by simp)).other hg7 (own_ne4 HO6.out (by omega))).set (by omega : n + 1 ≠ np) (o := 2) (.slice (some ⟨gg, 0, none⟩) (m + 1) c1)
          have hwn : w.heap.size ≤ w6.heap.size := by omega
          go_roundw
          case rel =>
            exact ⟨z2, b2, m + 1, some ⟨gg, 0, none⟩, c1, args ++ [(a1.data.toList, a2.data.toList)], fun e => by have := hl2 e; omega, Lib.hid (by rw [List.length_append, HLn.out]; rfl), Lib.hid hl1, Lib.hid hrF,
              Lib.hid ((((CX.other (w := w5.drew) HZ5.out hg6 (by intro e; have := Option.some.inj e; omega)).alloc _).other hg7 (own_ne4 HO6.out (by omega))).set (by omega) _), Lib.hid (HP7.out.put 2 _),
              Lib.hid (by rw [argCells_append, argCells_single]; exact own7.kept (grown_set w7 np 2 _) (own_ne3 own7 (by omega))),
              Lib.hid ((((HB5.out.drew.grown hg6 HB5.out.size (fun k hk => by cases hk; omega)).alloc hwn _).trans (hb7.mono (by omega))).setCell (p := ⟨np, 2, none⟩) (show w.heap.size ≤ np by omega) _),
              by have := HP7.out.lt; simp [World.setCell]; omega⟩
          case measure =>
            rw [HM.out]
            cases b2
            · rw [lineM_good hrF]; have := hl2 rfl; omega
            · rw [lineM_bad hrF]; omega
    · have HX := Lib.hid (lineOut_none HL.out.bad)
      have yc0 := HZ.out.c 0
      have yf0 := HZ.out.f 0
      have yc1 := HZ.out.c 1
      have yf1 := HZ.out.f 1
      have yc2 := HZ.out.c 2
      have yf2 := HZ.out.f 2
      have yc3 := HZ.out.c 3
      have yf3 := HZ.out.f 3
      have yc4 := HZ.out.c 4
      have yf4 := HZ.out.f 4
      have ysh := HZ.out.sh
      simp only [partZ] at yc0 yc1 yc2 yc3 yc4 ysh
      go_wp2_with fail
      rw [HX.out]
      exact part_done rfl (((((HZ.out.put 0 _).put 1 _).put 2 _).put 3 _).put 4 _) rfl rfl rfl rfl (PartPost.empty (((((HB.out.setCell (p := ⟨n, 0, none⟩) hnw _).setCell (p := ⟨n, 1, none⟩) hnw _).setCell (p := ⟨n, 2, none⟩) hnw _).setCell (p := ⟨n, 3, none⟩) hnw _).setCell (p := ⟨n, 4, none⟩) hnw _))

end Go.Proofs.Ytgbmlpidaeefoaa
