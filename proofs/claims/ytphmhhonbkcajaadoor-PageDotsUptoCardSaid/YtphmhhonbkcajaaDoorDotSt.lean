/-
  What the loops of page.Dot and mastref1.DotOf have in memory.
-/
import Derived.Test.YtphmhhonbkcajaaDoorDotPlain
import Derived.Test.YtphmhhonbkcajaaDoorRowVals
import Derived.Test.YtphmhhonbkcajaaDoorRegInv
import Derived.Test.YtphmhhonbkcajaaDoorNames2
namespace Go.Proofs.YtphmhhonbkcajaaDoor
open Go.RowKit Go.Deep

/-- arguments as they lie -/
def ArgsPAt (w : World) (v : Value) (l : List ArgP) : Prop :=
  ∃ (A : Option Addr) (c b o : Nat), v = .slice A l.length c ∧ l.length ≤ c ∧ c ≤ maxLen ∧ (l ≠ [] → A = some ⟨b, o, none⟩) ∧
    ∀ i x, l[i]? = some x → (w.cell? ⟨b, o + i * 2, none⟩ = some (.string x.1) ∧ w.cell? ⟨b, o + i * 2 + 1, none⟩ = some (.string x.2)) ∧ x.1.size ≤ maxLen ∧ x.2.size ≤ maxLen
theorem ArgsPAt.keep {w w' : World} {v : Value} {l : List ArgP} (h : ArgsPAt w v l) (k : Keeps w w') : ArgsPAt w' v l := by
  obtain ⟨A, c, b, o, h1, h2, h3, h4, h5⟩ := h
  exact ⟨A, c, b, o, h1, h2, h3, h4, fun i x hi => ⟨⟨k _ _ (h5 i x hi).1.1, k _ _ (h5 i x hi).1.2⟩, (h5 i x hi).2⟩⟩

/-- values without items and keys, as they stand in a row -/
def P0 (v : Val) : PartV := ⟨v, .slice none 0 0, .slice none 0 0⟩
def rowVC (l : List Val) : List Value := flatV (l.map P0)
theorem rowVC_snoc (l : List Val) (v : Val) : rowVC (l ++ [v]) = rowVC l ++ cellsV v (.slice none 0 0) (.slice none 0 0) := by
  unfold rowVC; rw [List.map_append, flatV_append]; rfl
def zeroVC : Array Value := #[.int .i64 0, .bool false, .int .i64 0, .string ⟨#[]⟩, .slice none 0 0, .slice none 0 0]
def argsC (A : Option Addr) (m c : Nat) : Array Value := #[.int .i64 5, .bool false, .int .i64 0, .string ⟨#[]⟩, .slice A m c, .slice none 0 0]
def namedC (A : Option Addr) (m c : Nat) (B : Option Addr) (k d : Nat) : Array Value := #[.int .i64 6, .bool false, .int .i64 0, .string ⟨#[]⟩, .slice A m c, .slice B k d]
def partC (tx nm : ByteArray) (A : Option Addr) (m c : Nat) (en : Bool) (A2 : Option Addr) (m2 c2 : Nat) : Array Value := #[.string tx, .string nm, .slice A m c, .bool en, .slice A2 m2 c2]

theorem own_agreeR {w w' : World} {B K : Nat} {e : TypeId} {v : Value} {n : Nat} {xs : List Value} (h : w.ownsRow B e K v n xs) (hb : ∀ g, v.ownBlock = some g → w'.heap[g]? = w.heap[g]?) : w'.ownsRow B e K v n xs := by
  rcases h.2 with ⟨rfl, h0⟩ | ⟨g, cap, cur, rfl, hB, hg, hnc, hm, hsz, htake⟩
  · exact ⟨h.1, Or.inl ⟨rfl, h0⟩⟩
  · exact ⟨h.1, Or.inr ⟨g, cap, cur, rfl, hB, (hb g rfl).trans hg, hnc, hm, hsz, htake⟩⟩
theorem own_belowR {w w' : World} {B K : Nat} {e : TypeId} {v : Value} {n : Nat} {xs : List Value} (h : w.ownsRow B e K v n xs) (hb : Below w.heap.size w w') : w'.ownsRow B e K v n xs := own_agreeR h fun g hg => hb.block g (h.lt g hg).2
theorem own_typeR {w : World} {B K n g : Nat} {e : TypeId} {v : Value} {xs : List Value} (h : w.ownsRow B e K v n xs) (hg : v.ownBlock = some g) : ∃ cs, CB w g e cs := by
  rcases h.2 with ⟨rfl, h0⟩ | ⟨g', cap, cur, rfl, hB, hc, hrest⟩
  · cases hg
  · injection hg with hg
    subst hg
    exact ⟨_, hc⟩
/-- a row where a row of another type grows -/
theorem own_keepR {w w' : World} {B K n B2 K2 n2 : Nat} {e e2 : TypeId} {v v2 : Value} {xs ys : List Value} (h : w.ownsRow B e K v n xs) (hr : w.ownsRow B2 e2 K2 v2 n2 ys) (hg : w.grownBy w' v2.ownBlock) (hne : e ≠ e2) : w'.ownsRow B e K v n xs :=
  own_agreeR h fun g hb => hg.block g (h.lt g hb).2 (fun e3 => by
    obtain ⟨cs, hc⟩ := own_typeR h hb
    obtain ⟨cs2, hc2⟩ := own_typeR hr e3.symm
    have h9 := hc.symm.trans hc2
    simp at h9
    exact hne h9.2)
theorem own_notmap {w : World} {B K n b : Nat} {e : TypeId} {v : Value} {xs : List Value} (h : w.ownsRow B e K v n xs) (hb : ∃ es clock, w.heap[b]? = some (.map es clock)) : v.ownBlock ≠ some b := fun e2 => by
  obtain ⟨cs, hc⟩ := own_typeR h e2
  obtain ⟨es, cl, hm⟩ := hb
  have := hc.symm.trans hm
  cases this
theorem own_mapTurnR {w w' : World} {B K n b : Nat} {e : TypeId} {v : Value} {xs : List Value} (h : w.ownsRow B e K v n xs) (hb : ∃ es clock, w.heap[b]? = some (.map es clock)) (ht : w.mapTurned w' b) : w'.ownsRow B e K v n xs :=
  own_agreeR h fun g hg => ht.grown.block g (h.lt g hg).2 (fun e3 => by
    have := Option.some.inj e3
    subst this
    exact own_notmap h hb hg)
theorem cb_notmap {w : World} {n b : Nat} {t : TypeId} {cs : Array Value} (h : CB w n t cs) (hb : ∃ es clock, w.heap[b]? = some (.map es clock)) : n ≠ b := fun e => by
  subst e
  obtain ⟨es, cl, hm⟩ := hb
  have := (show w.heap[n]? = _ from h).symm.trans hm
  cases this
theorem CB.mapTurn {w w' : World} {n b : Nat} {t : TypeId} {cs : Array Value} (h : CB w n t cs) (hb : ∃ es clock, w.heap[b]? = some (.map es clock)) (ht : w.mapTurned w' b) : CB w' n t cs :=
  h.other ht.grown (fun e => cb_notmap h hb (Option.some.inj e))
theorem CB.drewD {w : World} {n : Nat} {t : TypeId} {cs : Array Value} (h : CB w n t cs) : CB w.drew n t cs := h.below (Below.refl _ _).drew

theorem valT_ne : (35 : TypeId) ≠ 9 := by decide

/-- what page.Dot has in memory once k arguments are passed -/
structure DotSt (w0 : World) (n : Nat) (pc : Array Value) (l : List ArgP) (k : Nat) (Ao : Option Addr) (mk co : Nat) (Bo : Option Addr) (nk cn : Nat) (wr : World) : Prop where
  hn : w0.heap.size = n
  hb : Below w0.heap.size w0 wr
  hp : CB wr n 25 pc
  hr : CB wr (n + 1) 35 zeroVC
  ha : CB wr (n + 2) 35 (argsC Ao mk co)
  hd : CB wr (n + 3) 35 (namedC none 0 0 Bo nk cn)
  hm : SMap Tryd.prog 9 9 wr (n + 4) k (valF (l.take k))
  ho : wr.ownsRow (n + 5) 35 6 (.slice Ao mk co) mk (rowVC (unN (l.take k)))
  hk : wr.ownsRow (n + 5) 9 1 (.slice Bo nk cn) nk (strCells (canon (nmL (l.take k))))
  h1 : mk = (unN (l.take k)).length
  h2 : nk = (canon (nmL (l.take k))).length
namespace DotSt
variable {w0 : World} {n : Nat} {pc : Array Value} {l : List ArgP} {k : Nat} {Ao : Option Addr} {mk co : Nat} {Bo : Option Addr} {nk cn : Nat} {w w' : World}
theorem below (h : DotSt w0 n pc l k Ao mk co Bo nk cn w) (hb : Below w.heap.size w w') : DotSt w0 n pc l k Ao mk co Bo nk cn w' :=
  ⟨h.hn, h.hb.trans (hb.mono h.hb.size), h.hp.below hb, h.hr.below hb, h.ha.below hb, h.hd.below hb, h.hm.below hb, own_belowR h.ho hb, own_belowR h.hk hb, h.h1, h.h2⟩
theorem size (h : DotSt w0 n pc l k Ao mk co Bo nk cn w) : n + 5 ≤ w.heap.size := by have := h.hm.lt; omega
theorem m_le (h : DotSt w0 n pc l k Ao mk co Bo nk cn w) : mk ≤ k := by
  have h1 := unN_len (l.take k)
  have h2 := List.length_take_le k l
  have := h.h1
  omega
theorem n_le (h : DotSt w0 n pc l k Ao mk co Bo nk cn w) : nk ≤ k := by
  have h1 := nmL_len (l.take k)
  have h2 := List.length_take_le k l
  have h3 := canon_len (nmL (l.take k))
  have := h.h2
  omega
/-- a value without a name has come in -/
theorem bare {a : ArgP} {g c : Nat} {w9 : World} (h : DotSt w0 n pc l k Ao mk co Bo nk cn w) (hx : l[k]? = some a) (hb : bareA a = true)
    (own9 : w9.ownsRow (n + 5) 35 6 (.slice (some ⟨g, 0, none⟩) (mk + 1) c) (mk + 1) (rowVC (unN (l.take k)) ++ cellsV (vStr a.2) (.slice none 0 0) (.slice none 0 0)))
    (hg : w.grownBy w9 (Value.slice Ao mk co).ownBlock) (hb9 : Below (n + 5) w w9) :
    DotSt w0 n pc l (k + 1) (some ⟨g, 0, none⟩) (mk + 1) c Bo nk cn (w9.setCell ⟨n + 2, 4, none⟩ (.slice (some ⟨g, 0, none⟩) (mk + 1) c)) := by
  have hne : ∀ b, b < n + 5 → some b ≠ (Value.slice Ao mk co).ownBlock := fun b hb e => by have := (h.ho.lt b e.symm).1; omega
  have hgs := grown_setB w9 (n + 2) 4 (.slice (some ⟨g, 0, none⟩) (mk + 1) c)
  have hlow : ∀ {B K m : Nat} {e : TypeId} {v : Value} {xs : List Value}, w9.ownsRow B e K v m xs → n + 5 ≤ B → v.ownBlock = none ∨ v.ownBlock ≠ some (n + 2) := fun ho hB => Or.inr (fun e => by have := (ho.lt _ e).1; omega)
  have hk9 := own_keepR h.hk h.ho hg (Ne.symm valT_ne)
  have hsz := h.size
  have hh1 := h.h1
  have hh2 := h.h2
  have hmm := h.hm.kept hg (hne _ (by omega))
  have hhn := h.hn
  refine ⟨h.hn, ((h.hb.trans (hb9.mono (by omega))).setB (by omega) 4 _), (h.hp.other hg (hne _ (by omega))).setOther (by omega) _, (h.hr.other hg (hne _ (by omega))).setOther (by omega) _, ?_, (h.hd.other hg (hne _ (by omega))).setOther (by omega) _, ?_, ?_, ?_, ?_, ?_⟩
  · exact (h.ha.other hg (hne _ (by omega))).put 4 _
  · rw [valF_bare hx hb]
    exact (hmm.kept hgs (fun e => by have := Option.some.inj e; omega)).mono (by omega)
  · rw [unN_bare hx hb, rowVC_snoc]
    exact own9.kept hgs (hlow own9 (Nat.le_refl _))
  · rw [← canon_bare hx hb]
    exact hk9.kept hgs (hlow hk9 (Nat.le_refl _))
  · rw [unN_bare hx hb, List.length_append, ← hh1]; rfl
  · rw [← canon_bare hx hb]; exact hh2
/-- a name that was there -/
theorem old {a : ArgP} {x : List UInt8} (h : DotSt w0 n pc l k Ao mk co Bo nk cn w) (hx : l[k]? = some a) (hb : bareA a = false) (hv : valF (l.take k) a.1.data.toList = some x) : DotSt w0 n pc l (k + 1) Ao mk co Bo nk cn w :=
  ⟨h.hn, h.hb, h.hp, h.hr, h.ha, h.hd, by rw [valF_old hx hv]; exact h.hm.mono (by omega), by rw [unN_named hx hb]; exact h.ho, by rw [← canon_old hx hb hv]; exact h.hk, by rw [unN_named hx hb]; exact h.h1, by rw [← canon_old hx hb hv]; exact h.h2⟩
/-- a new name: the map has been turned, the name's row has grown -/
theorem new {a : ArgP} {B1 : Option Addr} {n1 c1 : Nat} {w1 w2 : World} (h : DotSt w0 n pc l k Ao mk co Bo nk cn w) (hx : l[k]? = some a) (hb : bareA a = false) (hv : valF (l.take k) a.1.data.toList = none)
    (hm1 : SMap Tryd.prog 9 9 w1 (n + 4) (k + 1) (putF (valF (l.take k)) a.1.data.toList a.2.data.toList)) (ht : w.mapTurned w1 (n + 4))
    (hn1 : n1 = (canon (nmL (l.take (k + 1)))).length) (own2 : w2.ownsRow (n + 5) 9 1 (.slice B1 n1 c1) n1 (strCells (canon (nmL (l.take (k + 1)))))) (hg2 : w1.grownBy w2 (Value.slice Bo nk cn).ownBlock) :
    DotSt w0 n pc l (k + 1) Ao mk co B1 n1 c1 (w2.setCell ⟨n + 3, 5, none⟩ (.slice B1 n1 c1)) := by
  have hne : ∀ b, b < n + 5 → some b ≠ (Value.slice Bo nk cn).ownBlock := fun b hb e => by have := (h.hk.lt b e.symm).1; omega
  have hmb := h.hm.block
  have hk1 := own_mapTurnR h.hk hmb ht
  have ho1 := own_mapTurnR h.ho hmb ht
  have ho2 := own_keepR ho1 hk1 hg2 valT_ne
  have hgs := grown_setB w2 (n + 3) 5 (.slice B1 n1 c1)
  have hsz := h.size
  have hhn := h.hn
  have hs1 : w.heap.size ≤ w1.heap.size := ht.grown.size
  refine ⟨h.hn, ?_, ?_, ?_, ?_, ?_, ?_, ?_, ?_, ?_, hn1⟩
  · refine Below.setB ?_ (by omega) 5 _
    exact (h.hb.trans (turned_below ht (by omega) (by omega))).grown hg2 (by omega) (fun j hj => by have := (h.hk.lt j hj).1; omega)
  · exact ((h.hp.mapTurn hmb ht).other hg2 (hne _ (by omega))).setOther (by omega) _
  · exact ((h.hr.mapTurn hmb ht).other hg2 (hne _ (by omega))).setOther (by omega) _
  · exact ((h.ha.mapTurn hmb ht).other hg2 (hne _ (by omega))).setOther (by omega) _
  · exact ((h.hd.mapTurn hmb ht).other hg2 (hne _ (by omega))).put 5 _
  · rw [valF_new hx hb hv]
    exact (hm1.kept hg2 (hne _ (by omega))).setCell (by simp) _
  · rw [unN_named hx hb]
    exact ho2.kept hgs (Or.inr (fun e => by have := (ho2.lt _ e).1; omega))
  · exact own2.kept hgs (Or.inr (fun e => by have := (own2.lt _ e).1; omega))
  · rw [unN_named hx hb]; exact h.h1
end DotSt

/-- what page.Dot has in memory once the values of j names are passed; K: where the loop began -/
structure DotS2 (w0 : World) (n : Nat) (pc : Array Value) (l : List ArgP) (K j : Nat) (Ao : Option Addr) (mk co : Nat) (Bo : Option Addr) (nk cn : Nat) (Co : Option Addr) (m2 c2 : Nat) (wr : World) : Prop where
  hn : w0.heap.size = n
  hK : n + 5 ≤ K
  hKw : K ≤ wr.heap.size
  hb : Below w0.heap.size w0 wr
  hp : CB wr n 25 pc
  hr : CB wr (n + 1) 35 zeroVC
  ha : CB wr (n + 2) 35 (argsC Ao mk co)
  hd : CB wr (n + 3) 35 (namedC Co m2 c2 Bo nk cn)
  hm : SMap Tryd.prog 9 9 wr (n + 4) l.length (valF l)
  ho : wr.ownsRow (n + 5) 35 6 (.slice Ao mk co) mk (rowVC (unN l))
  hk : wr.ownsRow (n + 5) 9 1 (.slice Bo nk cn) nk (strCells (canon (nmL l)))
  hi : wr.ownsRow K 35 6 (.slice Co m2 c2) m2 (rowVC (itN l ((canon (nmL l)).take j)))
  hoK : ∀ b, (Value.slice Ao mk co).ownBlock = some b → b < K
  h1 : mk = (unN l).length
  h2 : nk = (canon (nmL l)).length
  h3 : m2 = j
theorem DotSt.done {w0 : World} {n : Nat} {pc : Array Value} {l : List ArgP} {k : Nat} {Ao : Option Addr} {mk co : Nat} {Bo : Option Addr} {nk cn : Nat} {w : World} (h : DotSt w0 n pc l k Ao mk co Bo nk cn w) (hk : l.length ≤ k) (hk2 : k ≤ l.length) :
    DotS2 w0 n pc l w.heap.size 0 Ao mk co Bo nk cn none 0 0 w := by
  have e : l.take k = l := List.take_of_length_le hk
  obtain rfl : k = l.length := by omega
  have a1 := h.hm
  have a2 := h.ho
  have a3 := h.hk
  have a4 := h.h1
  have a5 := h.h2
  rw [e] at a1 a2 a3 a4 a5
  exact ⟨h.hn, h.size, Nat.le_refl _, h.hb, h.hp, h.hr, h.ha, h.hd, a1, a2, a3, World.ownsRow_nil _ _ _ _, fun b hb => (h.ho.lt b hb).2, a4, a5, rfl⟩
namespace DotS2
variable {w0 : World} {n : Nat} {pc : Array Value} {l : List ArgP} {K j : Nat} {Ao : Option Addr} {mk co : Nat} {Bo : Option Addr} {nk cn : Nat} {Co : Option Addr} {m2 c2 : Nat} {w w' : World}
theorem below (h : DotS2 w0 n pc l K j Ao mk co Bo nk cn Co m2 c2 w) (hb : Below w.heap.size w w') : DotS2 w0 n pc l K j Ao mk co Bo nk cn Co m2 c2 w' :=
  ⟨h.hn, h.hK, Nat.le_trans h.hKw hb.size, h.hb.trans (hb.mono h.hb.size), h.hp.below hb, h.hr.below hb, h.ha.below hb, h.hd.below hb, h.hm.below hb, own_belowR h.ho hb, own_belowR h.hk hb, own_belowR h.hi hb, h.hoK, h.h1, h.h2, h.h3⟩
theorem push {s : Str} {g c : Nat} {w9 : World} (h : DotS2 w0 n pc l K j Ao mk co Bo nk cn Co m2 c2 w) (hx : (canon (nmL l))[j]? = some s)
    (own9 : w9.ownsRow K 35 6 (.slice (some ⟨g, 0, none⟩) (m2 + 1) c) (m2 + 1) (rowVC (itN l ((canon (nmL l)).take j)) ++ cellsV (vStr (str0 ((valF l s).getD []))) (.slice none 0 0) (.slice none 0 0)))
    (hg : w.grownBy w9 (Value.slice Co m2 c2).ownBlock) (hb9 : Below K w w9) :
    DotS2 w0 n pc l K (j + 1) Ao mk co Bo nk cn (some ⟨g, 0, none⟩) (m2 + 1) c (w9.setCell ⟨n + 3, 4, none⟩ (.slice (some ⟨g, 0, none⟩) (m2 + 1) c)) := by
  have hK := h.hK
  have hne : ∀ b, b < K → some b ≠ (Value.slice Co m2 c2).ownBlock := fun b hb e => by have := (h.hi.lt b e.symm).1; omega
  have hgs := grown_setB w9 (n + 3) 4 (.slice (some ⟨g, 0, none⟩) (m2 + 1) c)
  have hk9 := own_keepR h.hk h.hi hg (Ne.symm valT_ne)
  have ho9 := h.ho.kept hg (by
    cases hc : (Value.slice Ao mk co).ownBlock with
    | none => exact Or.inl rfl
    | some b => exact Or.inr (hne b (h.hoK b hc)))
  have hhn := h.hn
  have h3 := h.h3
  have hKw := h.hKw
  refine ⟨h.hn, h.hK, ?_, ((h.hb.trans (hb9.mono (by omega))).setB (by omega) 4 _), (h.hp.other hg (hne _ (by omega))).setOther (by omega) _, (h.hr.other hg (hne _ (by omega))).setOther (by omega) _, (h.ha.other hg (hne _ (by omega))).setOther (by omega) _, ?_, ?_, ?_, ?_, ?_, h.hoK, h.h1, h.h2, by omega⟩
  · have := hb9.size; simp [World.setCell]; omega
  · exact (h.hd.other hg (hne _ (by omega))).put 4 _
  · exact (h.hm.kept hg (hne _ (by omega))).setCell (by simp) _
  · exact ho9.kept hgs (Or.inr (fun e => by have := (ho9.lt _ e).1; omega))
  · exact hk9.kept hgs (Or.inr (fun e => by have := (hk9.lt _ e).1; omega))
  · rw [take_snoc hx, show itN l ((canon (nmL l)).take j ++ [s]) = itN l ((canon (nmL l)).take j) ++ [vStr (str0 ((valF l s).getD []))] by unfold itN; rw [List.map_append]; rfl, rowVC_snoc]
    exact own9.kept hgs (Or.inr (fun e => by have := (own9.lt _ e).1; omega))
end DotS2

/-- values of strings alone, out of a row of them -/
theorem vals_of_row {w : World} {B : Nat} {v : Value} {m : Nat} {l : List Val} (h : w.ownsRow B 35 6 v m (rowVC l)) (hm : m = l.length) (hl : ∀ x ∈ l, x.items = [] ∧ x.keys = [] ∧ ValOk x) : ValsIn w (fun b => B ≤ b) v l := by
  subst hm
  have hM : MadeV w B v (l.map P0) := ⟨by rw [List.length_map]; exact h, fun p hp => by
      obtain ⟨x, hx, rfl⟩ := List.mem_map.1 hp
      have := (hl x hx).1
      show ValsIn _ _ (.slice none 0 0) x.items
      rw [this]; exact valsIn_nil _ _, fun p hp => by
      obtain ⟨x, hx, rfl⟩ := List.mem_map.1 hp
      have := (hl x hx).2.1
      show StrsIn _ _ (.slice none 0 0) x.keys
      rw [this]; exact strsIn_nil _ _, fun p hp => by
      obtain ⟨x, hx, rfl⟩ := List.mem_map.1 hp
      exact (hl x hx).2.2⟩
  have h := hM.vals
  rw [List.map_map, show ((fun x : PartV => x.n) ∘ P0) = id from rfl, List.map_id] at h
  exact h

end Go.Proofs.YtphmhhonbkcajaaDoor
