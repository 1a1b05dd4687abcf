/-
  What the loops of mastref1.DotOf have in memory.
-/
import Derived.Test.YtphmhhonbkcajaaDoorDotSt
namespace Go.Proofs.YtphmhhonbkcajaaDoor
open Go.RowKit Go.Deep

/-- what mastref1.DotOf has in memory once k arguments are passed -/
structure DotN (w0 : World) (n : Nat) (pc : Array Value) (l : List ArgP) (k : Nat) (Ao : Option Addr) (mk co : Nat) (No : Option Addr) (nk cn : Nat) (wr : World) : Prop where
  hn : w0.heap.size = n
  hs : n + 4 ≤ wr.heap.size
  hb : Below w0.heap.size w0 wr
  hp : CB wr n 25 pc
  hr : CB wr (n + 1) 35 zeroVC
  ha : CB wr (n + 2) 35 (argsC Ao mk co)
  hd : CB wr (n + 3) 35 (namedC none 0 0 none 0 0)
  ho : wr.ownsRow (n + 4) 35 6 (.slice Ao mk co) mk (rowVC (unN (l.take k)))
  hk : wr.ownsRow (n + 4) 9 1 (.slice No nk cn) nk (strCells (nmL (l.take k)))
  h1 : mk = (unN (l.take k)).length
  h2 : nk = (nmL (l.take k)).length
namespace DotN
variable {w0 : World} {n : Nat} {pc : Array Value} {l : List ArgP} {k : Nat} {Ao : Option Addr} {mk co : Nat} {No : Option Addr} {nk cn : Nat} {w w' : World}
theorem below (h : DotN w0 n pc l k Ao mk co No nk cn w) (hb : Below w.heap.size w w') : DotN w0 n pc l k Ao mk co No nk cn w' :=
  ⟨h.hn, Nat.le_trans h.hs hb.size, h.hb.trans (hb.mono h.hb.size), h.hp.below hb, h.hr.below hb, h.ha.below hb, h.hd.below hb, own_belowR h.ho hb, own_belowR h.hk hb, h.h1, h.h2⟩
theorem m_le (h : DotN w0 n pc l k Ao mk co No nk cn w) : mk ≤ k := by
  have h1 := unN_len (l.take k)
  have h2 := List.length_take_le k l
  have := h.h1
  omega
theorem n_le (h : DotN w0 n pc l k Ao mk co No nk cn w) : nk ≤ k := by
  have h1 := nmL_len (l.take k)
  have h2 := List.length_take_le k l
  have := h.h2
  omega
theorem bare {a : ArgP} {g c : Nat} {w9 : World} (h : DotN w0 n pc l k Ao mk co No nk cn w) (hx : l[k]? = some a) (hb : bareA a = true)
    (own9 : w9.ownsRow (n + 4) 35 6 (.slice (some ⟨g, 0, none⟩) (mk + 1) c) (mk + 1) (rowVC (unN (l.take k)) ++ cellsV (vStr a.2) (.slice none 0 0) (.slice none 0 0)))
    (hg : w.grownBy w9 (Value.slice Ao mk co).ownBlock) (hb9 : Below (n + 4) w w9) :
    DotN w0 n pc l (k + 1) (some ⟨g, 0, none⟩) (mk + 1) c No nk cn (w9.setCell ⟨n + 2, 4, none⟩ (.slice (some ⟨g, 0, none⟩) (mk + 1) c)) := by
  have hne : ∀ b, b < n + 4 → some b ≠ (Value.slice Ao mk co).ownBlock := fun b hb e => by have := (h.ho.lt b e.symm).1; omega
  have hgs := grown_setB w9 (n + 2) 4 (.slice (some ⟨g, 0, none⟩) (mk + 1) c)
  have hk9 := own_keepR h.hk h.ho hg (Ne.symm valT_ne)
  have hsz := h.hs
  have hh1 := h.h1
  have hhn := h.hn
  have hs9 := hb9.size
  refine ⟨h.hn, by simp [World.setCell]; omega, ((h.hb.trans (hb9.mono (by omega))).setB (by omega) 4 _), (h.hp.other hg (hne _ (by omega))).setOther (by omega) _, (h.hr.other hg (hne _ (by omega))).setOther (by omega) _, ?_, (h.hd.other hg (hne _ (by omega))).setOther (by omega) _, ?_, ?_, ?_, ?_⟩
  · exact (h.ha.other hg (hne _ (by omega))).put 4 _
  · rw [unN_bare hx hb, rowVC_snoc]
    exact own9.kept hgs (Or.inr (fun e => by have := (own9.lt _ e).1; omega))
  · rw [nmL_bare hx hb]
    exact hk9.kept hgs (Or.inr (fun e => by have := (hk9.lt _ e).1; omega))
  · rw [unN_bare hx hb, List.length_append, ← hh1]; rfl
  · rw [nmL_bare hx hb]; exact h.h2
theorem named {a : ArgP} {g c : Nat} {w9 : World} (h : DotN w0 n pc l k Ao mk co No nk cn w) (hx : l[k]? = some a) (hb : bareA a = false)
    (own9 : w9.ownsRow (n + 4) 9 1 (.slice (some ⟨g, 0, none⟩) (nk + 1) c) (nk + 1) (strCells (nmL (l.take k)) ++ [.string a.1]))
    (hg : w.grownBy w9 (Value.slice No nk cn).ownBlock) (hb9 : Below (n + 4) w w9) : DotN w0 n pc l (k + 1) Ao mk co (some ⟨g, 0, none⟩) (nk + 1) c w9 := by
  have hne : ∀ b, b < n + 4 → some b ≠ (Value.slice No nk cn).ownBlock := fun b hb e => by have := (h.hk.lt b e.symm).1; omega
  have ho9 := own_keepR h.ho h.hk hg valT_ne
  have hsz := h.hs
  have hh2 := h.h2
  have hhn := h.hn
  refine ⟨h.hn, Nat.le_trans h.hs hb9.size, h.hb.trans (hb9.mono (by omega)), h.hp.other hg (hne _ (by omega)), h.hr.other hg (hne _ (by omega)), h.ha.other hg (hne _ (by omega)), h.hd.other hg (hne _ (by omega)), ?_, ?_, ?_, ?_⟩
  · rw [unN_named hx hb]; exact ho9
  · rw [nmL_named hx hb, show strCells (nmL (l.take k) ++ [a.1.data.toList]) = strCells (nmL (l.take k)) ++ [.string a.1] by unfold strCells; rw [List.map_append]; rfl]
    exact own9
  · rw [unN_named hx hb]; exact h.h1
  · rw [nmL_named hx hb, List.length_append, ← hh2]; rfl
end DotN

/-- what mastref1.DotOf has in memory behind the sorting; K: where that ended; the rows of named need not yet stand in its box -/
structure DotR (w0 : World) (n : Nat) (pc : Array Value) (l : List ArgP) (S : List Str) (K : Nat) (Ao : Option Addr) (mk co : Nat) (So : Option Addr) (ns cs : Nat) (Co : Option Addr) (mi ci : Nat) (Bo : Option Addr) (nb cb : Nat) (kv : Value) (kn : Nat) (kl : List Str) (iv : Value) (im : Nat) (il : List Val) (wr : World) : Prop where
  hn : w0.heap.size = n
  hK : n + 4 ≤ K
  hKw : K ≤ wr.heap.size
  hb : Below w0.heap.size w0 wr
  hp : CB wr n 25 pc
  hr : CB wr (n + 1) 35 zeroVC
  ha : CB wr (n + 2) 35 (argsC Ao mk co)
  hd : CB wr (n + 3) 35 (namedC Co mi ci Bo nb cb)
  ho : wr.ownsRow (n + 4) 35 6 (.slice Ao mk co) mk (rowVC (unN l))
  hs : wr.ownsRow (n + 4) 9 1 (.slice So ns cs) ns (strCells S)
  hk : wr.ownsRow K 9 1 kv kn (strCells kl)
  hi : wr.ownsRow K 35 6 iv im (rowVC il)
  hoK : ∀ b, (Value.slice Ao mk co).ownBlock = some b → b < K
  hsK : ∀ b, (Value.slice So ns cs).ownBlock = some b → b < K
  h1 : mk = (unN l).length
  h2 : ns = S.length
namespace DotR
variable {w0 : World} {n : Nat} {pc : Array Value} {l : List ArgP} {S : List Str} {K : Nat} {Ao : Option Addr} {mk co : Nat} {So : Option Addr} {ns cs : Nat} {Co : Option Addr} {mi ci : Nat} {Bo : Option Addr} {nb cb : Nat} {kv : Value} {kn : Nat} {kl : List Str} {iv : Value} {im : Nat} {il : List Val} {w w' : World}
theorem below (h : DotR w0 n pc l S K Ao mk co So ns cs Co mi ci Bo nb cb kv kn kl iv im il w) (hb : Below w.heap.size w w') : DotR w0 n pc l S K Ao mk co So ns cs Co mi ci Bo nb cb kv kn kl iv im il w' :=
  ⟨h.hn, h.hK, Nat.le_trans h.hKw hb.size, h.hb.trans (hb.mono h.hb.size), h.hp.below hb, h.hr.below hb, h.ha.below hb, h.hd.below hb, own_belowR h.ho hb, own_belowR h.hs hb, own_belowR h.hk hb, own_belowR h.hi hb, h.hoK, h.hsK, h.h1, h.h2⟩
theorem low {v v2 : Value} {B m m2 : Nat} {e e2 : TypeId} {xs ys : List Value} {K2 K3 : Nat} (_h : w.ownsRow B e K2 v m xs) (h2 : w.ownsRow K e2 K3 v2 m2 ys) (hK : ∀ b, v.ownBlock = some b → b < K) : v.ownBlock = none ∨ v.ownBlock ≠ v2.ownBlock := by
  cases hc : v.ownBlock with
  | none => exact Or.inl rfl
  | some b => exact Or.inr (fun e => by have := (h2.lt _ e.symm).1; have := hK b hc; omega)
theorem key {kv2 : Value} {kn2 : Nat} {kl2 : List Str} (h : DotR w0 n pc l S K Ao mk co So ns cs Co mi ci Bo nb cb kv kn kl iv im il w) (hg : w.grownBy w' kv.ownBlock) (hb9 : Below K w w') (own9 : w'.ownsRow K 9 1 kv2 kn2 (strCells kl2)) :
    DotR w0 n pc l S K Ao mk co So ns cs Co mi ci Bo nb cb kv2 kn2 kl2 iv im il w' := by
  have hK := h.hK
  have hne : ∀ b, b < K → some b ≠ kv.ownBlock := fun b hb e => by have := (h.hk.lt b e.symm).1; omega
  have hhn := h.hn
  have hKw := h.hKw
  exact ⟨h.hn, h.hK, Nat.le_trans h.hKw hb9.size, h.hb.trans (hb9.mono (by omega)), h.hp.other hg (hne _ (by omega)), h.hr.other hg (hne _ (by omega)), h.ha.other hg (hne _ (by omega)), h.hd.other hg (hne _ (by omega)),
    own_keepR h.ho h.hk hg valT_ne, h.hs.kept hg (low h.hs h.hk h.hsK), own9, own_keepR h.hi h.hk hg valT_ne, h.hoK, h.hsK, h.h1, h.h2⟩
theorem item {iv2 : Value} {im2 : Nat} {il2 : List Val} (h : DotR w0 n pc l S K Ao mk co So ns cs Co mi ci Bo nb cb kv kn kl iv im il w) (hg : w.grownBy w' iv.ownBlock) (hb9 : Below K w w') (own9 : w'.ownsRow K 35 6 iv2 im2 (rowVC il2)) :
    DotR w0 n pc l S K Ao mk co So ns cs Co mi ci Bo nb cb kv kn kl iv2 im2 il2 w' := by
  have hK := h.hK
  have hne : ∀ b, b < K → some b ≠ iv.ownBlock := fun b hb e => by have := (h.hi.lt b e.symm).1; omega
  have hhn := h.hn
  have hKw := h.hKw
  exact ⟨h.hn, h.hK, Nat.le_trans h.hKw hb9.size, h.hb.trans (hb9.mono (by omega)), h.hp.other hg (hne _ (by omega)), h.hr.other hg (hne _ (by omega)), h.ha.other hg (hne _ (by omega)), h.hd.other hg (hne _ (by omega)),
    h.ho.kept hg (low h.ho h.hi h.hoK), own_keepR h.hs h.hi hg (Ne.symm valT_ne), own_keepR h.hk h.hi hg (Ne.symm valT_ne), own9, h.hoK, h.hsK, h.h1, h.h2⟩
theorem store {d : Array Value} {o : Nat} {v : Value} {Co2 : Option Addr} {mi2 ci2 : Nat} {Bo2 : Option Addr} {nb2 cb2 : Nat} (h : DotR w0 n pc l S K Ao mk co So ns cs Co mi ci Bo nb cb kv kn kl iv im il w) (hd : (namedC Co mi ci Bo nb cb).setIfInBounds o v = d) (hd2 : d = namedC Co2 mi2 ci2 Bo2 nb2 cb2) :
    DotR w0 n pc l S K Ao mk co So ns cs Co2 mi2 ci2 Bo2 nb2 cb2 kv kn kl iv im il (w.setCell ⟨n + 3, o, none⟩ v) := by
  have hK := h.hK
  have hgs := grown_setB w (n + 3) o v
  have hhn := h.hn
  have ne4 : ∀ {B K2 m : Nat} {e : TypeId} {v : Value} {xs : List Value}, w.ownsRow B e K2 v m xs → n + 4 ≤ B → v.ownBlock = none ∨ v.ownBlock ≠ some (n + 3) := fun ho hB => Or.inr (fun e => by have := (ho.lt _ e).1; omega)
  exact ⟨h.hn, h.hK, by simp [World.setCell]; exact h.hKw, h.hb.setB (by omega) o _, h.hp.setOther (by omega) _, h.hr.setOther (by omega) _, h.ha.setOther (by omega) _, (by rw [← hd2, ← hd]; exact h.hd.put o v),
    h.ho.kept hgs (ne4 h.ho (Nat.le_refl _)), h.hs.kept hgs (ne4 h.hs (Nat.le_refl _)), h.hk.kept hgs (ne4 h.hk hK), h.hi.kept hgs (ne4 h.hi hK), h.hoK, h.hsK, h.h1, h.h2⟩
end DotR
theorem DotN.done {w0 : World} {n : Nat} {pc : Array Value} {l : List ArgP} {k : Nat} {Ao : Option Addr} {mk co : Nat} {No : Option Addr} {nk cn : Nat} {w w' : World} {So : Option Addr} {ns cs : Nat} {S : List Str} (h : DotN w0 n pc l k Ao mk co No nk cn w) (hk : l.length ≤ k)
    (hns : ns = S.length) (own9 : w'.ownsRow w.heap.size 9 1 (.slice So ns cs) ns (strCells S)) (hg : w.grownBy w' (Value.slice No nk cn).ownBlock) :
    DotR w0 n pc l S w'.heap.size Ao mk co So ns cs none 0 0 none 0 0 (.slice none 0 0) 0 [] (.slice none 0 0) 0 [] w' := by
  have e : l.take k = l := List.take_of_length_le hk
  have hne : ∀ b, b < n + 4 → some b ≠ (Value.slice No nk cn).ownBlock := fun b hb e => by have := (h.hk.lt b e.symm).1; omega
  have a2 := h.ho
  have a4 := h.h1
  rw [e] at a2 a4
  have hs := h.hs
  have hhn := h.hn
  have ho9 := own_keepR a2 h.hk hg valT_ne
  refine ⟨h.hn, Nat.le_trans h.hs hg.size, Nat.le_refl _, h.hb.grown hg (by omega) (fun j hj => by have := (h.hk.lt j hj).1; omega), h.hp.other hg (hne _ (by omega)), h.hr.other hg (hne _ (by omega)), h.ha.other hg (hne _ (by omega)), h.hd.other hg (hne _ (by omega)),
    ho9, own_lower own9 (by omega), World.ownsRow_nil _ _ _ _, World.ownsRow_nil _ _ _ _, fun b hb => (ho9.lt b hb).2, fun b hb => (own9.lt b hb).2, a4, hns⟩

end Go.Proofs.YtphmhhonbkcajaaDoor
