/-
  The dot of a shortcode's template: mastref1.DotOf.
-/
import Derived.Test.YtphmhhonbkcajaaDoorDot
import Derived.Test.YtphmhhonbkcajaaDoorDotR
namespace Go.Proofs.YtphmhhonbkcajaaDoor
open Go.RowKit Go.Deep

/-- in a region that draws its order: append of one element to a slice of the call's own -/
theorem step_pushD {P : Program} {ops : Array Oper} {o : Oper} {a : Act} {W : World} {K : Act → World → Prop} {Q : Exit → Act → World → Prop} {E : Prop} (hgd : o.guard = none) (s x : Operand) (t : TypeId)
    (ho : o.op = .call { callee := .builtin .append, args := #[s, x], argTypes := #[t, t] })
    (B : Nat) (e : TypeId) (z : Value) (k bytes : Nat) (ht : P.underlying t = some (.slice e)) (hi : (P.info? e).map (fun i => (i.zero, i.size, i.bytes)) = some (some z, k, bytes)) (hzs : z.cells.size = k) (hk : 0 < k)
    (v : Value) (n : Nat) (xs : List Value) (hs : a.eval s = v) (hown : W.ownsRow B e k v n xs)
    (news : List Value) (hl : news.length = k) (sz : Nat) (hx : a.eval x = .slice (some ⟨sz, 0, none⟩) 1 1) (hnew : ∀ (j : Nat) (u : Value), news[j]? = some u → W.cell? ⟨sz, j, none⟩ = some u) (h1 : ∀ u ∈ news, u.oneCell' = true)
    (hn : (n + 1) * bytes ≤ 140737488355328) (hn' : n + 1 ≤ maxLen) (hB : B ≤ W.heap.size)
    (hK : ∀ g cap w', w'.ownsRow B e k (.slice (some ⟨g, 0, none⟩) (n + 1) cap) (n + 1) (xs ++ news) → W.grownBy w' v.ownBlock → (v.ownBlock = some g ∨ W.heap.size ≤ g) → Below B W w' → K (a.put o.dst (.slice (some ⟨g, 0, none⟩) (n + 1) cap)) w') :
    if Region.wanted o (yielded ops a.tmps) = true then Oper.wp P o a W K Q else E := by
  have hw : Region.wanted o (yielded ops a.tmps) = true := by simp [Region.wanted, hgd]
  rw [if_pos hw]
  obtain ⟨i, hi1, hi2, hi3, hi4⟩ := info_parts hi
  obtain ⟨v', w', hr, h2, hg, _, h5⟩ := run_append_own_at (P := P) W B t o.type e i z k bytes ht hi1 hi2 hi3 hi4 hzs hk v n xs hown ⟨sz, 0, none⟩ 1 1 news (by omega) (fun j u hj => by
    have hadd : (⟨sz, 0, none⟩ : Addr).add j = ⟨sz, j, none⟩ := by unfold Addr.add; split <;> simp_all
    rw [hadd]
    exact hnew j u hj) h1 hn' hn hB
  unfold Oper.wp execOp
  simp only [ho, resolve, invoke, builtin, Sem.run_bind, Sem.run_pure, Result.andThen_ok, List.map_toArray, List.map_cons, List.map_nil, hs, hx, hr]
  have hb : Below B W w' := below_of_grown hg hB (own_block_ge hown)
  obtain ⟨A, c, rfl, _, _, hA⟩ := own_form h2
  obtain ⟨g, rfl, _, _⟩ := hA (by omega)
  refine hK g c w' h2 hg ?_ hb
  simp only [Value.ownBlock] at h5
  rcases h5 with h5 | h5
  · left; exact h5.symm
  · right; simp at h5; omega

theorem getD_atD {L : Array Bool} {i : Nat} (h : L.getD i true = false) (b : Bool) : (L.setIfInBounds i true).getD i b = true := by
  have hi : i < L.size := by
    rcases Nat.lt_or_ge i L.size with h1 | h1
    · exact h1
    · simp [h1] at h
  simp [hi]
theorem not_yetD {md : Region.Mode} {ops : Array Oper} {L : Array Bool} {i k : Nat} (hs : ShutL md ops L) (hr : i ∈ Region.ready md ops L) (hc : (ancOf md ops ops.size k).contains i = true) : L.getD k false = false := by
  cases h : L.getD k false with
  | false => rfl
  | true =>
    have h1 := hs.anc ops.size k (hs k h) i (by simpa using hc)
    rw [ready_un hr] at h1
    cases h1

theorem CB.pushT {w w' : World} {n B K m : Nat} {t e : TypeId} {cs : Array Value} {v : Value} {xs : List Value} (h : CB w n t cs) (hr : w.ownsRow B e K v m xs) (hg : w.grownBy w' v.ownBlock) (hne : t ≠ e) : CB w' n t cs :=
  h.other hg (fun e3 => by
    obtain ⟨cs2, hc2⟩ := own_typeR hr e3.symm
    have h9 := (show w.heap[n]? = _ from h).symm.trans hc2
    simp at h9
    exact hne h9.2)
theorem argT_ne : (44 : TypeId) ≠ 9 ∧ (44 : TypeId) ≠ 35 := by decide

/-- the memory while a key and an item are pushed -/
def ST18 (D : Value → Nat → List Str → Value → Nat → List Val → World → Prop) (kv : Value) (nb : Nat) (kl : List Str) (s : Str) (iv : Value) (mi : Nat) (il : List Val) (v : Val) (p q : Bool) (x4 x11 : Value) (w : World) : Prop :=
  (p = false → q = false ∧ D kv nb kl iv mi il w) ∧
  (p = true → q = false → ∃ g c, x4 = .slice (some ⟨g, 0, none⟩) (nb + 1) c ∧ D x4 (nb + 1) (kl ++ [s]) iv mi il w) ∧
  (q = true → ∃ g c g2 c2, x4 = .slice (some ⟨g, 0, none⟩) (nb + 1) c ∧ x11 = .slice (some ⟨g2, 0, none⟩) (mi + 1) c2 ∧ D x4 (nb + 1) (kl ++ [s]) x11 (mi + 1) (il ++ [v]) w)
theorem ST18.below {D : Value → Nat → List Str → Value → Nat → List Val → World → Prop} (hD : ∀ kv kn kl iv im il w w', D kv kn kl iv im il w → Below w.heap.size w w' → D kv kn kl iv im il w') {kv : Value} {nb : Nat} {kl : List Str} {s : Str} {iv : Value} {mi : Nat} {il : List Val} {v : Val} {p q : Bool} {x4 x11 : Value} {w w' : World}
    (h : ST18 D kv nb kl s iv mi il v p q x4 x11 w) (hb : Below w.heap.size w w') : ST18 D kv nb kl s iv mi il v p q x4 x11 w' :=
  ⟨fun hp => ⟨(h.1 hp).1, hD _ _ _ _ _ _ _ _ (h.1 hp).2 hb⟩, fun hp hq => by obtain ⟨g, c, h1, h2⟩ := h.2.1 hp hq; exact ⟨g, c, h1, hD _ _ _ _ _ _ _ _ h2 hb⟩, fun hq => by obtain ⟨g, c, g2, c2, h1, h2, h3⟩ := h.2.2 hq; exact ⟨g, c, g2, c2, h1, h2, hD _ _ _ _ _ _ _ _ h3 hb⟩⟩
theorem ST18.box {D : Value → Nat → List Str → Value → Nat → List Val → World → Prop} {n : Nat} {cs : Array Value} (hC : ∀ kv kn kl iv im il w, D kv kn kl iv im il w → CB w n 35 cs) {kv : Value} {nb : Nat} {kl : List Str} {s : Str} {iv : Value} {mi : Nat} {il : List Val} {v : Val} {p q : Bool} {x4 x11 : Value} {w : World}
    (h : ST18 D kv nb kl s iv mi il v p q x4 x11 w) : CB w n 35 cs := by
  cases p with
  | false => exact hC _ _ _ _ _ _ _ (h.1 rfl).2
  | true =>
    cases q with
    | false => obtain ⟨g, c, h1, h2⟩ := h.2.1 rfl rfl; exact hC _ _ _ _ _ _ _ h2
    | true => obtain ⟨g, c, g2, c2, h1, h2, h3⟩ := h.2.2 rfl; exact hC _ _ _ _ _ _ _ h3
theorem ready_or {md : Region.Mode} {ops : Array Oper} {k d : Nat} {L : Array Bool} (hs : ShutL md ops L) (hr : k ∈ Region.ready md ops L) (hc : (ancOf md ops ops.size k).contains d = true) : L.getD d false = true := hs.anc ops.size k (ready_deps hr) d (by simpa using hc)
theorem ST18.step {D : Value → Nat → List Str → Value → Nat → List Val → World → Prop} {kv : Value} {nb : Nat} {kl : List Str} {s : Str} {iv : Value} {mi : Nat} {il : List Val} {v : Val} {L : Array Bool} {i : Nat} {x4 x11 : Value} {w : World} (h4 : i ≠ 4) (h11 : i ≠ 11)
    (h : ST18 D kv nb kl s iv mi il v (L.getD 4 false) (L.getD 11 false) x4 x11 w) : ST18 D kv nb kl s iv mi il v ((L.setIfInBounds i true).getD 4 false) ((L.setIfInBounds i true).getD 11 false) x4 x11 w := by
  rw [getD_set_ne false h4, getD_set_ne false h11]; exact h
def IDotF8 (fr : Value → Value → Value → Value → Value → Value → Act) (n : Nat) (T : Nat) (x : ArgP) (Ao : Option Addr) (mk : Nat) (co : Nat) (W1 : World) (L : Array Bool) (a : Act) (w : World) : Prop :=
  ∃ x0 x1 x2 x3 x4 x5 : Value, a = fr x0 x1 x2 x3 x4 x5 ∧ Below W1.heap.size W1 w ∧ (L.getD 0 false = true → x0 = .pointer (some ⟨n + 1 + 1, 4, none⟩)) ∧ (L.getD 1 false = true → x1 = .slice Ao mk co) ∧ (L.getD 2 false = true → x2 = .pointer (some ⟨T, 1, none⟩)) ∧ (L.getD 3 false = true → x3 = .string x.2) ∧ (L.getD 4 false = true → x4 = valAgg (vStr x.2) (.slice none 0 0) (.slice none 0 0)) ∧ (L.getD 5 false = true → OneV W1 (vStr x.2) x5 w)
theorem IDotF8.start {m : Nat} {fr : Value → Value → Value → Value → Value → Value → Act} {n : Nat} {T : Nat} {x : ArgP} {Ao : Option Addr} {mk : Nat} {co : Nat} {W1 : World} {a : Act} (x0 x1 x2 x3 x4 x5 : Value) (h : a = fr x0 x1 x2 x3 x4 x5) : IDotF8 fr n T x Ao mk co W1 (Array.replicate m false) a W1 :=
  ⟨x0, x1, x2, x3, x4, x5, h, Below.refl _ _, (fun h => by rw [getD_replicate_false] at h; cases h), (fun h => by rw [getD_replicate_false] at h; cases h), (fun h => by rw [getD_replicate_false] at h; cases h), (fun h => by rw [getD_replicate_false] at h; cases h), (fun h => by rw [getD_replicate_false] at h; cases h), (fun h => by rw [getD_replicate_false] at h; cases h)⟩
def IR18 (fr : Value → Value → Value → Value → Value → Value → Value → Value → Value → Value → Value → Value → Value → Act) (D : Value → Nat → List Str → Value → Nat → List Val → World → Prop) (n T : Nat) (x : ArgP) (s : ByteArray) (Co : Option Addr) (mi ci : Nat) (Bo : Option Addr) (nb cb : Nat) (kl : List Str) (il : List Val) (L : Array Bool) (a : Act) (w : World) : Prop :=
  ∃ x0 x1 x2 x3 x4 x5 x6 x7 x8 x9 x10 x11 x12 : Value, a = fr x0 x1 x2 x3 x4 x5 x6 x7 x8 x9 x10 x11 x12 ∧ CB w T 44 #[.string x.1, .string x.2] ∧ ST18 D (.slice Bo nb cb) nb kl s.data.toList (.slice Co mi ci) mi il (vStr x.2) (L.getD 4 false) (L.getD 11 false) x4 x11 w ∧ (L.getD 0 false = true → x0 = .pointer (some ⟨n + 1 + 1 + 1, 5, none⟩)) ∧ (L.getD 1 false = true → x1 = .slice Bo nb cb) ∧ (L.getD 2 false = true → x2 = .string s) ∧ (L.getD 3 false = true → L.getD 4 false = false → ∃ g : Nat, x3 = .slice (some ⟨g, 0, none⟩) 1 1 ∧ CB w g 9 #[.string s]) ∧ (L.getD 5 false = true → x5 = .pointer (some ⟨n + 1 + 1 + 1, 4, none⟩)) ∧ (L.getD 6 false = true → x6 = .slice Co mi ci) ∧ (L.getD 7 false = true → x7 = .pointer (some ⟨T, 1, none⟩)) ∧ (L.getD 8 false = true → x8 = .string x.2) ∧ (L.getD 9 false = true → x9 = valAgg (vStr x.2) (.slice none 0 0) (.slice none 0 0)) ∧ (L.getD 10 false = true → L.getD 11 false = false → ∃ g : Nat, x10 = .slice (some ⟨g, 0, none⟩) 1 1 ∧ CB w g 35 (cellsV (vStr x.2) (.slice none 0 0) (.slice none 0 0)).toArray) ∧ (L.getD 12 false = true → x12 = .pointer (some ⟨n + 1 + 1 + 1, 5, none⟩))
theorem IR18.start {m : Nat} {fr : Value → Value → Value → Value → Value → Value → Value → Value → Value → Value → Value → Value → Value → Act} {D : Value → Nat → List Str → Value → Nat → List Val → World → Prop} {n T : Nat} {x : ArgP} {s : ByteArray} {Co : Option Addr} {mi ci : Nat} {Bo : Option Addr} {nb cb : Nat} {kl : List Str} {il : List Val} {a : Act} {w : World} (x0 x1 x2 x3 x4 x5 x6 x7 x8 x9 x10 x11 x12 : Value) (h : a = fr x0 x1 x2 x3 x4 x5 x6 x7 x8 x9 x10 x11 x12) (hx : CB w T 44 #[.string x.1, .string x.2]) (hD : D (.slice Bo nb cb) nb kl (.slice Co mi ci) mi il w) : IR18 fr D n T x s Co mi ci Bo nb cb kl il (Array.replicate m false) a w :=
  ⟨x0, x1, x2, x3, x4, x5, x6, x7, x8, x9, x10, x11, x12, h, hx, ⟨fun _ => ⟨(by rw [getD_replicate_false]), hD⟩, (fun h => by rw [getD_replicate_false] at h; cases h), (fun h => by rw [getD_replicate_false] at h; cases h)⟩, (fun h => by rw [getD_replicate_false] at h; cases h), (fun h => by rw [getD_replicate_false] at h; cases h), (fun h => by rw [getD_replicate_false] at h; cases h), (fun h => by rw [getD_replicate_false] at h; cases h), (fun h => by rw [getD_replicate_false] at h; cases h), (fun h => by rw [getD_replicate_false] at h; cases h), (fun h => by rw [getD_replicate_false] at h; cases h), (fun h => by rw [getD_replicate_false] at h; cases h), (fun h => by rw [getD_replicate_false] at h; cases h), (fun h => by rw [getD_replicate_false] at h; cases h), (fun h => by rw [getD_replicate_false] at h; cases h)⟩

def KeyR (W1 : World) (x : Value) (w : World) : Prop := ∃ g : Nat, x = .slice (some ⟨g, 0, none⟩) 4 4 ∧ W1.heap.size ≤ g ∧ CB w g 9 (keysC kDotU)
theorem KeyR.below {W1 w w' : World} {x : Value} (h : KeyR W1 x w) (hb : Below w.heap.size w w') : KeyR W1 x w' := by obtain ⟨g, h1, h2, h3⟩ := h; exact ⟨g, h1, h2, h3.below hb⟩
def ItR (W1 : World) (ps : List PartV) (x : Value) (w : World) : Prop := ∃ g : Nat, x = .slice (some ⟨g, 0, none⟩) 4 4 ∧ W1.heap.size ≤ g ∧ CB w g 35 (flatV ps).toArray
theorem ItR.below {W1 w w' : World} {ps : List PartV} {x : Value} (h : ItR W1 ps x w) (hb : Below w.heap.size w w') : ItR W1 ps x w' := by obtain ⟨g, h1, h2, h3⟩ := h; exact ⟨g, h1, h2, h3.below hb⟩
def IDotF24 (fr : Value → Value → Value → Value → Value → Value → Value → Act) (l : List ArgP) (en : Bool) (addr : ByteArray) (inner : ByteArray) (Ao : Option Addr) (mk : Nat) (co : Nat) (Co : Option Addr) (mi : Nat) (ci : Nat) (Bo : Option Addr) (nb : Nat) (cb : Nat) (W1 : World) (L : Array Bool) (a : Act) (w : World) : Prop :=
  ∃ x0 x1 x2 x3 x4 x5 x6 : Value, a = fr x0 x1 x2 x3 x4 x5 x6 ∧ Below W1.heap.size W1 w ∧ (L.getD 0 false = true → KeyR W1 x0 w) ∧ (L.getD 1 false = true → x1 = .agg (argsC Ao mk co)) ∧ (L.getD 2 false = true → x2 = valAgg (inV en inner) (.slice none 0 0) (.slice none 0 0)) ∧ (L.getD 3 false = true → x3 = .agg (namedC Co mi ci Bo nb cb)) ∧ (L.getD 4 false = true → x4 = .string addr) ∧ (L.getD 5 false = true → x5 = valAgg (vPage addr) (.slice none 0 0) (.slice none 0 0)) ∧ (L.getD 6 false = true → ItR W1 (partsD l en addr inner (.slice Ao mk co) (.slice Co mi ci) (.slice Bo nb cb)) x6 w)
theorem IDotF24.start {m : Nat} {fr : Value → Value → Value → Value → Value → Value → Value → Act} {l : List ArgP} {en : Bool} {addr : ByteArray} {inner : ByteArray} {Ao : Option Addr} {mk : Nat} {co : Nat} {Co : Option Addr} {mi : Nat} {ci : Nat} {Bo : Option Addr} {nb : Nat} {cb : Nat} {W1 : World} {a : Act} (x0 x1 x2 x3 x4 x5 x6 : Value) (h : a = fr x0 x1 x2 x3 x4 x5 x6) : IDotF24 fr l en addr inner Ao mk co Co mi ci Bo nb cb W1 (Array.replicate m false) a W1 :=
  ⟨x0, x1, x2, x3, x4, x5, x6, h, Below.refl _ _, (fun h => by rw [getD_replicate_false] at h; cases h), (fun h => by rw [getD_replicate_false] at h; cases h), (fun h => by rw [getD_replicate_false] at h; cases h), (fun h => by rw [getD_replicate_false] at h; cases h), (fun h => by rw [getD_replicate_false] at h; cases h), (fun h => by rw [getD_replicate_false] at h; cases h), (fun h => by rw [getD_replicate_false] at h; cases h)⟩
set_option maxRecDepth 100000 in
set_option maxHeartbeats 8000000 in
theorem dotOf_q (l : List ArgP) (tx nm : ByteArray) (A : Option Addr) (m c : Nat) (en : Bool) (A2 : Option Addr) (m2 c2 : Nat) (addr inner : ByteArray) (w : World) (hA : ArgsPAt w (.slice A m c) l) (hl : l.length ≤ 1073741824) (ha : addr.size ≤ 1073741824) (hin : inner.size ≤ maxLen) :
    Calls Tryd.prog 7 #[.agg (partC tx nm A m c en A2 m2 c2), .string addr, .string inner] w (ClonePost (dotV l en addr inner) w) := by
  obtain ⟨A', c', b, o, hv, hlc, hc, hAd, hcell⟩ := hA
  cases hv
  unfold maxLen at hc
  have HSizes := Lib.hid (show ∀ x ∈ l, x.1.size ≤ maxLen ∧ x.2.size ≤ maxLen from fun x hx => by obtain ⟨i, hi⟩ := List.getElem?_of_mem hx; exact (hcell i x hi).2)
  have HCell := Lib.hid hcell; clear hcell
  have HAd := Lib.hid hAd; clear hAd
  have HIn := Lib.hid hin; clear hin
  have HHa := Lib.hid ha; clear ha
  obtain ⟨n, hn⟩ : ∃ n, w.heap.size = n := ⟨_, rfl⟩
  have HS0 := Lib.hid (show DotN w n (partC tx nm A l.length c en A2 m2 c2) l 0 none 0 0 none 0 0 ((((w.alloc (.cells (partC tx nm A l.length c en A2 m2 c2) 25)).alloc (.cells zeroVC 35)).alloc (.cells (argsC none 0 0) 35)).alloc (.cells (namedC none 0 0 none 0 0) 35)) from by
    have e1 : ∀ o : Obj, (w.alloc o).heap.size = n + 1 := fun o => by rw [World.size_alloc, hn]
    have e2 : ∀ o o2 : Obj, ((w.alloc o).alloc o2).heap.size = n + 2 := fun o o2 => by rw [World.size_alloc, e1]
    have e3 : ∀ o o2 o3 : Obj, (((w.alloc o).alloc o2).alloc o3).heap.size = n + 3 := fun o o2 o3 => by rw [World.size_alloc, e2]
    have e4 : ∀ o o2 o3 o4 : Obj, ((((w.alloc o).alloc o2).alloc o3).alloc o4).heap.size = n + 4 := fun o o2 o3 o4 => by rw [World.size_alloc, e3]
    refine ⟨hn, by rw [e4]; exact Nat.le_refl _, ?_, ?_, ?_, ?_, ?_, ?_, ?_, ?_, ?_⟩
    · exact ((((Below.refl _ _).alloc (Nat.le_refl _) _).alloc (by rw [e1]; omega) _).alloc (by rw [e2]; omega) _).alloc (by rw [e3]; omega) _
    · have h := CB.new w (partC tx nm A l.length c en A2 m2 c2) 25
      rw [hn] at h
      exact ((h.alloc _).alloc _).alloc _
    · have h := CB.new (w.alloc (.cells (partC tx nm A l.length c en A2 m2 c2) 25)) zeroVC 35
      rw [e1] at h
      exact (h.alloc _).alloc _
    · have h := CB.new ((w.alloc (.cells (partC tx nm A l.length c en A2 m2 c2) 25)).alloc (.cells zeroVC 35)) (argsC none 0 0) 35
      rw [e2] at h
      exact h.alloc _
    · have h := CB.new (((w.alloc (.cells (partC tx nm A l.length c en A2 m2 c2) 25)).alloc (.cells zeroVC 35)).alloc (.cells (argsC none 0 0) 35)) (namedC none 0 0 none 0 0) 35
      rw [e3] at h
      exact h
    · exact World.ownsRow_nil _ _ _ _
    · exact World.ownsRow_nil _ _ _ _
    · rfl
    · rfl)
  unfold partC zeroVC argsC namedC at HS0
  unfold partC
  go_enter Tryd.func7, Tryd.ntmps7
  go_wp2_with fail
  go_loopw [9, 22] (fun t9 t wr => ∃ (k mk : Nat) (Ao : Option Addr) (co : Nat) (No : Option Addr) (nk cn : Nat), k ≤ l.length ∧ t = .int .i64 k ∧ t9 = .slice No nk cn ∧ Hid (DotN w n (partC tx nm A l.length c en A2 m2 c2) l k Ao mk co No nk cn wr)) (fun _ t _ => l.length - (intOf t).toNat)
  case atStart => exact ⟨0, 0, none, 0, none, 0, 0, Nat.zero_le _, rfl, rfl, HS0⟩
  case round =>
    clear HS0
    obtain ⟨k, mk, Ao, co, No, nk, cn, hk, rfl, rfl, HS⟩ := hrel
    by_cases hlt : k < l.length
    · have hA' := HAd.out (by rintro rfl; simp at hlt)
      subst hA'
      obtain ⟨x, hx⟩ : ∃ x, l[k]? = some x := ⟨_, List.getElem?_eq_getElem hlt⟩
      obtain ⟨⟨p0, p1⟩, px1, px2⟩ := HCell.out k x hx
      have kk := Keeps.of_below HS.out.hb
      replace p0 := kk _ _ p0
      replace p1 := kk _ _ p1
      clear kk
      have HX := Lib.hid hx
      clear hx
      have HPx1 := Lib.hid px1
      have HPx2 := Lib.hid px2
      clear px1 px2
      cases hbr : bareA x with
      | true =>
        have HBr := Lib.hid hbr; clear hbr
        have he : x.1.toList = [] := by have := HBr.out; unfold bareA at this; rw [Go.ByteArray.toList_eq]; simpa using this
        go_wp2_with fail
        obtain ⟨W1, hW1⟩ : ∃ W1, wr.alloc (.cells #[.string x.1, .string x.2] 44) = W1 := ⟨_, rfl⟩
        have HB1 := Lib.hid (show Below wr.heap.size wr W1 by rw [← hW1]; exact (Below.refl _ _).alloc (Nat.le_refl _) _)
        have HX1 := Lib.hid (show CB W1 wr.heap.size 44 #[.string x.1, .string x.2] by rw [← hW1]; exact CB.new _ _ _)
        rw [hW1]
        clear hW1
        refine wp_region_any (by kernel_rfl) ?_
        change wpAny _ _ _ _ _ _ _ W1.drew
        obtain ⟨W2, hW2⟩ : ∃ W2, W1.drew = W2 := ⟨_, rfl⟩
        have HX2 := Lib.hid (show CB W2 wr.heap.size 44 #[.string x.1, .string x.2] by rw [← hW2]; exact HX1.out.drewD)
        have HB2 := Lib.hid (show Below wr.heap.size wr W2 by rw [← hW2]; exact HB1.out.drew)
        have HA2 := Lib.hid (show CB W2 (n + 1 + 1) 35 (argsC Ao mk co) from HS.out.ha.below HB2.out)
        rw [hW2]
        clear hW2 HB1 HX1
        obtain ⟨T, hT⟩ : ∃ T, wr.heap.size = T := ⟨_, rfl⟩
        have HT := Lib.hid hT
        rw [hT] at HX2
        rw [hT]
        clear hT
        refine wpAny_inv [0, 1, 2, 3, 4, 5] (IDotF8 (fun v29 v30 v31 v32 v33 v34 => ⟨#[Value.agg #[Value.string tx, Value.string nm, Value.slice (some { block := b, off := o }) l.length c, Value.bool en, Value.slice A2 m2 c2], Value.string addr, Value.string inner, Value.pointer (some { block := n, off := 0 }), undef, undef, Value.pointer (some { block := n + 1, off := 0 }), Value.pointer (some { block := n + 1 + 1, off := 0 }), Value.pointer (some { block := n + 1 + 1 + 1, off := 0 }), Value.slice No nk cn, undef, Value.pointer (some { block := T, off := 0 }), undef, undef, undef, undef, undef, Value.agg #[Value.int IntKind.i64 5, Value.bool false, Value.int IntKind.i64 0, Value.string { data := #[] }, Value.slice none 0 0, Value.slice none 0 0], Value.agg #[Value.int IntKind.i64 6, Value.bool false, Value.int IntKind.i64 0, Value.string { data := #[] }, Value.slice none 0 0, Value.slice none 0 0], Value.pointer (some { block := n, off := 2 }), Value.slice (some { block := b, off := o }) l.length c, Value.int IntKind.i64 ↑l.length, Value.int IntKind.i64 ↑k, Value.bool true, Value.pointer (some { block := b, off := o + k * 2 }), Value.agg #[Value.string x.fst, Value.string x.snd], Value.pointer (some { block := T, off := 0 }), Value.string x.fst, Value.bool true, v29, v30, v31, v32, v33, v34, u35, u36, u37, u38, u39, u40, u41, u42, undef, undef, undef, undef, undef, undef, undef, undef, undef, undef, undef, undef, undef, undef, undef, undef, undef, undef, undef, undef, undef, undef, undef, undef, undef, undef, undef, undef, undef, undef, undef, undef, undef, undef, undef, undef, undef, undef, undef, undef, undef, undef, undef, undef, undef, undef, undef], []⟩) n T x Ao mk co W2) #[true, true, true, true, true, true, false, false, false] (g := 3) (by kernel_rfl) (by kernel_rfl) (by kernel_rfl) (IDotF8.start u29 u30 u31 u32 u33 u34 rfl) ?step ?last
        case step =>
          intro i hi L a' w' hs hr hI
          obtain ⟨x0, x1, x2, x3, x4, x5, rfl, hB, h0, h1, h2, h3, h4, h5⟩ := hI
          simp only [List.mem_cons, List.not_mem_nil, or_false] at hi
          rcases hi with rfl | rfl | rfl | rfl | rfl | rfl
          · refine wpOp_step rfl (fun K hK => ?_)
            go_simp
            exact hK _ _ ⟨_, _, _, _, _, _, rfl, hB, fun _ => rfl, fun h => h1 (getD_was (by decide) h), fun h => h2 (getD_was (by decide) h), fun h => h3 (getD_was (by decide) h), fun h => h4 (getD_was (by decide) h), fun h => h5 (getD_was (by decide) h)⟩
          · have q0 := h0 (ready_dep hr (by kernel_rfl))
            subst q0
            have z := (HA2.out.below hB).c 4
            simp only [argsC, List.getElem?_toArray, List.getElem?_cons_zero, List.getElem?_cons_succ] at z
            refine wpOp_step rfl (fun K hK => ?_)
            go_simp
            exact hK _ _ ⟨_, _, _, _, _, _, rfl, hB, fun _ => rfl, fun _ => rfl, fun h => h2 (getD_was (by decide) h), fun h => h3 (getD_was (by decide) h), fun h => h4 (getD_was (by decide) h), fun h => h5 (getD_was (by decide) h)⟩
          · refine wpOp_step rfl (fun K hK => ?_)
            go_simp
            exact hK _ _ ⟨_, _, _, _, _, _, rfl, hB, fun h => h0 (getD_was (by decide) h), fun h => h1 (getD_was (by decide) h), fun _ => rfl, fun h => h3 (getD_was (by decide) h), fun h => h4 (getD_was (by decide) h), fun h => h5 (getD_was (by decide) h)⟩
          · have q2 := h2 (ready_dep hr (by kernel_rfl))
            subst q2
            have z := (HX2.out.below hB).c 1
            simp only [List.getElem?_toArray, List.getElem?_cons_zero, List.getElem?_cons_succ] at z
            refine wpOp_step rfl (fun K hK => ?_)
            go_simp
            exact hK _ _ ⟨_, _, _, _, _, _, rfl, hB, fun h => h0 (getD_was (by decide) h), fun h => h1 (getD_was (by decide) h), fun _ => rfl, fun _ => rfl, fun h => h4 (getD_was (by decide) h), fun h => h5 (getD_was (by decide) h)⟩
          · have q3 := h3 (ready_dep hr (by kernel_rfl))
            subst q3
            refine wpOp_step rfl (fun K hK => ?_)
            go_simp
            refine (str_r _ w').mono ?_
            rintro e w'' ⟨rfl, hb⟩
            exact hK _ _ ⟨_, _, _, _, _, _, rfl, hB.trans (hb.mono hB.size), fun h => h0 (getD_was (by decide) h), fun h => h1 (getD_was (by decide) h), fun h => h2 (getD_was (by decide) h), fun _ => rfl, fun _ => rfl, fun h => OneV.below (h5 (getD_was (by decide) h)) hb⟩
          · have q4 := h4 (ready_dep hr (by kernel_rfl))
            subst q4
            simp only [valAgg, vStr, Val.kind, Val.flag, Val.num, Val.text]
            refine wpOp_step rfl (fun K hK => ?_)
            go_simp
            exact hK _ _ ⟨_, _, _, _, _, _, rfl, hB.alloc hB.size _, fun h => h0 (getD_was (by decide) h), fun h => h1 (getD_was (by decide) h), fun h => h2 (getD_was (by decide) h), fun h => h3 (getD_was (by decide) h), fun _ => rfl, fun _ => ⟨_, rfl, hB.size, CB.new _ _ _⟩⟩
        case last =>
          intro a' w' hI
          obtain ⟨x0, x1, x2, x3, x4, x5, rfl, hB, h0, h1, h2, h3, h4, h5⟩ := hI
          have q1 := h1 rfl
          have q5 := h5 rfl
          clear h0 h1 h2 h3 h4 h5
          subst q1
          refine wpAny_of_seqA 3 6 rfl (by kernel_rfl) ?_
          simp only [List.drop_succ_cons, List.drop_zero]
          have HBw := Lib.hid (HB2.out.trans (hB.mono HB2.out.size))
          have HSw := Lib.hid (HS.out.below HBw.out)
          obtain ⟨g5, rfl, hg5, hc5⟩ := q5
          have HC5 := Lib.hid (cells_of_one hc5)
          have hszw := HSw.out.hs
          have hmk := HS.out.m_le
          refine wpList_push _ rfl (.tmp 30) (.tmp 34) 32 rfl (n + 4) 35 (.agg #[.int .i64 0, .bool false, .int .i64 0, .string ⟨#[]⟩, .slice none 0 0, .slice none 0 0]) 6 88 Tryd.underlying32 info_valK rfl (by omega) (.slice Ao mk co) mk _ rfl HSw.out.ho (cellsV (vStr x.2) (.slice none 0 0) (.slice none 0 0)) rfl g5 rfl HC5.out (cellsV_one _ _ _ _ _ _ _) (by omega) (by unfold maxLen; omega) (by omega) ?_
          intro g9 c9 w9 own9 hg9 hgg9 hb9
          have HN9 := Lib.hid (HSw.out.bare HX.out HBr.out own9 hg9 hb9)
          have HA9 := Lib.hid (show CB w9 (n + 1 + 1) 35 (argsC Ao mk co) from HSw.out.ha.other hg9 (fun e => by have := (HSw.out.ho.lt _ e.symm).1; omega))
          have l4 := HA9.out.c 4
          have f4 := HA9.out.f 4
          have lsh := HA9.out.sh
          have hn9 := HA9.out.lt
          simp only [argsC, List.getElem?_toArray, List.getElem?_cons_zero, List.getElem?_cons_succ] at l4
          go_wp2_with fail
          go_roundw
          case rel => exact ⟨k + 1, mk + 1, some ⟨g9, 0, none⟩, c9, No, nk, cn, by omega, by go_num, rfl, HN9⟩
          case measure => simp [intOf]; omega
      | false =>
        have HBr := Lib.hid hbr; clear hbr
        have he : x.1.toList.isEmpty = false := by have := HBr.out; unfold bareA at this; rw [Go.ByteArray.toList_eq]; simpa using this
        have HS1 := Lib.hid (HS.out.below (((Below.refl wr.heap.size wr).alloc (Nat.le_refl _) (.cells #[.string x.1, .string x.2] 44)).alloc (by rw [World.size_alloc]; omega) (.cells #[.string x.1] 9)))
        have hnk := HS.out.n_le
        have hsz := HS.out.hs
        go_wp2_with (at_builtin; go_must (refine wpList_push _ rfl (.tmp 37) (.tmp 40) 33 rfl (n + 4) 9 (.string ⟨#[]⟩) 1 16 Tryd.underlying33 info_strN rfl (by omega) (.slice No nk cn) nk _ rfl HS1.out.hk [.string x.1] rfl _ rfl (cell_new _ _ _ _ (by rw [World.size_alloc])) (by intro u hu; simp only [List.mem_singleton] at hu; subst hu; rfl) (by omega) (by unfold maxLen; omega) (by rw [World.size_alloc, World.size_alloc]; omega) ?_); intro g9 c9 w9 own9 hg9 hgg9 hb9; have HN1 := Lib.hid (HS1.out.named HX.out HBr.out own9 hg9 hb9); clear own9 hg9 hgg9 hb9)
        go_roundw
        case rel => exact ⟨k + 1, mk, Ao, co, some ⟨g9, 0, none⟩, nk + 1, c9, by omega, by go_num, rfl, HN1⟩
        case measure => simp [intOf]; omega
    · have hk9 : l.length ≤ k := by omega
      have hnk := HS.out.n_le
      have hnl : (canon (nmL l)).length ≤ 1073741824 := Nat.le_trans (canon_len _) (Nat.le_trans (nmL_len l) hl)
      go_wp2_with (go_at_call 19; go_must (refine (sorted_q (n + 4) (nmL (l.take k)) No nk cn (canon (nmL l)) _ HS.out.h2 HS.out.hk (by omega) (by rw [List.take_of_length_le hk9])).mono ?_); rintro e w3 ⟨So, ns, cs, rfl, hns, own3, hg3⟩; have HR0 := Lib.hid (HS.out.done hk9 hns.out own3 hg3); clear own3 hg3)
      have HNs := Lib.hid (show ns ≤ l.length from by have h1 := hns.out; have h2 := Nat.le_trans (canon_len (nmL l)) (nmL_len l); omega)
      clear hns HS
      obtain ⟨KK, hKK⟩ : ∃ K, w3.heap.size = K := ⟨_, rfl⟩
      rw [hKK] at HR0
      clear hKK
      obtain ⟨wo, rfl⟩ : ∃ wo : World, wo = wr := ⟨_, rfl⟩
      go_loopw [46] (fun t wr => ∃ (j : Nat) (Co : Option Addr) (mi ci : Nat) (Bo : Option Addr) (nb cb : Nat), j ≤ ns ∧ t = .int .i64 j ∧ Hid (DotR w n (partC tx nm A l.length c en A2 m2 c2) l (canon (nmL l)) KK Ao mk co So ns cs Co mi ci Bo nb cb (.slice Bo nb cb) nb ((canon (nmL l)).take j) (.slice Co mi ci) mi (itN l ((canon (nmL l)).take j)) wr) ∧ Hid (nb = j) ∧ Hid (mi = j)) (fun t _ => ns - (intOf t).toNat)
      case atStart => exact ⟨0, none, 0, 0, none, 0, 0, Nat.zero_le _, rfl, HR0, rfl, rfl⟩
      case round =>
        clear HR0
        obtain ⟨j, Co, mi, ci, Bo, nb, cb, hj, rfl, HR, HNj, HMj⟩ := hrel
        have HNb := Lib.hid (show nb ≤ 1073741824 by have h1 := HNj.out; have h2 := HNs.out; omega)
        have HMi := Lib.hid (show mi ≤ 1073741824 by have h1 := HMj.out; have h2 := HNs.out; omega)
        by_cases hlt : j < ns
        · obtain ⟨B', cB, hvB, hcB, hnB, hgB⟩ := own_form HR.out.hs
          cases hvB
          obtain ⟨gB, rfl, hgB1, hgB2⟩ := hgB (by omega)
          obtain ⟨s0, hs0⟩ : ∃ s, (canon (nmL l))[j]? = some s := ⟨_, List.getElem?_eq_getElem (by have := HR.out.h2; omega)⟩
          have HX := Lib.hid hs0
          obtain ⟨s, hs⟩ : ∃ s : ByteArray, (⟨s0.toArray⟩ : ByteArray) = s := ⟨_, rfl⟩
          have hss : s.data.toList = s0 := by rw [← hs]
          have p0 : wr.cell? ⟨gB, j, none⟩ = some (.string s) := by
            rw [HR.out.hs.cellAt j (by omega)]
            show (strCells _)[j]? = _
            unfold strCells
            rw [List.getElem?_map, hs0, ← hs]; rfl
          have HSs := Lib.hid hss
          have HMem := Lib.hid (show s0 ∈ nmL l from ((canon_spec _).2 s0).1 (List.mem_of_getElem? hs0))
          have HPc := Lib.hid (show CB wr n 25 (partC tx nm A l.length c en A2 m2 c2) from HR.out.hp)
          have pc2 := HPc.out.c 2
          have hpl := HPc.out.lt
          simp only [partC, List.getElem?_toArray, List.getElem?_cons_zero, List.getElem?_cons_succ] at pc2
          clear hs0 hs hss
          go_wp2_with fail
          clear pc2 hpl HPc p0
          obtain ⟨wq, rfl⟩ : ∃ wq : World, wq = wr := ⟨_, rfl⟩
          go_loopw [53] (fun t wr => ∃ i : Nat, i ≤ l.length ∧ t = .int .i64 i ∧ Hid (DotR w n (partC tx nm A l.length c en A2 m2 c2) l (canon (nmL l)) KK Ao mk co (some ⟨gB, 0, none⟩) ns cs Co mi ci Bo nb cb (.slice Bo nb cb) nb ((canon (nmL l)).take j) (.slice Co mi ci) mi (itN l ((canon (nmL l)).take j)) wr) ∧ Hid (∀ i' : Nat, i' < i → ∀ y : ArgP, l[i']? = some y → y.1.data.toList ≠ s0)) (fun t _ => l.length - (intOf t).toNat)
          case atStart => exact ⟨0, Nat.zero_le _, rfl, HR, fun i' h => absurd h (by omega)⟩
          case round =>
            clear HR
            obtain ⟨i, hi, rfl, HR, HBef⟩ := hrel
            by_cases hlt2 : i < l.length
            · have hA' := HAd.out (by rintro rfl; simp at hlt2)
              subst hA'
              obtain ⟨x, hx⟩ : ∃ x, l[i]? = some x := ⟨_, List.getElem?_eq_getElem hlt2⟩
              obtain ⟨⟨p0, p1⟩, px1, px2⟩ := HCell.out i x hx
              have kk := Keeps.of_below HR.out.hb
              replace p0 := kk _ _ p0
              replace p1 := kk _ _ p1
              clear kk px1 px2
              have HXi := Lib.hid hx
              clear hx
              by_cases hm : x.1.data.toList = s0
              · have HM := Lib.hid hm
                have he : (x.1.toList == s.toList) = true := by rw [Go.ByteArray.toList_eq, Go.ByteArray.toList_eq, hm, HSs.out]; simp
                have he2 : x.1.toList = s.toList := by simpa using he
                clear hm
                have HTk := Lib.hid (show (canon (nmL l)).take (j + 1) = (canon (nmL l)).take j ++ [s.data.toList] by rw [take_snoc HX.out, HSs.out])
                have HIt := Lib.hid (show itN l ((canon (nmL l)).take j ++ [s.data.toList]) = itN l ((canon (nmL l)).take j) ++ [vStr x.2] by
                  unfold itN
                  rw [List.map_append, HSs.out]
                  congr 1
                  show [vStr _] = _
                  rw [valF_first (nmL_ne HMem.out) HBef.out HXi.out HM.out]
                  rfl)
                obtain ⟨kl, hkl⟩ : ∃ kl, (canon (nmL l)).take j = kl := ⟨_, rfl⟩
                rw [hkl] at HTk HIt HR
                obtain ⟨il, hil⟩ : ∃ il, itN l kl = il := ⟨_, rfl⟩
                rw [hil] at HIt HR
                clear hkl hil
                go_wp2_with fail
                obtain ⟨W1, hW1⟩ : ∃ W1, wr.alloc (.cells #[.string x.1, .string x.2] 44) = W1 := ⟨_, rfl⟩
                have HB1 := Lib.hid (show Below wr.heap.size wr W1 by rw [← hW1]; exact (Below.refl _ _).alloc (Nat.le_refl _) _)
                have HX1 := Lib.hid (show CB W1 wr.heap.size 44 #[.string x.1, .string x.2] by rw [← hW1]; exact CB.new _ _ _)
                rw [hW1]
                clear hW1
                refine wp_region_any (by kernel_rfl) ?_
                change wpAny _ _ _ _ _ _ _ W1.drew
                obtain ⟨W2, hW2⟩ : ∃ W2, W1.drew = W2 := ⟨_, rfl⟩
                have HX2 := Lib.hid (show CB W2 wr.heap.size 44 #[.string x.1, .string x.2] by rw [← hW2]; exact HX1.out.drewD)
                have HB2 := Lib.hid (show Below wr.heap.size wr W2 by rw [← hW2]; exact HB1.out.drew)
                have HR2 := Lib.hid (HR.out.below HB2.out)
                rw [hW2]
                clear hW2 HB1 HX1
                obtain ⟨T, hT⟩ : ∃ T, wr.heap.size = T := ⟨_, rfl⟩
                have HT := Lib.hid hT
                rw [hT] at HX2
                rw [hT]
                clear hT
                have HDB := Lib.hid (fun kv kn kl iv im il w1 w2 (h : (DotR w n (partC tx nm (some ⟨b, o, none⟩) l.length c en A2 m2 c2) l (canon (nmL l)) KK Ao mk co (some ⟨gB, 0, none⟩) ns cs Co mi ci Bo nb cb) kv kn kl iv im il w1) (hb : Below w1.heap.size w1 w2) => h.below hb)
                have HDC := Lib.hid (fun kv kn kl iv im il w1 (h : (DotR w n (partC tx nm (some ⟨b, o, none⟩) l.length c en A2 m2 c2) l (canon (nmL l)) KK Ao mk co (some ⟨gB, 0, none⟩) ns cs Co mi ci Bo nb cb) kv kn kl iv im il w1) => (show CB w1 (n + 1 + 1 + 1) 35 (namedC Co mi ci Bo nb cb) from h.hd))
                refine wpAny_inv [0, 1, 2, 3, 4, 5, 6, 7, 8, 9, 10, 11, 12] (IR18 (fun v61 v62 v63 v64 v65 v66 v67 v68 v69 v70 v71 v72 v73 => ⟨#[Value.agg #[Value.string tx, Value.string nm, Value.slice (some { block := b, off := o }) l.length c, Value.bool en, Value.slice A2 m2 c2], Value.string addr, Value.string inner, Value.pointer (some { block := n, off := 0 }), undef, undef, Value.pointer (some { block := n + 1, off := 0 }), Value.pointer (some { block := n + 1 + 1, off := 0 }), Value.pointer (some { block := n + 1 + 1 + 1, off := 0 }), Value.slice No nk cn, undef, u11, undef, Value.string s, undef, Value.pointer (some { block := T, off := 0 }), undef, Value.agg #[Value.int IntKind.i64 5, Value.bool false, Value.int IntKind.i64 0, Value.string { data := #[] }, Value.slice none 0 0, Value.slice none 0 0], Value.agg #[Value.int IntKind.i64 6, Value.bool false, Value.int IntKind.i64 0, Value.string { data := #[] }, Value.slice none 0 0, Value.slice none 0 0], Value.pointer (some { block := n, off := 2 }), Value.slice (some { block := b, off := o }) l.length c, Value.int IntKind.i64 ↑l.length, Value.int IntKind.i64 ↑k, Value.bool false, u24, u25, u26, u27, u28, u29, u30, u31, u32, u33, u34, u35, u36, u37, u38, u39, u40, u41, u42, Value.slice No nk cn, Value.slice (some { block := gB, off := 0 }) ns cs, Value.int IntKind.i64 ↑ns, Value.int IntKind.i64 ↑j, Value.bool true, Value.pointer (some { block := gB, off := j }), Value.string s, Value.pointer (some { block := n, off := 2 }), Value.slice (some { block := b, off := o }) l.length c, Value.int IntKind.i64 ↑l.length, Value.int IntKind.i64 ↑i, Value.bool true, Value.pointer (some { block := b, off := o + i * 2 }), Value.agg #[Value.string x.fst, Value.string x.snd], Value.pointer (some { block := T, off := 0 }), Value.string x.fst, Value.string s, Value.bool true, v61, v62, v63, v64, v65, v66, v67, v68, v69, v70, v71, v72, v73, u74, u75, u76, undef, undef, undef, undef, undef, undef, undef, undef, undef, undef, undef, undef, undef], []⟩) (DotR w n (partC tx nm (some ⟨b, o, none⟩) l.length c en A2 m2 c2) l (canon (nmL l)) KK Ao mk co (some ⟨gB, 0, none⟩) ns cs Co mi ci Bo nb cb) n T x s Co mi ci Bo nb cb kl il) #[true, true, true, true, true, true, true, true, true, true, true, true, true, false, false, false] (g := 3) (by kernel_rfl) (by kernel_rfl) (by kernel_rfl) (IR18.start u61 u62 u63 u64 u65 u66 u67 u68 u69 u70 u71 u72 u73 rfl HX2.out HR2.out) ?step ?last
                case step =>
                  intro i hi L a' w' hs hr hI
                  obtain ⟨x0, x1, x2, x3, x4, x5, x6, x7, x8, x9, x10, x11, x12, rfl, hXc, hSt, h0, h1, h2, h3, h5, h6, h7, h8, h9, h10, h12⟩ := hI
                  simp only [List.mem_cons, List.not_mem_nil, or_false] at hi
                  rcases hi with rfl | rfl | rfl | rfl | rfl | rfl | rfl | rfl | rfl | rfl | rfl | rfl | rfl
                  · have zl := (ST18.box HDC.out hSt).lt
                    refine wpOp_step rfl (fun K hK => ?_)
                    go_simp
                    exact hK _ _ ⟨_, _, _, _, _, _, _, _, _, _, _, _, _, rfl, hXc, ST18.step (by decide) (by decide) hSt, fun _ => rfl, (fun h => h1 (getD_was (by decide) h)), (fun h => h2 (getD_was (by decide) h)), (fun h h' => h3 (getD_was (by decide) h) (by rw [← getD_set_ne false (show 0 ≠ 4 by decide)]; exact h')), (fun h => h5 (getD_was (by decide) h)), (fun h => h6 (getD_was (by decide) h)), (fun h => h7 (getD_was (by decide) h)), (fun h => h8 (getD_was (by decide) h)), (fun h => h9 (getD_was (by decide) h)), (fun h h' => h10 (getD_was (by decide) h) (by rw [← getD_set_ne false (show 0 ≠ 11 by decide)]; exact h')), (fun h => h12 (getD_was (by decide) h))⟩
                  · have q0 := h0 (ready_dep hr (by kernel_rfl))
                    subst q0
                    have z := (ST18.box HDC.out hSt).c 5
                    simp only [namedC, List.getElem?_toArray, List.getElem?_cons_zero, List.getElem?_cons_succ] at z
                    refine wpOp_step rfl (fun K hK => ?_)
                    go_simp
                    exact hK _ _ ⟨_, _, _, _, _, _, _, _, _, _, _, _, _, rfl, hXc, ST18.step (by decide) (by decide) hSt, fun _ => rfl, fun _ => rfl, (fun h => h2 (getD_was (by decide) h)), (fun h h' => h3 (getD_was (by decide) h) (by rw [← getD_set_ne false (show 1 ≠ 4 by decide)]; exact h')), (fun h => h5 (getD_was (by decide) h)), (fun h => h6 (getD_was (by decide) h)), (fun h => h7 (getD_was (by decide) h)), (fun h => h8 (getD_was (by decide) h)), (fun h => h9 (getD_was (by decide) h)), (fun h h' => h10 (getD_was (by decide) h) (by rw [← getD_set_ne false (show 1 ≠ 11 by decide)]; exact h')), (fun h => h12 (getD_was (by decide) h))⟩
                  · refine wpOp_step rfl (fun K hK => ?_)
                    go_simp
                    exact hK _ _ ⟨_, _, _, _, _, _, _, _, _, _, _, _, _, rfl, hXc, ST18.step (by decide) (by decide) hSt, (fun h => h0 (getD_was (by decide) h)), (fun h => h1 (getD_was (by decide) h)), fun _ => rfl, (fun h h' => h3 (getD_was (by decide) h) (by rw [← getD_set_ne false (show 2 ≠ 4 by decide)]; exact h')), (fun h => h5 (getD_was (by decide) h)), (fun h => h6 (getD_was (by decide) h)), (fun h => h7 (getD_was (by decide) h)), (fun h => h8 (getD_was (by decide) h)), (fun h => h9 (getD_was (by decide) h)), (fun h h' => h10 (getD_was (by decide) h) (by rw [← getD_set_ne false (show 2 ≠ 11 by decide)]; exact h')), (fun h => h12 (getD_was (by decide) h))⟩
                  · have q2 := h2 (ready_dep hr (by kernel_rfl))
                    subst q2
                    have n10 := not_yetD (k := 10) hs hr (by kernel_rfl)
                    refine wpOp_step rfl (fun K hK => ?_)
                    go_simp
                    have hb := (Below.refl w'.heap.size w').alloc (Nat.le_refl _) (.cells #[.string s] 9)
                    exact hK _ _ ⟨_, _, _, _, _, _, _, _, _, _, _, _, _, rfl, hXc.below hb, ST18.step (by decide) (by decide) (hSt.below HDB.out hb), (fun h => h0 (getD_was (by decide) h)), (fun h => h1 (getD_was (by decide) h)), fun _ => rfl, (fun _ _ => ⟨_, rfl, CB.new _ _ _⟩), (fun h => h5 (getD_was (by decide) h)), (fun h => h6 (getD_was (by decide) h)), (fun h => h7 (getD_was (by decide) h)), (fun h => h8 (getD_was (by decide) h)), (fun h => h9 (getD_was (by decide) h)), (fun h' _ => by rw [getD_set_ne false (by decide), n10] at h'; cases h'), (fun h => h12 (getD_was (by decide) h))⟩
                  · have q1 := h1 (ready_dep hr (by kernel_rfl))
                    subst q1
                    have n10 := not_yetD (k := 10) hs hr (by kernel_rfl)
                    have u4 := ready_un hr
                    obtain ⟨u11, hD⟩ := hSt.1 u4
                    obtain ⟨gd, rfl, hcd⟩ := h3 (ready_dep hr (by kernel_rfl)) u4
                    refine wpOp_step rfl (fun K hK => ?_)
                    refine step_pushD rfl (.tmp 62) (.tmp 64) 33 rfl KK 9 (.string ⟨#[]⟩) 1 16 Tryd.underlying33 info_strN rfl (by omega) (.slice Bo nb cb) nb _ rfl hD.hk [.string s] rfl gd rfl (fun i u hk => (hcd.c i).trans (by simpa using hk)) (by intro u hu; simp only [List.mem_singleton] at hu; subst hu; rfl) (by have := HNb.out; omega) (by have := HNb.out; unfold maxLen; omega) hD.hKw ?_
                    intro g7 k7 w7 own7 hg7 hgg7 hb7
                    have own8 : w7.ownsRow KK 9 1 (.slice (some ⟨g7, 0, none⟩) (nb + 1) k7) (nb + 1) (strCells (kl ++ [s.data.toList])) := by rw [show strCells (kl ++ [s.data.toList]) = strCells kl ++ [.string s] by unfold strCells; rw [List.map_append]; rfl]; exact own7
                    have hnew : (L.setIfInBounds 4 true).getD 4 false = true := getD_atD (mem_ready.1 hr).1 false
                    have hold : (L.setIfInBounds 4 true).getD 11 false = false := by rw [getD_set_ne false (by decide)]; exact u11
                    refine hK _ _ ⟨_, _, _, _, _, _, _, _, _, _, _, _, _, rfl, hXc.pushT hD.hk hg7 argT_ne.1, ?_, (fun h => h0 (getD_was (by decide) h)), fun _ => rfl, (fun h => h2 (getD_was (by decide) h)), (fun _ h' => by rw [getD_atD (mem_ready.1 hr).1] at h'; cases h'), (fun h => h5 (getD_was (by decide) h)), (fun h => h6 (getD_was (by decide) h)), (fun h => h7 (getD_was (by decide) h)), (fun h => h8 (getD_was (by decide) h)), (fun h => h9 (getD_was (by decide) h)), (fun h' _ => by rw [getD_set_ne false (by decide), n10] at h'; cases h'), (fun h => h12 (getD_was (by decide) h))⟩
                    rw [hnew, hold]
                    exact ⟨(fun h => by cases h), (fun _ _ => ⟨g7, k7, rfl, hD.key hg7 hb7 own8⟩), (fun h => by cases h)⟩
                  · have zl := (ST18.box HDC.out hSt).lt
                    refine wpOp_step rfl (fun K hK => ?_)
                    go_simp
                    exact hK _ _ ⟨_, _, _, _, _, _, _, _, _, _, _, _, _, rfl, hXc, ST18.step (by decide) (by decide) hSt, (fun h => h0 (getD_was (by decide) h)), (fun h => h1 (getD_was (by decide) h)), (fun h => h2 (getD_was (by decide) h)), (fun h h' => h3 (getD_was (by decide) h) (by rw [← getD_set_ne false (show 5 ≠ 4 by decide)]; exact h')), fun _ => rfl, (fun h => h6 (getD_was (by decide) h)), (fun h => h7 (getD_was (by decide) h)), (fun h => h8 (getD_was (by decide) h)), (fun h => h9 (getD_was (by decide) h)), (fun h h' => h10 (getD_was (by decide) h) (by rw [← getD_set_ne false (show 5 ≠ 11 by decide)]; exact h')), (fun h => h12 (getD_was (by decide) h))⟩
                  · have q5 := h5 (ready_dep hr (by kernel_rfl))
                    subst q5
                    have z := (ST18.box HDC.out hSt).c 4
                    simp only [namedC, List.getElem?_toArray, List.getElem?_cons_zero, List.getElem?_cons_succ] at z
                    refine wpOp_step rfl (fun K hK => ?_)
                    go_simp
                    exact hK _ _ ⟨_, _, _, _, _, _, _, _, _, _, _, _, _, rfl, hXc, ST18.step (by decide) (by decide) hSt, (fun h => h0 (getD_was (by decide) h)), (fun h => h1 (getD_was (by decide) h)), (fun h => h2 (getD_was (by decide) h)), (fun h h' => h3 (getD_was (by decide) h) (by rw [← getD_set_ne false (show 6 ≠ 4 by decide)]; exact h')), fun _ => rfl, fun _ => rfl, (fun h => h7 (getD_was (by decide) h)), (fun h => h8 (getD_was (by decide) h)), (fun h => h9 (getD_was (by decide) h)), (fun h h' => h10 (getD_was (by decide) h) (by rw [← getD_set_ne false (show 6 ≠ 11 by decide)]; exact h')), (fun h => h12 (getD_was (by decide) h))⟩
                  · have zl := hXc.lt
                    refine wpOp_step rfl (fun K hK => ?_)
                    go_simp
                    exact hK _ _ ⟨_, _, _, _, _, _, _, _, _, _, _, _, _, rfl, hXc, ST18.step (by decide) (by decide) hSt, (fun h => h0 (getD_was (by decide) h)), (fun h => h1 (getD_was (by decide) h)), (fun h => h2 (getD_was (by decide) h)), (fun h h' => h3 (getD_was (by decide) h) (by rw [← getD_set_ne false (show 7 ≠ 4 by decide)]; exact h')), (fun h => h5 (getD_was (by decide) h)), (fun h => h6 (getD_was (by decide) h)), fun _ => rfl, (fun h => h8 (getD_was (by decide) h)), (fun h => h9 (getD_was (by decide) h)), (fun h h' => h10 (getD_was (by decide) h) (by rw [← getD_set_ne false (show 7 ≠ 11 by decide)]; exact h')), (fun h => h12 (getD_was (by decide) h))⟩
                  · have q7 := h7 (ready_dep hr (by kernel_rfl))
                    subst q7
                    have z := hXc.c 1
                    simp only [List.getElem?_toArray, List.getElem?_cons_zero, List.getElem?_cons_succ] at z
                    refine wpOp_step rfl (fun K hK => ?_)
                    go_simp
                    exact hK _ _ ⟨_, _, _, _, _, _, _, _, _, _, _, _, _, rfl, hXc, ST18.step (by decide) (by decide) hSt, (fun h => h0 (getD_was (by decide) h)), (fun h => h1 (getD_was (by decide) h)), (fun h => h2 (getD_was (by decide) h)), (fun h h' => h3 (getD_was (by decide) h) (by rw [← getD_set_ne false (show 8 ≠ 4 by decide)]; exact h')), (fun h => h5 (getD_was (by decide) h)), (fun h => h6 (getD_was (by decide) h)), fun _ => rfl, fun _ => rfl, (fun h => h9 (getD_was (by decide) h)), (fun h h' => h10 (getD_was (by decide) h) (by rw [← getD_set_ne false (show 8 ≠ 11 by decide)]; exact h')), (fun h => h12 (getD_was (by decide) h))⟩
                  · have q8 := h8 (ready_dep hr (by kernel_rfl))
                    subst q8
                    have n10 := not_yetD (k := 10) hs hr (by kernel_rfl)
                    have t4 : L.getD 4 false = true := ready_or hs hr (by kernel_rfl)
                    refine wpOp_step rfl (fun K hK => ?_)
                    go_simp
                    refine (str_r _ w').mono ?_
                    rintro e w'' ⟨rfl, hb⟩
                    exact hK _ _ ⟨_, _, _, _, _, _, _, _, _, _, _, _, _, rfl, hXc.below hb, ST18.step (by decide) (by decide) (hSt.below HDB.out hb), (fun h => h0 (getD_was (by decide) h)), (fun h => h1 (getD_was (by decide) h)), (fun h => h2 (getD_was (by decide) h)), (fun _ h' => by rw [getD_set_ne false (by decide), t4] at h'; cases h'), (fun h => h5 (getD_was (by decide) h)), (fun h => h6 (getD_was (by decide) h)), (fun h => h7 (getD_was (by decide) h)), fun _ => rfl, fun _ => rfl, (fun h' _ => by rw [getD_set_ne false (by decide), n10] at h'; cases h'), (fun h => h12 (getD_was (by decide) h))⟩
                  · have q9 := h9 (ready_dep hr (by kernel_rfl))
                    subst q9
                    have t4 : L.getD 4 false = true := ready_or hs hr (by kernel_rfl)
                    simp only [valAgg, vStr, Val.kind, Val.flag, Val.num, Val.text]
                    refine wpOp_step rfl (fun K hK => ?_)
                    go_simp
                    have hb := (Below.refl w'.heap.size w').alloc (Nat.le_refl _) (.cells (cellsV (vStr x.2) (.slice none 0 0) (.slice none 0 0)).toArray 35)
                    exact hK _ _ ⟨_, _, _, _, _, _, _, _, _, _, _, _, _, rfl, hXc.below hb, ST18.step (by decide) (by decide) (hSt.below HDB.out hb), (fun h => h0 (getD_was (by decide) h)), (fun h => h1 (getD_was (by decide) h)), (fun h => h2 (getD_was (by decide) h)), (fun _ h' => by rw [getD_set_ne false (by decide), t4] at h'; cases h'), (fun h => h5 (getD_was (by decide) h)), (fun h => h6 (getD_was (by decide) h)), (fun h => h7 (getD_was (by decide) h)), (fun h => h8 (getD_was (by decide) h)), fun _ => rfl, (fun _ _ => ⟨_, rfl, CB.new _ _ _⟩), (fun h => h12 (getD_was (by decide) h))⟩
                  · have q6 := h6 (ready_dep hr (by kernel_rfl))
                    subst q6
                    have t4 : L.getD 4 false = true := ready_or hs hr (by kernel_rfl)
                    have u11 := ready_un hr
                    obtain ⟨g, c, rfl, hD⟩ := hSt.2.1 t4 u11
                    obtain ⟨gd, rfl, hcd⟩ := h10 (ready_dep hr (by kernel_rfl)) u11
                    refine wpOp_step rfl (fun K hK => ?_)
                    refine step_pushD rfl (.tmp 67) (.tmp 71) 32 rfl KK 35 (.agg #[.int .i64 0, .bool false, .int .i64 0, .string ⟨#[]⟩, .slice none 0 0, .slice none 0 0]) 6 88 Tryd.underlying32 info_valK rfl (by omega) (.slice Co mi ci) mi _ rfl hD.hi (cellsV (vStr x.2) (.slice none 0 0) (.slice none 0 0)) rfl gd rfl (cells_of_one hcd) (cellsV_one _ _ _ _ _ _ _) (by have := HMi.out; omega) (by have := HMi.out; unfold maxLen; omega) hD.hKw ?_
                    intro g9 k9 w9 own9 hg9 hgg9 hb9
                    rw [← rowVC_snoc] at own9
                    have hnew : (L.setIfInBounds 11 true).getD 11 false = true := getD_atD (mem_ready.1 hr).1 false
                    have hold : (L.setIfInBounds 11 true).getD 4 false = true := by rw [getD_set_ne false (by decide)]; exact t4
                    refine hK _ _ ⟨_, _, _, _, _, _, _, _, _, _, _, _, _, rfl, hXc.pushT hD.hi hg9 argT_ne.2, ?_, (fun h => h0 (getD_was (by decide) h)), (fun h => h1 (getD_was (by decide) h)), (fun h => h2 (getD_was (by decide) h)), (fun _ h' => by rw [getD_set_ne false (by decide), t4] at h'; cases h'), (fun h => h5 (getD_was (by decide) h)), fun _ => rfl, (fun h => h7 (getD_was (by decide) h)), (fun h => h8 (getD_was (by decide) h)), (fun h => h9 (getD_was (by decide) h)), (fun _ h' => by rw [getD_atD (mem_ready.1 hr).1] at h'; cases h'), (fun h => h12 (getD_was (by decide) h))⟩
                    rw [hnew, hold]
                    exact ⟨(fun h => by cases h), (fun _ h => by cases h), (fun _ => ⟨g, c, g9, k9, rfl, rfl, hD.item hg9 hb9 own9⟩)⟩
                  · have zl := (ST18.box HDC.out hSt).lt
                    refine wpOp_step rfl (fun K hK => ?_)
                    go_simp
                    exact hK _ _ ⟨_, _, _, _, _, _, _, _, _, _, _, _, _, rfl, hXc, ST18.step (by decide) (by decide) hSt, (fun h => h0 (getD_was (by decide) h)), (fun h => h1 (getD_was (by decide) h)), (fun h => h2 (getD_was (by decide) h)), (fun h h' => h3 (getD_was (by decide) h) (by rw [← getD_set_ne false (show 12 ≠ 4 by decide)]; exact h')), (fun h => h5 (getD_was (by decide) h)), (fun h => h6 (getD_was (by decide) h)), (fun h => h7 (getD_was (by decide) h)), (fun h => h8 (getD_was (by decide) h)), (fun h => h9 (getD_was (by decide) h)), (fun h h' => h10 (getD_was (by decide) h) (by rw [← getD_set_ne false (show 12 ≠ 11 by decide)]; exact h')), fun _ => rfl⟩
                case last =>
                  intro a' w' hI
                  obtain ⟨x0, x1, x2, x3, x4, x5, x6, x7, x8, x9, x10, x11, x12, rfl, hXc, hSt, h0, h1, h2, h3, h5, h6, h7, h8, h9, h10, h12⟩ := hI
                  have q12 := h12 rfl
                  obtain ⟨g, cg, g2, cg2, rfl, rfl, hD⟩ := hSt.2.2 rfl
                  clear h0 h1 h2 h3 h5 h6 h7 h8 h9 h10 h12 hSt
                  subst q12
                  refine wpAny_of_seqA 3 13 rfl (by kernel_rfl) ?_
                  simp only [List.drop_succ_cons, List.drop_zero]
                  have HD := Lib.hid hD
                  have HD5 := Lib.hid ((HD.out.store (o := 5) (v := .slice (some ⟨g, 0, none⟩) (nb + 1) cg) rfl rfl).store (o := 4) (v := .slice (some ⟨g2, 0, none⟩) (mi + 1) cg2) rfl rfl)
                  have HBx := Lib.hid (show CB w' (n + 1 + 1 + 1) 35 (namedC Co mi ci Bo nb cb) from HD.out.hd)
                  have z4 := HBx.out.c 4
                  have z5 := HBx.out.c 5
                  have f4 := HBx.out.f 4
                  have f5 := HBx.out.f 5
                  have zsh := HBx.out.sh
                  have zl := HBx.out.lt
                  simp only [namedC, List.getElem?_toArray, List.getElem?_cons_zero, List.getElem?_cons_succ] at z4 z5
                  clear hD
                  have hns2 := HNs.out
                  go_wp2_with fail
                  go_roundw
                  case rel => exact ⟨j + 1, some ⟨g2, 0, none⟩, mi + 1, cg2, some ⟨g, 0, none⟩, nb + 1, cg, by omega, by go_num, by rw [HTk.out, HIt.out]; exact HD5, Lib.hid (by rw [HNj.out]), Lib.hid (by rw [HMj.out])⟩
                  case measure => simp [intOf]; omega
              · have he : (x.1.toList == s.toList) = false := by rw [Go.ByteArray.toList_eq, Go.ByteArray.toList_eq, HSs.out]; rw [beq_eq_false_iff_ne]; exact hm
                have HBef2 := Lib.hid (show ∀ i' : Nat, i' < i + 1 → ∀ y : ArgP, l[i']? = some y → y.1.data.toList ≠ s0 from fun i' h y hy => by
                  rcases Nat.lt_or_ge i' i with h1 | h1
                  · exact HBef.out i' h1 y hy
                  · obtain rfl : i' = i := by omega
                    rw [HXi.out] at hy
                    cases hy
                    exact hm)
                have HR1 := Lib.hid (HR.out.below ((Below.refl wr.heap.size wr).alloc (Nat.le_refl _) (.cells #[.string x.1, .string x.2] 44)))
                clear hm
                go_wp2_with fail
                go_roundw
                case rel => exact ⟨i + 1, by omega, by go_num, HR1, HBef2⟩
                case measure => simp [intOf]; omega
            · exact absurd HMem.out (nmL_none fun i' y hy => HBef.out i' (by have := (List.getElem?_eq_some_iff.1 hy).1; omega) y hy)
        · obtain rfl : j = ns := by omega
          have hns2 := HNs.out
          have HL9 := Lib.hid (show (canon (nmL l)).take j = canon (nmL l) from List.take_of_length_le (by rw [← HR.out.h2]; exact Nat.le_refl _))
          rw [HL9.out] at HR
          have HE := Lib.hid (HR.out.below ((Below.refl wr.heap.size wr).alloc (Nat.le_refl _) (.cells zeroVC 35)))
          have HP := Lib.hid (show CB wr n 25 (partC tx nm A l.length c en A2 m2 c2) from HR.out.hp)
          have hws : wr.heap.size < (World.heap (wr.alloc (.cells zeroVC 35))).size := by rw [World.size_alloc]; omega
          have HZ0 := Lib.hid (CB.new wr zeroVC 35)
          have pc3 := HP.out.c 3
          have hpl := HP.out.lt
          simp only [partC, List.getElem?_toArray, List.getElem?_cons_zero, List.getElem?_cons_succ] at pc3
          unfold zeroVC at HE HZ0 hws
          cases en with
          | false =>
            go_wp2_with fail
            obtain ⟨W1, hW1⟩ : ∃ W1, wr.alloc (.cells #[.int .i64 0, .bool false, .int .i64 0, .string ⟨#[]⟩, .slice none 0 0, .slice none 0 0] 35) = W1 := ⟨_, rfl⟩
            have HB1 := Lib.hid (show Below wr.heap.size wr W1 by rw [← hW1]; exact (Below.refl wr.heap.size wr).alloc (Nat.le_refl _) _)
            have HI1 := Lib.hid (show CB W1 wr.heap.size 35 #[.int .i64 0, .bool false, .int .i64 0, .string ⟨#[]⟩, .slice none 0 0, .slice none 0 0] by rw [← hW1]; exact HZ0.out)
            have HS1 := Lib.hid (HR.out.below HB1.out)
            rw [hW1]
            clear hW1
            refine wp_region_any (by kernel_rfl) ?_
            change wpAny _ _ _ _ _ _ _ W1.drew
            obtain ⟨W2, hW2⟩ : ∃ W2, W1.drew = W2 := ⟨_, rfl⟩
            have HB2 := Lib.hid (show Below W1.heap.size W1 W2 by rw [← hW2]; exact (Below.refl _ _).drew)
            rw [hW2]
            clear hW2
            have HI3 := Lib.hid (HI1.out.below HB2.out)
            have HA3 := Lib.hid (show CB W2 (n + 1 + 1) 35 (argsC Ao mk co) from HS1.out.ha.below HB2.out)
            have HD3 := Lib.hid (show CB W2 (n + 1 + 1 + 1) 35 (namedC Co mi ci Bo nb cb) from HS1.out.hd.below HB2.out)
            have HS3 := Lib.hid (HS1.out.below HB2.out)
            obtain ⟨T, hT⟩ : ∃ T, wr.heap.size = T := ⟨_, rfl⟩
            have HT := Lib.hid hT
            rw [hT] at HI3
            rw [hT]
            clear hT
            refine wpAny_inv [0, 1, 2, 3, 4, 5, 6] (IDotF24 (fun v82 v83 v84 v85 v86 v87 v88 => ⟨#[Value.agg #[Value.string tx, Value.string nm, Value.slice A l.length c, Value.bool false, Value.slice A2 m2 c2], Value.string addr, Value.string inner, Value.pointer (some { block := n, off := 0 }), undef, undef, Value.pointer (some { block := n + 1, off := 0 }), Value.pointer (some { block := n + 1 + 1, off := 0 }), Value.pointer (some { block := n + 1 + 1 + 1, off := 0 }), Value.slice No nk cn, undef, u11, undef, u13, undef, u15, Value.pointer (some { block := T, off := 0 }), Value.agg #[Value.int IntKind.i64 5, Value.bool false, Value.int IntKind.i64 0, Value.string { data := #[] }, Value.slice none 0 0, Value.slice none 0 0], Value.agg #[Value.int IntKind.i64 6, Value.bool false, Value.int IntKind.i64 0, Value.string { data := #[] }, Value.slice none 0 0, Value.slice none 0 0], Value.pointer (some { block := n, off := 2 }), Value.slice A l.length c, Value.int IntKind.i64 ↑l.length, Value.int IntKind.i64 ↑k, Value.bool false, u24, u25, u26, u27, u28, u29, u30, u31, u32, u33, u34, u35, u36, u37, u38, u39, u40, u41, u42, Value.slice No nk cn, Value.slice So j cs, Value.int IntKind.i64 ↑j, Value.int IntKind.i64 ↑j, Value.bool false, u48, u49, u50, u51, u52, u53, u54, u55, u56, u57, u58, u59, u60, u61, u62, u63, u64, u65, u66, u67, u68, u69, u70, u71, u72, u73, u74, u75, u76, Value.agg #[Value.int IntKind.i64 0, Value.bool false, Value.int IntKind.i64 0, Value.string { data := #[] }, Value.slice none 0 0, Value.slice none 0 0], Value.pointer (some { block := n, off := 3 }), Value.bool false, undef, undef, v82, v83, v84, v85, v86, v87, v88, undef], []⟩) l false addr inner Ao mk co Co mi ci Bo nb cb W2) #[true, true, true, true, true, true, true, false, false] (g := 2) (by kernel_rfl) (by kernel_rfl) (by kernel_rfl) (IDotF24.start undef undef undef undef undef undef undef rfl) ?step ?last
            case step =>
              intro i hi L a' w' hs hr hI
              obtain ⟨x0, x1, x2, x3, x4, x5, x6, rfl, hB, h0, h1, h2, h3, h4, h5, h6⟩ := hI
              simp only [List.mem_cons, List.not_mem_nil, or_false] at hi
              rcases hi with rfl | rfl | rfl | rfl | rfl | rfl | rfl
              · refine wpOp_step rfl (fun K hK => ?_)
                go_simp
                have hb := (Below.refl w'.heap.size w').alloc (Nat.le_refl _) (.cells (keysC kDotU) 9)
                exact hK _ _ ⟨_, _, _, _, _, _, _, rfl, hB.alloc hB.size _, fun _ => ⟨_, rfl, hB.size, CB.new _ _ _⟩, fun h => h1 (getD_was (by decide) h), fun h => h2 (getD_was (by decide) h), fun h => h3 (getD_was (by decide) h), fun h => h4 (getD_was (by decide) h), fun h => h5 (getD_was (by decide) h), fun h => ItR.below (h6 (getD_was (by decide) h)) hb⟩
              · have z0 := (HA3.out.below hB).c 0
                have z1 := (HA3.out.below hB).c 1
                have z2 := (HA3.out.below hB).c 2
                have z3 := (HA3.out.below hB).c 3
                have z4 := (HA3.out.below hB).c 4
                have z5 := (HA3.out.below hB).c 5
                have zsh := (HA3.out.below hB).sh
                simp only [argsC, List.getElem?_toArray, List.getElem?_cons_zero, List.getElem?_cons_succ] at z0 z1 z2 z3 z4 z5
                refine wpOp_step rfl (fun K hK => ?_)
                go_simp
                exact hK _ _ ⟨_, _, _, _, _, _, _, rfl, hB, fun h => h0 (getD_was (by decide) h), fun _ => rfl, fun h => h2 (getD_was (by decide) h), fun h => h3 (getD_was (by decide) h), fun h => h4 (getD_was (by decide) h), fun h => h5 (getD_was (by decide) h), fun h => h6 (getD_was (by decide) h)⟩
              · have z0 := (HI3.out.below hB).c 0
                have z1 := (HI3.out.below hB).c 1
                have z2 := (HI3.out.below hB).c 2
                have z3 := (HI3.out.below hB).c 3
                have z4 := (HI3.out.below hB).c 4
                have z5 := (HI3.out.below hB).c 5
                have zsh := (HI3.out.below hB).sh
                simp only [List.getElem?_toArray, List.getElem?_cons_zero, List.getElem?_cons_succ] at z0 z1 z2 z3 z4 z5
                refine wpOp_step rfl (fun K hK => ?_)
                go_simp
                exact hK _ _ ⟨_, _, _, _, _, _, _, rfl, hB, fun h => h0 (getD_was (by decide) h), fun h => h1 (getD_was (by decide) h), fun _ => rfl, fun h => h3 (getD_was (by decide) h), fun h => h4 (getD_was (by decide) h), fun h => h5 (getD_was (by decide) h), fun h => h6 (getD_was (by decide) h)⟩
              · have z0 := (HD3.out.below hB).c 0
                have z1 := (HD3.out.below hB).c 1
                have z2 := (HD3.out.below hB).c 2
                have z3 := (HD3.out.below hB).c 3
                have z4 := (HD3.out.below hB).c 4
                have z5 := (HD3.out.below hB).c 5
                have zsh := (HD3.out.below hB).sh
                simp only [namedC, List.getElem?_toArray, List.getElem?_cons_zero, List.getElem?_cons_succ] at z0 z1 z2 z3 z4 z5
                refine wpOp_step rfl (fun K hK => ?_)
                go_simp
                exact hK _ _ ⟨_, _, _, _, _, _, _, rfl, hB, fun h => h0 (getD_was (by decide) h), fun h => h1 (getD_was (by decide) h), fun h => h2 (getD_was (by decide) h), fun _ => rfl, fun h => h4 (getD_was (by decide) h), fun h => h5 (getD_was (by decide) h), fun h => h6 (getD_was (by decide) h)⟩
              · refine wpOp_step rfl (fun K hK => ?_)
                go_simp
                exact hK _ _ ⟨_, _, _, _, _, _, _, rfl, hB, fun h => h0 (getD_was (by decide) h), fun h => h1 (getD_was (by decide) h), fun h => h2 (getD_was (by decide) h), fun h => h3 (getD_was (by decide) h), fun _ => rfl, fun h => h5 (getD_was (by decide) h), fun h => h6 (getD_was (by decide) h)⟩
              · have q4 := h4 (ready_dep hr (by kernel_rfl))
                subst q4
                refine wpOp_step rfl (fun K hK => ?_)
                go_simp
                refine (pageFact_r _ w' HHa.out).mono ?_
                rintro e w'' ⟨rfl, hb⟩
                exact hK _ _ ⟨_, _, _, _, _, _, _, rfl, hB.trans (hb.mono hB.size), fun h => KeyR.below (h0 (getD_was (by decide) h)) hb, fun h => h1 (getD_was (by decide) h), fun h => h2 (getD_was (by decide) h), fun h => h3 (getD_was (by decide) h), fun _ => rfl, fun _ => rfl, fun h => ItR.below (h6 (getD_was (by decide) h)) hb⟩
              · have q1 := h1 (ready_dep hr (by kernel_rfl))
                have q2 := h2 (ready_dep hr (by kernel_rfl))
                have q3 := h3 (ready_dep hr (by kernel_rfl))
                have q5 := h5 (ready_dep hr (by kernel_rfl))
                subst q1
                subst q2
                subst q3
                subst q5
                simp only [valAgg, vSafe, vPage, inV, argsC, namedC, Val.kind, Val.flag, Val.num, Val.text, if_false, Bool.false_eq_true]
                refine wpOp_step rfl (fun K hK => ?_)
                go_simp
                have hb := (Below.refl w'.heap.size w').alloc (Nat.le_refl _) (.cells (flatV (partsD l false addr inner (.slice Ao mk co) (.slice Co mi ci) (.slice Bo nb cb))).toArray 35)
                exact hK _ _ ⟨_, _, _, _, _, _, _, rfl, hB.alloc hB.size _, fun h => KeyR.below (h0 (getD_was (by decide) h)) hb, fun _ => rfl, fun _ => rfl, fun _ => rfl, fun h => h4 (getD_was (by decide) h), fun _ => rfl, fun _ => ⟨_, rfl, hB.size, CB.new _ _ _⟩⟩
            case last =>
              intro a' w' hI
              obtain ⟨x0, x1, x2, x3, x4, x5, x6, rfl, hB, h0, h1, h2, h3, h4, h5, h6⟩ := hI
              have q0 := h0 rfl
              have q6 := h6 rfl
              clear h0 h1 h2 h3 h4 h5 h6
              obtain ⟨g2, rfl, hg2, hc2⟩ := q0
              obtain ⟨g1, rfl, hg1, hc1⟩ := q6
              refine wpAny_of_seqA 2 7 rfl (by kernel_rfl) ?_
              simp only [List.drop_succ_cons, List.drop_zero]
              have HC2 := Lib.hid hc2
              have HG2 := Lib.hid hg2
              have HC1 := Lib.hid hc1
              have HG1 := Lib.hid hg1
              have HS8 := Lib.hid (HS3.out.below hB)
              clear hc2 hg2 hc1 hg1
              go_wp2_with fail
              refine (table_r _ _ _ _ _ _ w').mono ?_
              rintro e w9 ⟨rfl, hb9⟩
              have HS9 := Lib.hid (HS8.out.below hb9)
              have HI9 := Lib.hid (HC1.out.below hb9)
              have HK9 := Lib.hid (HC2.out.below hb9)
              have hKn := HS9.out.hK
              have hKw2 := HS3.out.hKw
              have hg3 := HG2.out
              have hg4 := HG1.out
              have HIt := Lib.hid (dot_items (P := fun b => n + 4 ≤ b) HI9.out (show n + 4 ≤ g1 by omega) (vals_of_row HS9.out.ho HS9.out.h1 (unN_flat HSizes.out))
                ((vals_of_row HS9.out.hi (by rw [HMj.out]; unfold itN; rw [List.length_map, ← HS9.out.h2]) (itN_flat HSizes.out _)).keep (KeepsIn.refl _ _) (fun b _ hb => by omega)) ((strs_own HS9.out.hk (fun s hs => nm_sizes HSizes.out hs)).keep (KeepsIn.refl _ _) (fun b _ hb => by omega)) HIn.out HHa.out)
              have HKy := Lib.hid (dot_keys HK9.out (P := fun b => n + 4 ≤ b) (show n + 4 ≤ g2 by omega))
              clear hb9
              have HR9 := Lib.hid (show CB w9 (n + 1) 35 zeroVC from HS9.out.hr)
              have HB9 := Lib.hid HS9.out.hb
              have zc0 := HR9.out.c 0
              have zf0 := HR9.out.f 0
              have zc1 := HR9.out.c 1
              have zf1 := HR9.out.f 1
              have zc2 := HR9.out.c 2
              have zf2 := HR9.out.f 2
              have zc3 := HR9.out.c 3
              have zf3 := HR9.out.f 3
              have zc4 := HR9.out.c 4
              have zf4 := HR9.out.f 4
              have zc5 := HR9.out.c 5
              have zf5 := HR9.out.f 5
              have zsh := HR9.out.sh
              have hnz : n + 1 < w9.heap.size := HR9.out.lt
              simp only [zeroVC, List.getElem?_toArray, List.getElem?_cons_zero, List.getElem?_cons_succ] at zc0 zc1 zc2 zc3 zc4 zc5
              unfold tabV
              go_wp2_with fail
              have K1 : KeepsIn (fun b => n + 4 ≤ b) w9 (((((((w9).setCell ⟨n + 1, 0, none⟩ (.int .i64 6)).setCell ⟨n + 1, 1, none⟩ (.bool false)).setCell ⟨n + 1, 2, none⟩ (.int .i64 0)).setCell ⟨n + 1, 3, none⟩ (.string ⟨#[]⟩)).setCell ⟨n + 1, 4, none⟩ (.slice (some ⟨g1, 0, none⟩) 4 4)).setCell ⟨n + 1, 5, none⟩ (.slice (some ⟨g2, 0, none⟩) 4 4)) :=
                (((((keepsIn_set (by omega)).trans (keepsIn_set (by omega))).trans (keepsIn_set (by omega))).trans (keepsIn_set (by omega))).trans (keepsIn_set (by omega))).trans (keepsIn_set (by omega))
              exact val_done (n := n + 1) rfl ((((((HR9.out.put 0 _).put 1 _).put 2 _).put 3 _).put 4 _).put 5 _) rfl rfl rfl
                ⟨some ⟨g1, 0, none⟩, 4, 4, some ⟨g2, 0, none⟩, 4, 4, rfl, ⟨_, _, rfl, ⟨i64_6, i64_0, Nat.zero_le _⟩, HIt.out.keep K1 (fun b _ hb => by omega), HKy.out.keep K1 (fun b _ hb => by omega)⟩,
                  (((((HB9.out.setB (by omega) 0 _).setB (by omega) 1 _).setB (by omega) 2 _).setB (by omega) 3 _).setB (by omega) 4 _).setB (by omega) 5 _⟩
          | true =>
            go_wp2_with (go_at_call 20; go_must (refine (safe_r _ _).mono ?_); rintro e w4 ⟨rfl, hb3⟩; have HB3 := Lib.hid hb3; have HZ3 := Lib.hid (HZ0.out.below hb3); have hz3 := HZ3.out.lt; have zc0 := HZ3.out.c 0; have zf0 := HZ3.out.f 0; have zc1 := HZ3.out.c 1; have zf1 := HZ3.out.f 1; have zc2 := HZ3.out.c 2; have zf2 := HZ3.out.f 2; have zc3 := HZ3.out.c 3; have zf3 := HZ3.out.f 3; have zc4 := HZ3.out.c 4; have zf4 := HZ3.out.f 4; have zc5 := HZ3.out.c 5; have zf5 := HZ3.out.f 5; have zsh := HZ3.out.sh; simp only [List.getElem?_toArray, List.getElem?_cons_zero, List.getElem?_cons_succ] at zc0 zc1 zc2 zc3 zc4 zc5; clear hb3; simp only [valAgg, vSafe, Val.kind, Val.flag, Val.num, Val.text])
            obtain ⟨W1, hW1⟩ : ∃ W1, ((((((w4).setCell ⟨wr.heap.size, 0, none⟩ (.int .i64 7)).setCell ⟨wr.heap.size, 1, none⟩ (.bool false)).setCell ⟨wr.heap.size, 2, none⟩ (.int .i64 0)).setCell ⟨wr.heap.size, 3, none⟩ (.string inner)).setCell ⟨wr.heap.size, 4, none⟩ (.slice none 0 0)).setCell ⟨wr.heap.size, 5, none⟩ (.slice none 0 0) = W1 := ⟨_, rfl⟩
            have HB1 := Lib.hid (show Below wr.heap.size wr W1 by rw [← hW1]; exact ((((((((Below.refl wr.heap.size wr).alloc (Nat.le_refl _) (.cells #[.int .i64 0, .bool false, .int .i64 0, .string ⟨#[]⟩, .slice none 0 0, .slice none 0 0] 35)).trans (HB3.out.mono (Nat.le_of_lt hws))).setB (Nat.le_refl _) 0 _).setB (Nat.le_refl _) 1 _).setB (Nat.le_refl _) 2 _).setB (Nat.le_refl _) 3 _).setB (Nat.le_refl _) 4 _).setB (Nat.le_refl _) 5 _)
            have HI1 := Lib.hid (show CB W1 wr.heap.size 35 #[.int .i64 7, .bool false, .int .i64 0, .string inner, .slice none 0 0, .slice none 0 0] by rw [← hW1]; exact (((((HZ3.out.put 0 _).put 1 _).put 2 _).put 3 _).put 4 _).put 5 _)
            have HS1 := Lib.hid (HR.out.below HB1.out)
            rw [hW1]
            clear hW1
            refine wp_region_any (by kernel_rfl) ?_
            change wpAny _ _ _ _ _ _ _ W1.drew
            obtain ⟨W2, hW2⟩ : ∃ W2, W1.drew = W2 := ⟨_, rfl⟩
            have HB2 := Lib.hid (show Below W1.heap.size W1 W2 by rw [← hW2]; exact (Below.refl _ _).drew)
            rw [hW2]
            clear hW2
            have HI3 := Lib.hid (HI1.out.below HB2.out)
            have HA3 := Lib.hid (show CB W2 (n + 1 + 1) 35 (argsC Ao mk co) from HS1.out.ha.below HB2.out)
            have HD3 := Lib.hid (show CB W2 (n + 1 + 1 + 1) 35 (namedC Co mi ci Bo nb cb) from HS1.out.hd.below HB2.out)
            have HS3 := Lib.hid (HS1.out.below HB2.out)
            obtain ⟨T, hT⟩ : ∃ T, wr.heap.size = T := ⟨_, rfl⟩
            have HT := Lib.hid hT
            rw [hT] at HI3
            rw [hT]
            clear hT
            refine wpAny_inv [0, 1, 2, 3, 4, 5, 6] (IDotF24 (fun v82 v83 v84 v85 v86 v87 v88 => ⟨#[Value.agg #[Value.string tx, Value.string nm, Value.slice A l.length c, Value.bool true, Value.slice A2 m2 c2], Value.string addr, Value.string inner, Value.pointer (some { block := n, off := 0 }), undef, undef, Value.pointer (some { block := n + 1, off := 0 }), Value.pointer (some { block := n + 1 + 1, off := 0 }), Value.pointer (some { block := n + 1 + 1 + 1, off := 0 }), Value.slice No nk cn, undef, u11, undef, u13, undef, u15, Value.pointer (some { block := T, off := 0 }), Value.agg #[Value.int IntKind.i64 5, Value.bool false, Value.int IntKind.i64 0, Value.string { data := #[] }, Value.slice none 0 0, Value.slice none 0 0], Value.agg #[Value.int IntKind.i64 6, Value.bool false, Value.int IntKind.i64 0, Value.string { data := #[] }, Value.slice none 0 0, Value.slice none 0 0], Value.pointer (some { block := n, off := 2 }), Value.slice A l.length c, Value.int IntKind.i64 ↑l.length, Value.int IntKind.i64 ↑k, Value.bool false, u24, u25, u26, u27, u28, u29, u30, u31, u32, u33, u34, u35, u36, u37, u38, u39, u40, u41, u42, Value.slice No nk cn, Value.slice So j cs, Value.int IntKind.i64 ↑j, Value.int IntKind.i64 ↑j, Value.bool false, u48, u49, u50, u51, u52, u53, u54, u55, u56, u57, u58, u59, u60, u61, u62, u63, u64, u65, u66, u67, u68, u69, u70, u71, u72, u73, u74, u75, u76, Value.agg #[Value.int IntKind.i64 0, Value.bool false, Value.int IntKind.i64 0, Value.string { data := #[] }, Value.slice none 0 0, Value.slice none 0 0], Value.pointer (some { block := n, off := 3 }), Value.bool true, Value.string inner, Value.agg #[Value.int IntKind.i64 7, Value.bool false, Value.int IntKind.i64 0, Value.string inner, Value.slice none 0 0, Value.slice none 0 0], v82, v83, v84, v85, v86, v87, v88, undef], []⟩) l true addr inner Ao mk co Co mi ci Bo nb cb W2) #[true, true, true, true, true, true, true, false, false] (g := 2) (by kernel_rfl) (by kernel_rfl) (by kernel_rfl) (IDotF24.start undef undef undef undef undef undef undef rfl) ?step ?last
            case step =>
              intro i hi L a' w' hs hr hI
              obtain ⟨x0, x1, x2, x3, x4, x5, x6, rfl, hB, h0, h1, h2, h3, h4, h5, h6⟩ := hI
              simp only [List.mem_cons, List.not_mem_nil, or_false] at hi
              rcases hi with rfl | rfl | rfl | rfl | rfl | rfl | rfl
              · refine wpOp_step rfl (fun K hK => ?_)
                go_simp
                have hb := (Below.refl w'.heap.size w').alloc (Nat.le_refl _) (.cells (keysC kDotU) 9)
                exact hK _ _ ⟨_, _, _, _, _, _, _, rfl, hB.alloc hB.size _, fun _ => ⟨_, rfl, hB.size, CB.new _ _ _⟩, fun h => h1 (getD_was (by decide) h), fun h => h2 (getD_was (by decide) h), fun h => h3 (getD_was (by decide) h), fun h => h4 (getD_was (by decide) h), fun h => h5 (getD_was (by decide) h), fun h => ItR.below (h6 (getD_was (by decide) h)) hb⟩
              · have z0 := (HA3.out.below hB).c 0
                have z1 := (HA3.out.below hB).c 1
                have z2 := (HA3.out.below hB).c 2
                have z3 := (HA3.out.below hB).c 3
                have z4 := (HA3.out.below hB).c 4
                have z5 := (HA3.out.below hB).c 5
                have zsh := (HA3.out.below hB).sh
                simp only [argsC, List.getElem?_toArray, List.getElem?_cons_zero, List.getElem?_cons_succ] at z0 z1 z2 z3 z4 z5
                refine wpOp_step rfl (fun K hK => ?_)
                go_simp
                exact hK _ _ ⟨_, _, _, _, _, _, _, rfl, hB, fun h => h0 (getD_was (by decide) h), fun _ => rfl, fun h => h2 (getD_was (by decide) h), fun h => h3 (getD_was (by decide) h), fun h => h4 (getD_was (by decide) h), fun h => h5 (getD_was (by decide) h), fun h => h6 (getD_was (by decide) h)⟩
              · have z0 := (HI3.out.below hB).c 0
                have z1 := (HI3.out.below hB).c 1
                have z2 := (HI3.out.below hB).c 2
                have z3 := (HI3.out.below hB).c 3
                have z4 := (HI3.out.below hB).c 4
                have z5 := (HI3.out.below hB).c 5
                have zsh := (HI3.out.below hB).sh
                simp only [List.getElem?_toArray, List.getElem?_cons_zero, List.getElem?_cons_succ] at z0 z1 z2 z3 z4 z5
                refine wpOp_step rfl (fun K hK => ?_)
                go_simp
                exact hK _ _ ⟨_, _, _, _, _, _, _, rfl, hB, fun h => h0 (getD_was (by decide) h), fun h => h1 (getD_was (by decide) h), fun _ => rfl, fun h => h3 (getD_was (by decide) h), fun h => h4 (getD_was (by decide) h), fun h => h5 (getD_was (by decide) h), fun h => h6 (getD_was (by decide) h)⟩
              · have z0 := (HD3.out.below hB).c 0
                have z1 := (HD3.out.below hB).c 1
                have z2 := (HD3.out.below hB).c 2
                have z3 := (HD3.out.below hB).c 3
                have z4 := (HD3.out.below hB).c 4
                have z5 := (HD3.out.below hB).c 5
                have zsh := (HD3.out.below hB).sh
                simp only [namedC, List.getElem?_toArray, List.getElem?_cons_zero, List.getElem?_cons_succ] at z0 z1 z2 z3 z4 z5
                refine wpOp_step rfl (fun K hK => ?_)
                go_simp
                exact hK _ _ ⟨_, _, _, _, _, _, _, rfl, hB, fun h => h0 (getD_was (by decide) h), fun h => h1 (getD_was (by decide) h), fun h => h2 (getD_was (by decide) h), fun _ => rfl, fun h => h4 (getD_was (by decide) h), fun h => h5 (getD_was (by decide) h), fun h => h6 (getD_was (by decide) h)⟩
              · refine wpOp_step rfl (fun K hK => ?_)
                go_simp
                exact hK _ _ ⟨_, _, _, _, _, _, _, rfl, hB, fun h => h0 (getD_was (by decide) h), fun h => h1 (getD_was (by decide) h), fun h => h2 (getD_was (by decide) h), fun h => h3 (getD_was (by decide) h), fun _ => rfl, fun h => h5 (getD_was (by decide) h), fun h => h6 (getD_was (by decide) h)⟩
              · have q4 := h4 (ready_dep hr (by kernel_rfl))
                subst q4
                refine wpOp_step rfl (fun K hK => ?_)
                go_simp
                refine (pageFact_r _ w' HHa.out).mono ?_
                rintro e w'' ⟨rfl, hb⟩
                exact hK _ _ ⟨_, _, _, _, _, _, _, rfl, hB.trans (hb.mono hB.size), fun h => KeyR.below (h0 (getD_was (by decide) h)) hb, fun h => h1 (getD_was (by decide) h), fun h => h2 (getD_was (by decide) h), fun h => h3 (getD_was (by decide) h), fun _ => rfl, fun _ => rfl, fun h => ItR.below (h6 (getD_was (by decide) h)) hb⟩
              · have q1 := h1 (ready_dep hr (by kernel_rfl))
                have q2 := h2 (ready_dep hr (by kernel_rfl))
                have q3 := h3 (ready_dep hr (by kernel_rfl))
                have q5 := h5 (ready_dep hr (by kernel_rfl))
                subst q1
                subst q2
                subst q3
                subst q5
                simp only [valAgg, vSafe, vPage, inV, argsC, namedC, Val.kind, Val.flag, Val.num, Val.text, if_true]
                refine wpOp_step rfl (fun K hK => ?_)
                go_simp
                have hb := (Below.refl w'.heap.size w').alloc (Nat.le_refl _) (.cells (flatV (partsD l true addr inner (.slice Ao mk co) (.slice Co mi ci) (.slice Bo nb cb))).toArray 35)
                exact hK _ _ ⟨_, _, _, _, _, _, _, rfl, hB.alloc hB.size _, fun h => KeyR.below (h0 (getD_was (by decide) h)) hb, fun _ => rfl, fun _ => rfl, fun _ => rfl, fun h => h4 (getD_was (by decide) h), fun _ => rfl, fun _ => ⟨_, rfl, hB.size, CB.new _ _ _⟩⟩
            case last =>
              intro a' w' hI
              obtain ⟨x0, x1, x2, x3, x4, x5, x6, rfl, hB, h0, h1, h2, h3, h4, h5, h6⟩ := hI
              have q0 := h0 rfl
              have q6 := h6 rfl
              clear h0 h1 h2 h3 h4 h5 h6
              obtain ⟨g2, rfl, hg2, hc2⟩ := q0
              obtain ⟨g1, rfl, hg1, hc1⟩ := q6
              refine wpAny_of_seqA 2 7 rfl (by kernel_rfl) ?_
              simp only [List.drop_succ_cons, List.drop_zero]
              have HC2 := Lib.hid hc2
              have HG2 := Lib.hid hg2
              have HC1 := Lib.hid hc1
              have HG1 := Lib.hid hg1
              have HS8 := Lib.hid (HS3.out.below hB)
              clear hc2 hg2 hc1 hg1
              go_wp2_with fail
              refine (table_r _ _ _ _ _ _ w').mono ?_
              rintro e w9 ⟨rfl, hb9⟩
              have HS9 := Lib.hid (HS8.out.below hb9)
              have HI9 := Lib.hid (HC1.out.below hb9)
              have HK9 := Lib.hid (HC2.out.below hb9)
              have hKn := HS9.out.hK
              have hKw2 := HS3.out.hKw
              have hg3 := HG2.out
              have hg4 := HG1.out
              have HIt := Lib.hid (dot_items (P := fun b => n + 4 ≤ b) HI9.out (show n + 4 ≤ g1 by omega) (vals_of_row HS9.out.ho HS9.out.h1 (unN_flat HSizes.out))
                ((vals_of_row HS9.out.hi (by rw [HMj.out]; unfold itN; rw [List.length_map, ← HS9.out.h2]) (itN_flat HSizes.out _)).keep (KeepsIn.refl _ _) (fun b _ hb => by omega)) ((strs_own HS9.out.hk (fun s hs => nm_sizes HSizes.out hs)).keep (KeepsIn.refl _ _) (fun b _ hb => by omega)) HIn.out HHa.out)
              have HKy := Lib.hid (dot_keys HK9.out (P := fun b => n + 4 ≤ b) (show n + 4 ≤ g2 by omega))
              clear hb9
              have HR9 := Lib.hid (show CB w9 (n + 1) 35 zeroVC from HS9.out.hr)
              have HB9 := Lib.hid HS9.out.hb
              have zc0 := HR9.out.c 0
              have zf0 := HR9.out.f 0
              have zc1 := HR9.out.c 1
              have zf1 := HR9.out.f 1
              have zc2 := HR9.out.c 2
              have zf2 := HR9.out.f 2
              have zc3 := HR9.out.c 3
              have zf3 := HR9.out.f 3
              have zc4 := HR9.out.c 4
              have zf4 := HR9.out.f 4
              have zc5 := HR9.out.c 5
              have zf5 := HR9.out.f 5
              have zsh := HR9.out.sh
              have hnz : n + 1 < w9.heap.size := HR9.out.lt
              simp only [zeroVC, List.getElem?_toArray, List.getElem?_cons_zero, List.getElem?_cons_succ] at zc0 zc1 zc2 zc3 zc4 zc5
              unfold tabV
              go_wp2_with fail
              have K1 : KeepsIn (fun b => n + 4 ≤ b) w9 (((((((w9).setCell ⟨n + 1, 0, none⟩ (.int .i64 6)).setCell ⟨n + 1, 1, none⟩ (.bool false)).setCell ⟨n + 1, 2, none⟩ (.int .i64 0)).setCell ⟨n + 1, 3, none⟩ (.string ⟨#[]⟩)).setCell ⟨n + 1, 4, none⟩ (.slice (some ⟨g1, 0, none⟩) 4 4)).setCell ⟨n + 1, 5, none⟩ (.slice (some ⟨g2, 0, none⟩) 4 4)) :=
                (((((keepsIn_set (by omega)).trans (keepsIn_set (by omega))).trans (keepsIn_set (by omega))).trans (keepsIn_set (by omega))).trans (keepsIn_set (by omega))).trans (keepsIn_set (by omega))
              exact val_done (n := n + 1) rfl ((((((HR9.out.put 0 _).put 1 _).put 2 _).put 3 _).put 4 _).put 5 _) rfl rfl rfl
                ⟨some ⟨g1, 0, none⟩, 4, 4, some ⟨g2, 0, none⟩, 4, 4, rfl, ⟨_, _, rfl, ⟨i64_6, i64_0, Nat.zero_le _⟩, HIt.out.keep K1 (fun b _ hb => by omega), HKy.out.keep K1 (fun b _ hb => by omega)⟩,
                  (((((HB9.out.setB (by omega) 0 _).setB (by omega) 1 _).setB (by omega) 2 _).setB (by omega) 3 _).setB (by omega) 4 _).setB (by omega) 5 _⟩

end Go.Proofs.YtphmhhonbkcajaaDoor
