/-
  The replacer while it is built: what its block holds after m of its four signs.
-/
import Derived.Test.YtelelpjhepcmbaaGreatEscRepl
import Derived.Test.YtelelpjhepcmbaaGreatBuilderK
import Derived.Test.YtelelpjhepcmbaaGreatConv
import Derived.Lib.ConvBytes
namespace Go.Proofs.YtelelpjhepcmbaaGreat
open Go.RowKit Go.Deep

/-- a block of bytes that begins with these -/
def BytesBlk (w : World) (g : Nat) (l : List UInt8) : Prop := ∃ cs fz, w.heap[g]? = some (.cells cs 5 fz) ∧ ∀ (j : Nat) (x : UInt8), l[j]? = some x → cs[j]? = some (.int .u8 x.toNat)
theorem BytesBlk.same {w w' : World} {g : Nat} {l : List UInt8} (h : BytesBlk w g l) (e : w'.heap[g]? = w.heap[g]?) : BytesBlk w' g l := by
  obtain ⟨cs, fz, h1, h2⟩ := h
  exact ⟨cs, fz, by rw [e]; exact h1, h2⟩
theorem BytesBlk.lt {w : World} {g : Nat} {l : List UInt8} (h : BytesBlk w g l) : g < w.heap.size := by
  obtain ⟨cs, fz, h1, h2⟩ := h
  exact (Array.getElem?_eq_some_iff.1 h1).1
theorem BytesBlk.cell {w : World} {g : Nat} {l : List UInt8} (h : BytesBlk w g l) (j : Nat) (x : UInt8) (hx : l[j]? = some x) : w.cell? ⟨g, j, none⟩ = some (.int .u8 x.toNat) := by
  obtain ⟨cs, fz, h1, h2⟩ := h
  rw [cell_of_row w g j cs 5 fz h1]
  exact h2 j x hx
def trS (m : Nat) : List Value := (trB.take m).map fun c => Value.string ⟨#[c]⟩
structure RepM (w : World) (b m : Nat) (A : Option Addr) (ct : Nat) (cs : Array Value) : Prop where
  blk : CB w b 100 cs
  sz : cs.size = 257
  top : cs[256]? = some (.slice A m ct)
  no : ∀ c : UInt8, c ∉ trB.take m → cs[c.toNat]? = some (.slice none 0 0)
  yes : ∀ (c : UInt8) (l : List UInt8), c ∈ trB.take m → escF c = some l → ∃ g cap, cs[c.toNat]? = some (.slice (some ⟨g, 0, none⟩) l.length cap) ∧ l.length ≤ cap ∧ cap ≤ 9223372036854775807 ∧ BytesBlk w g l
/-- old blocks stay: but for the own row of strings -/
theorem RepM.move {w w' : World} {b m : Nat} {A : Option Addr} {ct : Nat} {cs : Array Value} (h : RepM w b m A ct cs) (k : ∀ (g : Nat) (cs2 : Array Value) (t : TypeId) (fz : Nat × Nat), w.heap[g]? = some (.cells cs2 t fz) → t ≠ 9 → w'.heap[g]? = w.heap[g]?) : RepM w' b m A ct cs := by
  refine ⟨(k b _ _ _ h.blk (by decide)).trans h.blk, h.sz, h.top, h.no, fun c l hc hl => ?_⟩
  obtain ⟨g, cap, h1, h2, h3, h4⟩ := h.yes c l hc hl
  obtain ⟨cs2, fz, h5, _⟩ := id h4
  exact ⟨g, cap, h1, h2, h3, h4.same (k g _ _ _ h5 (by decide))⟩
theorem RepM.below {w w' : World} {b m : Nat} {A : Option Addr} {ct : Nat} {cs : Array Value} (h : RepM w b m A ct cs) (hb : Below w.heap.size w w') : RepM w' b m A ct cs :=
  h.move (fun g _ _ _ hg _ => hb.block g (Array.getElem?_eq_some_iff.1 hg).1)
theorem RepM.grown {w w' : World} {b m : Nat} {A : Option Addr} {ct : Nat} {cs : Array Value} {B n : Nat} {v : Value} {xs : List Value} (h : RepM w b m A ct cs) (ho : w.ownsRow B 9 1 v n xs) (hg : w.grownBy w' v.ownBlock) : RepM w' b m A ct cs := by
  refine h.move (fun g cs2 t fz hgb ht => hg.block g (Array.getElem?_eq_some_iff.1 hgb).1 ?_)
  intro e
  rcases ho.2 with ⟨rfl, rfl⟩ | ⟨g2, cap, cur, rfl, hB, hgg, _⟩
  · simp [Value.ownBlock] at e
  · have e2 : g = g2 := by simpa [Value.ownBlock] using e
    subst e2
    have := hgb.symm.trans hgg
    simp at this
    exact ht this.2.1
/-- one sign more -/
theorem RepM.step {w : World} {b m : Nat} {A : Option Addr} {ct : Nat} {cs : Array Value} (h : RepM w b m A ct cs) {c : UInt8} {l : List UInt8} (hm : trB.take (m + 1) = trB.take m ++ [c]) (hf : escF c = some l) {A' : Option Addr} {ct' g cap : Nat} (hlc : l.length ≤ cap) (hcap : cap ≤ 9223372036854775807)
    {w1 w2 w3 : World} (h1 : w1 = w.setCell ⟨b, 256, none⟩ (.slice A' (m + 1) ct')) (hb : Below w1.heap.size w1 w2) (hg : BytesBlk w2 g l) (h3 : w3 = w2.setCell ⟨b, c.toNat, none⟩ (.slice (some ⟨g, 0, none⟩) l.length cap)) :
    ∃ cs', RepM w3 b (m + 1) A' ct' cs' := by
  have hb1 : CB w1 b 100 (cs.setIfInBounds 256 (.slice A' (m + 1) ct')) := by rw [h1]; exact h.blk.put 256 _
  have hb2 : CB w2 b 100 (cs.setIfInBounds 256 (.slice A' (m + 1) ct')) := hb1.below hb
  have hne : ∀ (g' : Nat) (l' : List UInt8) (W : World), BytesBlk W g' l' → CB W b 100 (cs.setIfInBounds 256 (.slice A' (m + 1) ct')) → g' ≠ b := by
    rintro g' l' W ⟨cs2, fz, h5, _⟩ h6 rfl
    have h7 : W.heap[g']? = some (.cells (cs.setIfInBounds 256 (.slice A' (m + 1) ct')) 100 (0, 0)) := h6
    rw [h5] at h7
    simp at h7
  have hlt : c.toNat < 256 := c.toNat_lt
  have hset : ∀ (W : World) (o : Nat) (v : Value) (g' : Nat) (l' : List UInt8), BytesBlk W g' l' → g' ≠ b → BytesBlk (W.setCell ⟨b, o, none⟩ v) g' l' := fun W o v g' l' hB hn => hB.same ((grown_setB W b o v).block g' hB.lt (by simpa using hn))
  refine ⟨(cs.setIfInBounds 256 (.slice A' (m + 1) ct')).setIfInBounds c.toNat (.slice (some ⟨g, 0, none⟩) l.length cap), ?_, by simp [h.sz], ?_, fun d hd => ?_, fun d l' hd hl' => ?_⟩
  · rw [h3]; exact hb2.put _ _
  · rw [Array.getElem?_setIfInBounds_ne (by omega)]
    simp [h.sz]
  · rw [hm] at hd
    have hdc : d ≠ c := by rintro rfl; exact hd (by simp)
    have hd1 : d ∉ trB.take m := fun hx => hd (List.mem_append_left _ hx)
    have hdt : c.toNat ≠ d.toNat := fun e => hdc (UInt8.toNat_inj.1 e.symm)
    have hd256 : d.toNat < 256 := d.toNat_lt
    rw [Array.getElem?_setIfInBounds_ne hdt, Array.getElem?_setIfInBounds_ne (by omega)]
    exact h.no d hd1
  · by_cases hdc : d = c
    · subst hdc
      rw [hf] at hl'
      cases hl'
      exact ⟨g, cap, Array.getElem?_setIfInBounds_self_of_lt (by rw [Array.size_setIfInBounds, h.sz]; omega), hlc, hcap, by rw [h3]; exact hset _ _ _ _ _ hg (hne _ _ _ hg hb2)⟩
    · rw [hm] at hd
      have hd1 : d ∈ trB.take m := by
        rcases List.mem_append.1 hd with hx | hx
        · exact hx
        · simp at hx; exact absurd hx hdc
      obtain ⟨g', cap', k1, k2, k3, k4⟩ := h.yes d l' hd1 hl'
      have hdt : c.toNat ≠ d.toNat := fun e => hdc (UInt8.toNat_inj.1 e.symm)
      have hd256 : d.toNat < 256 := d.toNat_lt
      have n1 : g' ≠ b := by
        obtain ⟨cs2, fz, h5, _⟩ := id k4
        intro e
        have h7 : w.heap[b]? = some (.cells cs 100 (0, 0)) := h.blk
        rw [← e, h5] at h7
        simp at h7
      have k5 : BytesBlk w1 g' l' := by rw [h1]; exact hset _ _ _ _ _ k4 n1
      have k6 : BytesBlk w2 g' l' := k5.same (hb.block g' k5.lt)
      refine ⟨g', cap', ?_, k2, k3, by rw [h3]; exact hset _ _ _ _ _ k6 n1⟩
      rw [Array.getElem?_setIfInBounds_ne hdt, Array.getElem?_setIfInBounds_ne (by omega)]
      exact k1
theorem RepM.done {w : World} {b : Nat} {A : Option Addr} {ct : Nat} {cs : Array Value} {B : Nat} (h : RepM w b 4 A ct cs) (ho : w.ownsRow B 9 1 (.slice A 4 ct) 4 (trS 4)) : ReplAt w b := by
  have hcell : ∀ i, w.cell? ⟨b, i, none⟩ = cs[i]? := fun i => h.blk.c i
  have hmem : ∀ c : UInt8, c ∈ trB.take 4 ↔ escF c ≠ none := by
    intro c
    simp only [trB, List.take_succ_cons, List.take_zero, List.mem_cons, List.not_mem_nil, or_false, escF]
    constructor
    · rintro (rfl | rfl | rfl | rfl) <;> decide
    · intro hx
      by_cases h1 : c = 38
      · exact Or.inr (Or.inr (Or.inr h1))
      by_cases h2 : c = 60
      · exact Or.inr (Or.inr (Or.inl h2))
      by_cases h3 : c = 62
      · exact Or.inr (Or.inl h3)
      by_cases h4 : c = 34
      · exact Or.inl h4
      simp [h1, h2, h3, h4] at hx
  refine ⟨fun c hc => by rw [hcell]; exact h.no c (fun hx => (hmem c).1 hx hc), fun c l hc => ?_, ?_, ?_⟩
  · obtain ⟨g, cap, h1, h2, h3, h4⟩ := h.yes c l ((hmem c).2 (by rw [hc]; simp)) hc
    exact ⟨g, cap, by rw [hcell]; exact h1, h2, h3, h4.cell⟩
  · obtain ⟨A', c', e, hm, hnc, hA⟩ := own_form ho
    cases e
    obtain ⟨g, rfl, hBg, hgl⟩ := hA (by omega)
    refine ⟨g, ct, by rw [hcell]; exact h.top, hnc, hm, fun j x hj => own_cell ho ?_⟩
    rw [trS, show trB.take 4 = trB from rfl, List.getElem?_map, hj]; rfl
  · rw [h.blk.sh, h.sz]

end Go.Proofs.YtelelpjhepcmbaaGreat
