/-
  mark.Escape.
-/
import Derived.Test.YtbhildmalcfhiaaGreatDoorEscPlain
import Derived.Test.YtbhildmalcfhiaaGreatDoorBox
import Derived.Test.YtbhildmalcfhiaaGreatDoorRowOps
import Derived.Laws.Strings2
import Derived.Laws.OwnMore
import Derived.BigQuiet
import Derived.Deep.QuietTactic
import Derived.RegionTactic
import Derived.Deep.OwnRows
import Derived.Outline
import Derived.Deep.DeepMust
import Derived.Test.YtbhildmalcfhiaaGreatDoorBuilderK
import Derived.Test.YtbhildmalcfhiaaGreatDoorConv
import Derived.Lib.ConvBytes
import Derived.Deep.WholeRow
import Derived.Defers
import Derived.RegionCalls
import Derived.Laws.LoneSync
import Derived.Handy
import Derived.Test.YtbhildmalcfhiaaGreatDoorEscRef
namespace Go.Proofs.YtbhildmalcfhiaaGreatDoor
open Go.RowKit Go.Deep

/-- the row that is written: what stands already, then zeros -/
def rowE (l : List UInt8) (n : Nat) : List Value := byteCells l ++ List.replicate (n - l.length) (.int .u8 0)
def lenN (s : ByteArray) (k : Nat) : Nat := s.size + gainL (s.data.toList.take k)
def lenK (s : ByteArray) (k : Nat) : Nat := s.size + gainK s.data.toList k
end Go.Proofs.YtbhildmalcfhiaaGreatDoor

namespace Go.Proofs.YtbhildmalcfhiaaGreatDoor
open Go.RowKit Go.Deep

/-- a block of bytes that begins with these -/
def BytesBlk (w : World) (g : Nat) (l : List UInt8) : Prop := ∃ cs fz, w.heap[g]? = some (.cells cs 5 fz) ∧ ∀ (j : Nat) (x : UInt8), l[j]? = some x → cs[j]? = some (.int .u8 x.toNat)
theorem BytesBlk.same {w w' : World} {g : Nat} {l : List UInt8} (h : BytesBlk w g l) (e : w'.heap[g]? = w.heap[g]?) : BytesBlk w' g l := by
  obtain ⟨cs, fz, h1, h2⟩ := h
  exact ⟨cs, fz, by rw [e]; exact h1, h2⟩
theorem BytesBlk.lt {w : World} {g : Nat} {l : List UInt8} (h : BytesBlk w g l) : g < w.heap.size := by
  obtain ⟨cs, fz, h1, h2⟩ := h
  exact (Array.getElem?_eq_some_iff.1 h1).1
theorem BytesBlk.cell {w : World} {g : Nat} {l : List UInt8} (h : BytesBlk w g l) (j : Nat) (x : UInt8) (hx : l[j]? = some x) : w.cell? ⟨g, j, none⟩ = some (.int .u8 x.toNat) := by
  obtain ⟨cs, fz, h1, h2⟩ := h
  rw [cell_of_row w g j cs 5 fz h1]
  exact h2 j x hx
def trS (m : Nat) : List Value := (trB.take m).map fun c => Value.string ⟨#[c]⟩
structure RepM (w : World) (b m : Nat) (A : Option Addr) (ct : Nat) (cs : Array Value) : Prop where
  blk : CB w b 269 cs
  sz : cs.size = 257
  top : cs[256]? = some (.slice A m ct)
  no : ∀ c : UInt8, c ∉ trB.take m → cs[c.toNat]? = some (.slice none 0 0)
  yes : ∀ (c : UInt8) (l : List UInt8), c ∈ trB.take m → escF c = some l → ∃ g cap, cs[c.toNat]? = some (.slice (some ⟨g, 0, none⟩) l.length cap) ∧ l.length ≤ cap ∧ cap ≤ 9223372036854775807 ∧ BytesBlk w g l
/-- old blocks stay: but for the own row of strings -/
theorem RepM.move {w w' : World} {b m : Nat} {A : Option Addr} {ct : Nat} {cs : Array Value} (h : RepM w b m A ct cs) (k : ∀ (g : Nat) (cs2 : Array Value) (t : TypeId) (fz : Nat × Nat), w.heap[g]? = some (.cells cs2 t fz) → t ≠ 9 → w'.heap[g]? = w.heap[g]?) : RepM w' b m A ct cs := by
  refine ⟨(k b _ _ _ h.blk (by decide)).trans h.blk, h.sz, h.top, h.no, fun c l hc hl => ?_⟩
  obtain ⟨g, cap, h1, h2, h3, h4⟩ := h.yes c l hc hl
  obtain ⟨cs2, fz, h5, _⟩ := id h4
  exact ⟨g, cap, h1, h2, h3, h4.same (k g _ _ _ h5 (by decide))⟩
theorem RepM.below {w w' : World} {b m : Nat} {A : Option Addr} {ct : Nat} {cs : Array Value} (h : RepM w b m A ct cs) (hb : Below w.heap.size w w') : RepM w' b m A ct cs :=
  h.move (fun g _ _ _ hg _ => hb.block g (Array.getElem?_eq_some_iff.1 hg).1)
theorem RepM.grown {w w' : World} {b m : Nat} {A : Option Addr} {ct : Nat} {cs : Array Value} {B n : Nat} {v : Value} {xs : List Value} (h : RepM w b m A ct cs) (ho : w.ownsRow B 9 1 v n xs) (hg : w.grownBy w' v.ownBlock) : RepM w' b m A ct cs := by
  refine h.move (fun g cs2 t fz hgb ht => hg.block g (Array.getElem?_eq_some_iff.1 hgb).1 ?_)
  intro e
  rcases ho.2 with ⟨rfl, rfl⟩ | ⟨g2, cap, cur, rfl, hB, hgg, _⟩
  · simp [Value.ownBlock] at e
  · have e2 : g = g2 := by simpa [Value.ownBlock] using e
    subst e2
    have := hgb.symm.trans hgg
    simp at this
    exact ht this.2.1
/-- one sign more -/
theorem RepM.step {w : World} {b m : Nat} {A : Option Addr} {ct : Nat} {cs : Array Value} (h : RepM w b m A ct cs) {c : UInt8} {l : List UInt8} (hm : trB.take (m + 1) = trB.take m ++ [c]) (hf : escF c = some l) {A' : Option Addr} {ct' g cap : Nat} (hlc : l.length ≤ cap) (hcap : cap ≤ 9223372036854775807)
    {w1 w2 w3 : World} (h1 : w1 = w.setCell ⟨b, 256, none⟩ (.slice A' (m + 1) ct')) (hb : Below w1.heap.size w1 w2) (hg : BytesBlk w2 g l) (h3 : w3 = w2.setCell ⟨b, c.toNat, none⟩ (.slice (some ⟨g, 0, none⟩) l.length cap)) :
    ∃ cs', RepM w3 b (m + 1) A' ct' cs' := by
  have hb1 : CB w1 b 269 (cs.setIfInBounds 256 (.slice A' (m + 1) ct')) := by rw [h1]; exact h.blk.put 256 _
  have hb2 : CB w2 b 269 (cs.setIfInBounds 256 (.slice A' (m + 1) ct')) := hb1.below hb
  have hne : ∀ (g' : Nat) (l' : List UInt8) (W : World), BytesBlk W g' l' → CB W b 269 (cs.setIfInBounds 256 (.slice A' (m + 1) ct')) → g' ≠ b := by
    rintro g' l' W ⟨cs2, fz, h5, _⟩ h6 rfl
    have h7 : W.heap[g']? = some (.cells (cs.setIfInBounds 256 (.slice A' (m + 1) ct')) 269 (0, 0)) := h6
    rw [h5] at h7
    simp at h7
  have hlt : c.toNat < 256 := c.toNat_lt
  have hset : ∀ (W : World) (o : Nat) (v : Value) (g' : Nat) (l' : List UInt8), BytesBlk W g' l' → g' ≠ b → BytesBlk (W.setCell ⟨b, o, none⟩ v) g' l' := fun W o v g' l' hB hn => hB.same ((grown_setB W b o v).block g' hB.lt (by simpa using hn))
  refine ⟨(cs.setIfInBounds 256 (.slice A' (m + 1) ct')).setIfInBounds c.toNat (.slice (some ⟨g, 0, none⟩) l.length cap), ?_, by simp [h.sz], ?_, fun d hd => ?_, fun d l' hd hl' => ?_⟩
  · rw [h3]; exact hb2.put _ _
  · rw [Array.getElem?_setIfInBounds_ne (by omega)]
    simp [h.sz]
  · rw [hm] at hd
    have hdc : d ≠ c := by rintro rfl; exact hd (by simp)
    have hd1 : d ∉ trB.take m := fun hx => hd (List.mem_append_left _ hx)
    have hdt : c.toNat ≠ d.toNat := fun e => hdc (UInt8.toNat_inj.1 e.symm)
    have hd256 : d.toNat < 256 := d.toNat_lt
    rw [Array.getElem?_setIfInBounds_ne hdt, Array.getElem?_setIfInBounds_ne (by omega)]
    exact h.no d hd1
  · by_cases hdc : d = c
    · subst hdc
      rw [hf] at hl'
      cases hl'
      exact ⟨g, cap, Array.getElem?_setIfInBounds_self_of_lt (by rw [Array.size_setIfInBounds, h.sz]; omega), hlc, hcap, by rw [h3]; exact hset _ _ _ _ _ hg (hne _ _ _ hg hb2)⟩
    · rw [hm] at hd
      have hd1 : d ∈ trB.take m := by
        rcases List.mem_append.1 hd with hx | hx
        · exact hx
        · simp at hx; exact absurd hx hdc
      obtain ⟨g', cap', k1, k2, k3, k4⟩ := h.yes d l' hd1 hl'
      have hdt : c.toNat ≠ d.toNat := fun e => hdc (UInt8.toNat_inj.1 e.symm)
      have hd256 : d.toNat < 256 := d.toNat_lt
      have n1 : g' ≠ b := by
        obtain ⟨cs2, fz, h5, _⟩ := id k4
        intro e
        have h7 : w.heap[b]? = some (.cells cs 269 (0, 0)) := h.blk
        rw [← e, h5] at h7
        simp at h7
      have k5 : BytesBlk w1 g' l' := by rw [h1]; exact hset _ _ _ _ _ k4 n1
      have k6 : BytesBlk w2 g' l' := k5.same (hb.block g' k5.lt)
      refine ⟨g', cap', ?_, k2, k3, by rw [h3]; exact hset _ _ _ _ _ k6 n1⟩
      rw [Array.getElem?_setIfInBounds_ne hdt, Array.getElem?_setIfInBounds_ne (by omega)]
      exact k1
theorem RepM.done {w : World} {b : Nat} {A : Option Addr} {ct : Nat} {cs : Array Value} {B : Nat} (h : RepM w b 4 A ct cs) (ho : w.ownsRow B 9 1 (.slice A 4 ct) 4 (trS 4)) : ReplAt w b := by
  have hcell : ∀ i, w.cell? ⟨b, i, none⟩ = cs[i]? := fun i => h.blk.c i
  have hmem : ∀ c : UInt8, c ∈ trB.take 4 ↔ escF c ≠ none := by
    intro c
    simp only [trB, List.take_succ_cons, List.take_zero, List.mem_cons, List.not_mem_nil, or_false, escF]
    constructor
    · rintro (rfl | rfl | rfl | rfl) <;> decide
    · intro hx
      by_cases h1 : c = 38
      · exact Or.inr (Or.inr (Or.inr h1))
      by_cases h2 : c = 60
      · exact Or.inr (Or.inr (Or.inl h2))
      by_cases h3 : c = 62
      · exact Or.inr (Or.inl h3)
      by_cases h4 : c = 34
      · exact Or.inl h4
      simp [h1, h2, h3, h4] at hx
  refine ⟨fun c hc => by rw [hcell]; exact h.no c (fun hx => (hmem c).1 hx hc), fun c l hc => ?_, ?_, ?_⟩
  · obtain ⟨g, cap, h1, h2, h3, h4⟩ := h.yes c l ((hmem c).2 (by rw [hc]; simp)) hc
    exact ⟨g, cap, by rw [hcell]; exact h1, h2, h3, h4.cell⟩
  · obtain ⟨A', c', e, hm, hnc, hA⟩ := own_form ho
    cases e
    obtain ⟨g, rfl, hBg, hgl⟩ := hA (by omega)
    refine ⟨g, ct, by rw [hcell]; exact h.top, hnc, hm, fun j x hj => own_cell ho ?_⟩
    rw [trS, show trB.take 4 = trB from rfl, List.getElem?_map, hj]; rfl
  · rw [h.blk.sh, h.sz]

end Go.Proofs.YtbhildmalcfhiaaGreatDoor

namespace Go.Proofs.YtbhildmalcfhiaaGreatDoor
open Go.RowKit Go.Deep

/-- what mark.Escape hands to NewReplacer -/
def oldNew : List ByteArray := [⟨#[38]⟩, ⟨#[38, 97, 109, 112, 59]⟩, ⟨#[60]⟩, ⟨#[38, 108, 116, 59]⟩, ⟨#[62]⟩, ⟨#[38, 103, 116, 59]⟩, ⟨#[34]⟩, ⟨#[38, 113, 117, 111, 116, 59]⟩]
theorem zeroE : Tryz.zeroCells269 = (List.replicate 257 (Value.slice none 0 0)).toArray := by kernel_rfl
theorem RepM.start (w : World) (A : Option Addr) (ct : Nat) : RepM (w.alloc (.cells (Tryz.zeroCells269.toList.set 256 (.slice A 0 ct)).toArray 269)) w.heap.size 0 A ct (Tryz.zeroCells269.toList.set 256 (.slice A 0 ct)).toArray := by
  obtain ⟨n, hn⟩ : ∃ n, 257 = n := ⟨_, rfl⟩
  have hz : Tryz.zeroCells269.toList = List.replicate n (Value.slice none 0 0) := by rw [zeroE, hn]
  rw [hz]
  refine ⟨CB.new _ _ _, by simp; omega, by rw [List.getElem?_toArray, List.getElem?_set_self (by simp; omega)], fun c _ => ?_, fun c l hc => by simp at hc⟩
  have hlt : c.toNat < 256 := c.toNat_lt
  rw [List.getElem?_toArray, List.getElem?_set_ne (by omega), List.getElem?_replicate, if_pos (by omega)]
def BuildPost (w : World) (e : Ending) (w' : World) : Prop := ∃ bb : Nat, e = .returned (.iface 270 (.pointer (some ⟨bb, 0, none⟩))) ∧ w.heap.size ≤ bb ∧ ReplAt w' bb ∧ Below w.heap.size w w'

theorem info_strE : (Tryz.prog.info? 9).map (fun i => (i.zero, i.size, i.bytes)) = some (some (.string ⟨#[]⟩), 1, 16) := by kernel_rfl

end Go.Proofs.YtbhildmalcfhiaaGreatDoor

namespace Go.Proofs.YtbhildmalcfhiaaGreatDoor
open Go.RowKit Go.Deep

def oldV : List Value := oldNew.map Value.string
def NewPost (w : World) (e : Ending) (w' : World) : Prop := ∃ (br : Nat) (A : Option Addr) (c : Nat), e = .returned (.pointer (some ⟨br, 0, none⟩)) ∧ w.heap.size ≤ br ∧ CB w' br 223 #[.int .u32 0, .int .i32 0, .int .u32 0, .nilIface, .slice A 8 c] ∧ w'.ownsRow w.heap.size 9 1 (.slice A 8 c) 8 oldV ∧ Below w.heap.size w w'

end Go.Proofs.YtbhildmalcfhiaaGreatDoor

namespace Go.Proofs.YtbhildmalcfhiaaGreatDoor
open Go.RowKit Go.Deep

theorem escF_one {c : UInt8} {l : List UInt8} (h : escF c = some l) : ∃ x, l[0]? = some x := by
  unfold escF at h
  repeat' split at h
  all_goals (first | (cases h; done) | (obtain rfl := (Option.some.inj h); exact ⟨_, rfl⟩))
theorem ReplAt.set {w : World} {b br : Nat} {cs : Array Value} {d : Int} (h : ReplAt w b) (hc : CB w br 223 cs) (h0 : cs[0]? = some (.int .u32 d)) (o : Nat) (v : Value) : ReplAt (w.setCell ⟨br, o, none⟩ v) b := by
  have hb : b ≠ br := by
    intro e
    subst e
    have h1 := h.sh
    rw [hc.sh] at h1
    have h2 : (223 : TypeId) = 269 := congrArg Prod.fst (Option.some.inj h1)
    exact absurd h2 (by decide)
  have hk : ∀ (g j : Nat), g ≠ br → (w.setCell ⟨br, o, none⟩ v).cell? ⟨g, j, none⟩ = w.cell? ⟨g, j, none⟩ := fun g j hg => World.cell?_setCell_other _ _ _ _ (fun e => hg (by have := congrArg Addr.block e; simpa using this.symm))
  refine ⟨fun c hcc => (hk _ _ hb).trans (h.no c hcc), fun c l hcc => ?_, ?_, ?_⟩
  · obtain ⟨g, cap, h1, h2, h3, h4⟩ := h.yes c l hcc
    obtain ⟨x, hx⟩ := escF_one hcc
    have hg : g ≠ br := by
      intro e
      subst e
      have h5 := h4 0 x hx
      rw [hc.c, h0] at h5
      simp at h5
    exact ⟨g, cap, (hk _ _ hb).trans h1, h2, h3, fun j x hj => (hk _ _ hg).trans (h4 j x hj)⟩
  · obtain ⟨g, cap, h1, h2, h3, h4⟩ := h.tr
    have hg : g ≠ br := by
      intro e
      subst e
      have h5 := h4 0 _ rfl
      rw [hc.c, h0] at h5
      simp at h5
    exact ⟨g, cap, (hk _ _ hb).trans h1, h2, h3, fun j x hj => (hk _ _ hg).trans (h4 j x hj)⟩
  · have hs := h.sh
    unfold World.shape? at hs ⊢
    rw [(grown_setB w br o v).block b (by have := h.no 0 (by decide); exact World.block_lt_of_cell? _ _ this) (by simpa using hb)]
    exact hs

theorem disable (w : World) : (callFunc 237 #[]).run Tryz.prog w = .ok (.value (.tuple #[])) w := run_call_mark0 Tryz.func237 (by kernel_rfl) (by kernel_rfl) (by kernel_rfl) .disable (by kernel_rfl) w
theorem enable (w : World) : (callFunc 239 #[]).run Tryz.prog w = .ok (.value (.tuple #[])) w := run_call_mark0 Tryz.func239 (by kernel_rfl) (by kernel_rfl) (by kernel_rfl) .enable (by kernel_rfl) w
theorem acquire (a : Addr) (w : World) : (callFunc 240 #[.pointer (some a)]).run Tryz.prog w = .ok (.value (.tuple #[])) w := run_call_marked Tryz.func240 (by kernel_rfl) (by kernel_rfl) (by kernel_rfl) .acquire (by kernel_rfl) a w
theorem releaseMerge (a : Addr) (w : World) : (callFunc 242 #[.pointer (some a)]).run Tryz.prog w = .ok (.value (.tuple #[])) w := run_call_marked Tryz.func242 (by kernel_rfl) (by kernel_rfl) (by kernel_rfl) .releaseMerge (by kernel_rfl) a w

set_option maxRecDepth 100000 in
set_option maxHeartbeats 1600000 in
theorem store_deferred (a : Addr) (x : Value) (u : FrameMode) (w : World) (hc : w.cell? a = some x) (hz : w.frozen? a = false) :
    CallsD Tryz.prog 219 #[.pointer (some a), .bool true] u w fun e u' w' => u' = u ∧ (e = .returned (.tuple #[]) ∧ w' = w.drew.setCell a (.int .u32 1)) := by
  have hc' : w.drew.cell? a = some x := by go_simp
  have hz' : w.drew.frozen? a = false := by go_simp
  have hst := run_call_store (P := Tryz.prog) Tryz.func229 (by kernel_rfl) (by kernel_rfl) (by kernel_rfl) (by kernel_rfl) (k := .u32) (y := 1) hc' hz'
  go_enter_d Tryz.func219, Tryz.ntmps219
  go_wp2
  go_region_calls
  all_goals (go_end0; exact ⟨rfl, rfl⟩)

set_option maxRecDepth 100000 in
set_option maxHeartbeats 1600000 in
theorem unlock_deferred (a : Addr) (u : FrameMode) (w : World) (hc : w.cell? a = some (.int .i32 1)) (hz : w.frozen? a = false) :
    CallsD Tryz.prog 218 #[.pointer (some a)] u w fun e u' w' => u' = u ∧ (e = .returned (.tuple #[]) ∧ w' = w.setCell a (.int .i32 0)) := by
  have hd := disable
  have he := enable
  have hr := releaseMerge
  have hadd := run_call_add (P := Tryz.prog) Tryz.func243 (by kernel_rfl) (by kernel_rfl) (by kernel_rfl) .i32 (by kernel_rfl) (y := -1) (s := 0) hc hz (by simp [go_sem]; rfl)
  have hcv := run_convert_to_unsafe (P := Tryz.prog) (src := 294) (dst := 110) Tryz.underlying294 Tryz.underlying110 (by kernel_rfl) hc
  go_enter_d Tryz.func218, Tryz.ntmps218
  go_wp2
  go_end0
  go_wp2
  first | done | (go_end0; exact ⟨rfl, rfl⟩)

set_option maxRecDepth 100000 in
set_option maxHeartbeats 1600000 in
theorem lock_free (a : Addr) (w : World) (hc : w.cell? a = some (.int .i32 0)) (hz : w.frozen? a = false) :
    Calls Tryz.prog 217 #[.pointer (some a)] w fun e w' => e = .returned (.tuple #[]) ∧ w' = w.setCell a (.int .i32 1) := by
  have hd := disable
  have he := enable
  have ha := acquire
  have hcas := run_call_cas_hit (P := Tryz.prog) Tryz.func238 (by kernel_rfl) (by kernel_rfl) (by kernel_rfl) .i32 (by kernel_rfl) (y := 1) hc hz
  have hc' : (w.setCell a (.int .i32 1)).cell? a = some (.int .i32 1) := World.cell?_setCell_same w a _ hc
  have hcv := run_convert_to_unsafe (P := Tryz.prog) (src := 294) (dst := 110) Tryz.underlying294 Tryz.underlying110 (by kernel_rfl) hc'
  go_enter Tryz.func217, Tryz.ntmps217
  go_wp2
  first | go_end0 | (simp only [Exit.inBlock, Exit.then]; refine bodyPost_ret (results_none rfl _ _ _) rfl ?_) | refine bodyPost_ret (results_none rfl _ _ _) rfl ?_
  go_wp2
  first | done | (go_end0; exact ⟨rfl, rfl⟩)

end Go.Proofs.YtbhildmalcfhiaaGreatDoor

namespace Go.Proofs.YtbhildmalcfhiaaGreatDoor
open Go.RowKit Go.Deep

def ifB (bb : Nat) : Value := .iface 270 (.pointer (some ⟨bb, 0, none⟩))
/-- the replacer has been built -/
def Built (B br : Nat) (d m : Int) (N : Nat) (w w' : World) : Prop := ∃ bb : Nat, CB w' br 223 #[.int .u32 d, .int .i32 m, .int .u32 0, ifB bb, .slice none 0 0] ∧ ReplAt w' bb ∧ N ≤ bb ∧ Below B w w'

end Go.Proofs.YtbhildmalcfhiaaGreatDoor

namespace Go.Proofs.YtbhildmalcfhiaaGreatDoor
open Go.RowKit Go.Deep

theorem cell_laidE (w : World) (l : List ByteArray) (t k : Nat) (p : ByteArray) (h : l[k]? = some p) : (w.alloc (.cells (l.map Value.string).toArray t)).cell? ⟨w.heap.size, k, none⟩ = some (.string p) :=
  cell_new w (l.map Value.string) t w.heap.size rfl k _ (by simp [h])
end Go.Proofs.YtbhildmalcfhiaaGreatDoor
