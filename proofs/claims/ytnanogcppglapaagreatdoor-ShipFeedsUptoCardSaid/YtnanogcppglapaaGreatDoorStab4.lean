/-
  sort.SliceStable at rows of structs, at whatever length: a permutation, sorted.
-/
import Derived.Test.YtnanogcppglapaaGreatDoorStab3
namespace Go.Proofs.YtnanogcppglapaaGreatDoor
open Go.RowKit Go.Deep Go.Sort Go.Lib

section
variable {α : Type} [Inhabited α]

set_option maxHeartbeats 2000000 in
set_option maxRecDepth 100000 in
theorem sliceStable_sorted (t e : TypeId) (i ie : TypeInfo) (hi : Tryz.prog.info? t = some i) (hd : i.desc = .slice e) (hpk : Tryz.prog.packed t = false) (hie : Tryz.prog.info? e = some ie) (ke : Nat) (hke : ∀ w, (Extern.Rtype.kind e).run Tryz.prog w = .ok ke w)
    (enc : α → List Value) (k : Nat) (hk : ∀ x, (enc x).length = k) (hs1 : ie.size = k) (hagg : ∀ w, (isAgg e).run Tryz.prog w = .ok true w) (h1 : ∀ x, ∀ v ∈ enc x, v.oneCell' = true) (lt : α → α → Bool) (hO : SWO lt) (g : Nat) (lb : Array Value)
    (eg : ∀ args w, (callFunc g args).run Tryz.prog w = .ok (.enter g args) w) (blk off c : Nat) (d : Array α) (h2 : 2 ≤ d.size) (hsz : d.size ≤ 1099511627776)
    (f : Nat) (hf : Tryz.prog.funcs.findIdx? (·.name == "internal/reflectlite" ++ ".Swapper$" ++ toString (swapperK d.size ie ke)) = some f)
    (gS : Bool) (hx : ∀ args W, (callFunc f args).run Tryz.prog W = ((Extern.ReflectliteSwapper.swap gS args).run Tryz.prog W).andThen fun v w' => .ok (.value v) w')
    (w : World) (hless : LessG Tryz.prog g lb enc k lt blk off d.size w) (hH : HoldsK enc k w blk off d) (hblk : blk < w.heap.size) :
    Calls Tryz.prog 15 #[.iface t (.slice (some ⟨blk, off, none⟩) d.size c), .func (.func g) #[] lb] w fun e w' =>
      e = .returned (.tuple #[]) ∧ ∃ d' n os, PermIn 0 d.size d d' ∧ SortedIn lt 0 d.size d' ∧ w' = grow (putRowK enc k (Sort.ahead w n) blk off d') os := by
  refine Any.sort_SliceStable_of_stable Tryz.laysGt8 t e i ie hi hd hpk hie ke hke _ d.size c (by omega) f hf (.func g) #[] lb w _ ?_
  have hB : sliceBound Tryz.prog e ie ke (some ⟨blk, off, none⟩) d.size c = #[.slice (some ⟨blk, off, none⟩) d.size c, typeHandle Tryz.prog e] := by
    unfold sliceBound; rw [if_neg (swapperK_gt _ _ _ h2)]
  have hW : stableWorld Tryz.prog Tryz.laysGt8_ren t (some ⟨blk, off, none⟩) d.size c w = grow w #[.cells #[.slice (some ⟨blk, off, none⟩) d.size c] t, .cells #[.pointer (some ⟨Tryz.prog.globals.size, t, none⟩), .pointer (some ⟨w.heap.size, 0, none⟩), .int .u64 151] (Tryz.laysGt8_ren.t 36)] := by
    unfold stableWorld; rw [alloc_eq_grow, alloc_eq_grow, grow_grow]; rfl
  generalize (#[.cells #[.slice (some ⟨blk, off, none⟩) d.size c] t, .cells #[.pointer (some ⟨Tryz.prog.globals.size, t, none⟩), .pointer (some ⟨w.heap.size, 0, none⟩), .int .u64 151] (Tryz.laysGt8_ren.t 36)] : Array Obj) = os0 at hW
  rw [hB, hW]
  have hp := stable_w (k := k) (g := g) (lb := lb) (sf := f) (sb := #[.slice (some ⟨blk, off, none⟩) d.size c, typeHandle Tryz.prog e]) hO d (W := grow w os0)
    ⟨hk, eg, hless.grow hblk os0, swapSwapsK_of_literal gS f hx e ie hie enc k hk hs1 hagg h1 blk off d.size c, by rw [size_grow]; omega, by omega⟩ (holdsK_grow enc k w _ blk off d hblk hH) hsz
  refine hp.mono ?_
  rintro e w' ⟨rfl, d', ⟨hp1, hs⟩, n, os, rfl⟩
  exact ⟨rfl, d', n, os0 ++ os, hp1, hs, by unfold sortWorldK; rw [ahead_grow, putRowK_grow enc k (Sort.ahead w n) _ blk off _ hblk, grow_grow]⟩
end
end Go.Proofs.YtnanogcppglapaaGreatDoor
