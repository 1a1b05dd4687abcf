/-
  The addresses of what differs between two sites: ship.Events, mastref1.EventsOf.
-/
import Derived.Test.YtmcelgokchhpfaaGreatDoorEvWalk
import Derived.Test.YtmcelgokchhpfaaGreatDoorRowOps
import Derived.Test.YtmcelgokchhpfaaGreatDoorBuilderK
import Derived.Sort.OwnSorted
namespace Go.Proofs.YtmcelgokchhpfaaGreatDoor
open Go.RowKit Go.Deep

def SortPost (B : Nat) (v : Value) (L : List (List UInt8)) (w : World) (e : Ending) (w' : World) : Prop :=
  e = .returned (.tuple #[]) ∧ w'.ownsRow B 9 1 v L.length (strCells (L.mergeSort fun x y => decide (x ≤ y))) ∧ w.grownBy w' v.ownBlock
theorem sortS_q (B : Nat) (v : Value) (L : List (List UInt8)) (w : World) (h : w.ownsRow B 9 1 v L.length (strCells L)) (hl : L.length ≤ 1048576) : Calls Tryz.prog 17 #[v] w (SortPost B v L w) := by
  rcases h.2 with ⟨rfl, h0⟩ | ⟨g, cap, cur, rfl, hB, hg, hnc, hm, hsz, htake⟩
  · obtain rfl : L = [] := List.eq_nil_of_length_eq_zero (by simpa using h0)
    refine (Tryz.sort_Strings_none none 0 w).mono fun e w' ⟨he, hw⟩ => ?_
    subst hw
    exact ⟨he, by simpa using h, grown_below (Below.refl _ _)⟩
  · have hgl : g < w.heap.size := (Array.getElem?_eq_some_iff.1 hg).1
    refine (Tryz.sort_Strings g 0 cap L w (holds_of_block hg (by rw [Nat.mul_one] at htake; simpa [strCells] using htake)) hgl (by omega)).mono fun e w' ⟨he, n, os, hw⟩ => ?_
    subst hw
    have hl2 : (L.mergeSort fun x y => decide (x ≤ y)).length = L.length := List.length_mergeSort _
    exact ⟨he, ownsRow_sorted hl2 hB hg hnc hm (by simpa using hsz), grownBy_sorted _⟩

theorem smap_some {P : Program} {k e t : TypeId} {w : World} {b n : Nat} {f : List UInt8 → Option (List UInt8)} {y : List UInt8} {s : ByteArray} (h : SMap P k e w b n f) (hk : P.underlying k = some .string) (he : P.underlying e = some .string) (ht : P.underlying t = some (.map k e)) (hs : s.size ≤ maxLen) (hz : (zeroValue e).run P w = .ok (.string ⟨#[]⟩) w) (hf : f s.data.toList = some y) :
    (Instr.lookup t (.map (some b)) (.string s) true).run P w = .ok (.tuple #[.string (str0 y), .bool true]) w := by
  have := smap_look_ok h hk he ht hs hz
  rw [hf] at this
  exact this
theorem smap_none {P : Program} {k e t : TypeId} {w : World} {b n : Nat} {f : List UInt8 → Option (List UInt8)} {s : ByteArray} (h : SMap P k e w b n f) (hk : P.underlying k = some .string) (he : P.underlying e = some .string) (ht : P.underlying t = some (.map k e)) (hs : s.size ≤ maxLen) (hz : (zeroValue e).run P w = .ok (.string ⟨#[]⟩) w) (hf : f s.data.toList = none) :
    (Instr.lookup t (.map (some b)) (.string s) true).run P w = .ok (.tuple #[.string ⟨#[]⟩, .bool false]) w := by
  have := smap_look_ok h hk he ht hs hz
  rw [hf] at this
  exact this
theorem zero_str (w : World) : (zeroValue 9).run Tryz.prog w = .ok (.string ⟨#[]⟩) w := by kernel_rfl
theorem info_strE : (Tryz.prog.info? 9).map (fun i => (i.zero, i.size, i.bytes)) = some (some (.string ⟨#[]⟩), 1, 16) := by kernel_rfl

/-- the addresses of those that count, of the first j -/
def fl (p : OutV → Bool) (l : List OutV) (j : Nat) : List (List UInt8) := ((l.take j).filter p).map addrO
theorem fl_yes {p : OutV → Bool} {l : List OutV} {j : Nat} {x : OutV} (h : l[j]? = some x) (hp : p x = true) : fl p l (j + 1) = fl p l j ++ [addrO x] := by
  obtain ⟨hj, rfl⟩ := List.getElem?_eq_some_iff.1 h
  rw [fl, fl, List.take_succ_eq_append_getElem hj, List.filter_append, List.map_append]
  simp [hp]
theorem fl_no {p : OutV → Bool} {l : List OutV} {j : Nat} {x : OutV} (h : l[j]? = some x) (hp : p x = false) : fl p l (j + 1) = fl p l j := by
  obtain ⟨hj, rfl⟩ := List.getElem?_eq_some_iff.1 h
  rw [fl, fl, List.take_succ_eq_append_getElem hj, List.filter_append, List.map_append]
  simp [hp]
theorem fl_len (p : OutV → Bool) (l : List OutV) (j : Nat) : (fl p l j).length ≤ l.length := by
  rw [fl, List.length_map]
  have h1 := List.length_filter_le p (l.take j)
  have h2 : (l.take j).length ≤ l.length := List.length_take_le' ..
  omega
theorem evL_fl (a b : List OutV) : fl (goneB b) a a.length ++ fl (freshB a) b b.length = evL a b := by
  rw [fl, fl, List.take_length, List.take_length]; rfl
theorem gone_none {b : List OutV} {x : OutV} (h : bodyP b x.path.data.toList = none) : goneB b x = true := by rw [goneB, h]; rfl
theorem gone_same {b : List OutV} {x : OutV} {y : List UInt8} (h : bodyP b x.path.data.toList = some y) (hy : str0 y = x.body) : goneB b x = false := by rw [goneB, h, ← hy]; simp [str0]
theorem gone_other {b : List OutV} {x : OutV} {y : List UInt8} (h : bodyP b x.path.data.toList = some y) (hy : str0 y ≠ x.body) : goneB b x = true := by
  rw [goneB, h, bne_iff_ne]
  intro he
  simp only [Option.some.injEq] at he
  exact hy (by rw [he]; rfl)
theorem fresh_none {b : List OutV} {x : OutV} (h : bodyP b x.path.data.toList = none) : freshB b x = true := by rw [freshB, h]; rfl
theorem fresh_some {b : List OutV} {x : OutV} {y : List UInt8} (h : bodyP b x.path.data.toList = some y) : freshB b x = false := by rw [freshB, h]; rfl
theorem cells_one {L : List (List UInt8)} {x : OutV} {ad : ByteArray} (h : addrS x.path = ad) : strCells (L ++ [addrO x]) = strCells L ++ [.string ad] := by
  rw [strCells_append, addrO, h]; rfl
theorem path_le {s : ByteArray} (h : pathB s = true) : s.size ≤ 1048576 := by have := path_size h; omega

def evE (a b : List OutV) : Int := if outsE a = 0 then outsE b else outsE a
def evR (a b : List OutV) : List (List UInt8) := if evE a b = 0 then evS a b else []
def EvPost (N : Nat) (a b : List OutV) (w : World) (e : Ending) (w' : World) : Prop :=
  ∃ v, e = .returned (.tuple #[v, .int .i64 (evE a b)]) ∧ w'.ownsRow N 9 1 v (evR a b).length (strCells (evR a b)) ∧ Below N w w'
theorem EvPost.err {N : Nat} {a b : List OutV} {w w' : World} {v : Int} (h : evE a b = v) (hv : ¬ v = 0) (hb : Below N w w') : EvPost N a b w (.returned (.tuple #[.slice none 0 0, .int .i64 v])) w' := by
  have e0 : evR a b = [] := by rw [evR, if_neg (by rw [h]; exact hv)]
  exact ⟨_, by rw [h], by rw [e0]; exact World.ownsRow_nil _ _ _ _, hb⟩
theorem EvPost.ok {N : Nat} {a b : List OutV} {w w' : World} {v : Value} {n : Nat} (h : evE a b = 0) (hn : n = (evL a b).length) (ho : w'.ownsRow N 9 1 v n (strCells (evS a b))) (hb : Below N w w') : EvPost N a b w (.returned (.tuple #[v, .int .i64 0])) w' := by
  have e0 : evR a b = evS a b := by rw [evR, if_pos h]
  have e1 : (evS a b).length = (evL a b).length := List.length_mergeSort _
  exact ⟨_, by rw [h], by rw [e0, e1, ← hn]; exact ho, hb⟩

theorem own_baseE {w : World} {B B' K n : Nat} {e : TypeId} {v : Value} {xs : List Value} (h : w.ownsRow B' e K v n xs) (hB : B ≤ B') : w.ownsRow B e K v n xs := by
  obtain ⟨hl, h2⟩ := h
  rcases h2 with h2 | ⟨g, cap, cur, h1, h3, h4⟩
  · exact ⟨hl, Or.inl h2⟩
  · exact ⟨hl, Or.inr ⟨g, cap, cur, h1, Nat.le_trans hB h3, h4⟩⟩
theorem own_keepB2 {w w' : World} {B k : Nat} {e : TypeId} {v : Value} {n : Nat} {xs : List Value} (h : w.ownsRow B e k v n xs) (hb : Below w.heap.size w w') : w'.ownsRow B e k v n xs :=
  h.kept (row := none) ⟨hb.os, hb.tape, hb.output, hb.size, fun k hk _ => hb.block k hk⟩ (by cases v.ownBlock <;> simp)

end Go.Proofs.YtmcelgokchhpfaaGreatDoor
