/-
  The dot of a shortcode's template: page.Dot.
-/
import Derived.Test.YtphmhhonbkcajaaDoorDotSt
import Derived.BigQuiet
import Derived.Deep.QuietTactic
import Derived.RegionTactic
import Derived.StillTailTactics
import Derived.Outline
namespace Go.Proofs.YtphmhhonbkcajaaDoor
open Go.RowKit Go.Deep


theorem zero_strD (w : World) : (zeroValue 9).run Tryd.prog w = .ok (.string ⟨#[]⟩) w := by kernel_rfl
theorem smap_okD {w : World} {b n : Nat} {f : List UInt8 → Option (List UInt8)} {s : ByteArray} (h : SMap Tryd.prog 9 9 w b n f) (hs : s.size ≤ maxLen) :
    (Instr.lookup 42 (.map (some b)) (.string s) true).run Tryd.prog w = .ok (.tuple #[.string (str0 ((f s.data.toList).getD [])), .bool (f s.data.toList).isSome]) w :=
  smap_look_ok h Tryd.underlying9 Tryd.underlying9 Tryd.underlying42 hs (zero_strD _)
theorem smap_someD {w : World} {b n : Nat} {f : List UInt8 → Option (List UInt8)} {s : ByteArray} {y : List UInt8} (h : SMap Tryd.prog 9 9 w b n f) (hs : s.size ≤ maxLen) (hf : f s.data.toList = some y) :
    (Instr.lookup 42 (.map (some b)) (.string s) true).run Tryd.prog w = .ok (.tuple #[.string (str0 y), .bool true]) w := by
  have := smap_okD h hs
  rw [hf] at this
  exact this
theorem smap_noneD {w : World} {b n : Nat} {f : List UInt8 → Option (List UInt8)} {s : ByteArray} (h : SMap Tryd.prog 9 9 w b n f) (hs : s.size ≤ maxLen) (hf : f s.data.toList = none) :
    (Instr.lookup 42 (.map (some b)) (.string s) true).run Tryd.prog w = .ok (.tuple #[.string ⟨#[]⟩, .bool false]) w := by
  have := smap_okD h hs
  rw [hf] at this
  exact this
theorem smap_getD {w : World} {b n : Nat} {f : List UInt8 → Option (List UInt8)} {s y : ByteArray} (h : SMap Tryd.prog 9 9 w b n f) (hs : s.size ≤ maxLen) (hf : str0 ((f s.data.toList).getD []) = y) :
    (Instr.lookup 42 (.map (some b)) (.string s) false).run Tryd.prog w = .ok (.string y) w := by
  have := smap_look h Tryd.underlying9 Tryd.underlying9 Tryd.underlying42 hs (zero_strD _)
  rw [hf] at this
  exact this

/-- a row of one value of a text -/
def OneV (W1 : World) (v : Val) (x : Value) (w : World) : Prop := ∃ g : Nat, x = .slice (some ⟨g, 0, none⟩) 1 1 ∧ W1.heap.size ≤ g ∧ CB w g 35 (cellsV v (.slice none 0 0) (.slice none 0 0)).toArray
theorem OneV.below {W1 w w' : World} {v : Val} {x : Value} (h : OneV W1 v x w) (hb : Below w.heap.size w w') : OneV W1 v x w' := by obtain ⟨g, h1, h2, h3⟩ := h; exact ⟨g, h1, h2, h3.below hb⟩
theorem cells_of_one {w : World} {g : Nat} {v : Val} (h : CB w g 35 (cellsV v (.slice none 0 0) (.slice none 0 0)).toArray) : ∀ (j : Nat) (u : Value), (cellsV v (.slice none 0 0) (.slice none 0 0))[j]? = some u → w.cell? ⟨g, j, none⟩ = some u := fun j u hj => by
  rw [h.c j, List.getElem?_toArray]; exact hj
def kDotS : ByteArray := ⟨#[97, 114, 103, 115, 32, 105, 110, 110, 101, 114, 32, 110, 97, 109, 101, 100, 32, 112, 97, 103, 101]⟩
def kDotU : List (List UInt8) := [[97, 114, 103, 115], [105, 110, 110, 101, 114], [110, 97, 109, 101, 100], [112, 97, 103, 101]]
theorem kDot_fields : Lib.fields kDotS.data.toList = kDotU := by decide
theorem kDot_ascii : ∀ (j : Nat) b, kDotS.data.toList[j]? = some b → b.toNat < 128 := by
  have h : kDotS.data.toList.all (fun b => decide (b.toNat < 128)) = true := by decide
  intro j b hj
  exact of_decide_eq_true (List.all_eq_true.1 h b (List.mem_of_getElem? hj))
theorem size_mk (s : List UInt8) : (⟨s.toArray⟩ : ByteArray).size = s.length := by simp [ByteArray.size]
theorem nm_sizes {l : List ArgP} (h : ∀ x ∈ l, x.1.size ≤ maxLen ∧ x.2.size ≤ maxLen) {s : Str} (hs : s ∈ canon (nmL l)) : s.length ≤ maxLen := by
  obtain ⟨a, ha, rfl⟩ := List.mem_map.1 (((canon_spec _).2 s).1 hs)
  have := (h a (List.mem_filter.1 ha).1).1
  rw [size_toList]; exact this
theorem vf_sizes {l : List ArgP} (h : ∀ x ∈ l, x.1.size ≤ maxLen ∧ x.2.size ≤ maxLen) (s : Str) : ((valF l s).getD []).length ≤ maxLen := by
  cases hv : valF l s with
  | none => simp
  | some v =>
    unfold valF at hv
    obtain ⟨a, ha, rfl⟩ := Option.map_eq_some_iff.1 hv
    have := (h a (List.mem_of_find?_eq_some ha)).2
    rw [Option.getD_some, size_toList]; exact this
def partsD (l : List ArgP) (en : Bool) (addr inner : ByteArray) (iv iv2 kv2 : Value) : List PartV := [⟨argsV l, iv, .slice none 0 0⟩, ⟨inV en inner, .slice none 0 0, .slice none 0 0⟩, ⟨namedV l, iv2, kv2⟩, ⟨vPage addr, .slice none 0 0, .slice none 0 0⟩]
theorem i64_8 : I64 8 := ⟨by decide, by decide⟩
theorem inV_nil (en : Bool) (inner : ByteArray) : (inV en inner).items = [] ∧ (inV en inner).keys = [] := by cases en <;> exact ⟨rfl, rfl⟩
theorem inV_ok {en : Bool} {inner : ByteArray} (h : inner.size ≤ maxLen) : ValOk (inV en inner) := by
  cases en
  · exact ⟨i64_0, i64_0, Nat.zero_le _⟩
  · exact valOk_safe h
theorem vPage_ok {a : ByteArray} (h : a.size ≤ 1073741824) : ValOk (vPage a) := ⟨i64_8, i64_0, by
  show (_ ++ a).size ≤ maxLen
  rw [ByteArray.size_append]
  have : (⟨#[112, 97, 103, 101, 58]⟩ : ByteArray).size = 5 := rfl
  unfold maxLen; omega⟩
theorem dot_items {w : World} {P : Nat → Prop} {g : Nat} {l : List ArgP} {en : Bool} {addr inner : ByteArray} {iv iv2 kv2 : Value} (h : CB w g 35 (flatV (partsD l en addr inner iv iv2 kv2)).toArray) (hP : P g)
    (hi : ValsIn w P iv (unN l)) (hi2 : ValsIn w P iv2 (itN l (canon (nmL l)))) (hk2 : StrsIn w P kv2 (strK (canon (nmL l)))) (h1 : inner.size ≤ maxLen) (h2 : addr.size ≤ 1073741824) :
    ValsIn w P (.slice (some ⟨g, 0, none⟩) 4 4) (dotV l en addr inner).items :=
  valsIn_of_block (ps := partsD l en addr inner iv iv2 kv2) h hP (by simp [maxLen, partsD])
    (fun p hp => by simp only [partsD, List.mem_cons, List.not_mem_nil, or_false] at hp; rcases hp with rfl | rfl | rfl | rfl; exact hi; (rw [(inV_nil en inner).1]; exact valsIn_nil _ _); exact hi2; exact valsIn_nil _ _)
    (fun p hp => by simp only [partsD, List.mem_cons, List.not_mem_nil, or_false] at hp; rcases hp with rfl | rfl | rfl | rfl; exact strsIn_nil _ _; (rw [(inV_nil en inner).2]; exact strsIn_nil _ _); exact hk2; exact strsIn_nil _ _)
    (fun p hp => by simp only [partsD, List.mem_cons, List.not_mem_nil, or_false] at hp; rcases hp with rfl | rfl | rfl | rfl; exact ⟨i64_5, i64_0, Nat.zero_le _⟩; exact inV_ok h1; exact ⟨i64_6, i64_0, Nat.zero_le _⟩; exact vPage_ok h2)
theorem dot_keys {w : World} {P : Nat → Prop} {g : Nat} (h : CB w g 9 (keysC kDotU)) (hP : P g) : StrsIn w P (.slice (some ⟨g, 0, none⟩) 4 4) kDot :=
  strsIn_of_block h hP (by simp [maxLen, kDotU]) (fun k hk => by simp [kDotU] at hk; rcases hk with rfl | rfl | rfl | rfl <;> simp [maxLen])
theorem unN_flat {l : List ArgP} (h : ∀ x ∈ l, x.1.size ≤ maxLen ∧ x.2.size ≤ maxLen) : ∀ x ∈ unN l, x.items = [] ∧ x.keys = [] ∧ ValOk x := fun x hx => by
  obtain ⟨a, ha, rfl⟩ := List.mem_map.1 hx
  exact ⟨rfl, rfl, valOk_str (h a (List.mem_filter.1 ha).1).2⟩
theorem itN_flat {l : List ArgP} (h : ∀ x ∈ l, x.1.size ≤ maxLen ∧ x.2.size ≤ maxLen) (ks : List Str) : ∀ x ∈ itN l ks, x.items = [] ∧ x.keys = [] ∧ ValOk x := fun x hx => by
  obtain ⟨a, ha, rfl⟩ := List.mem_map.1 hx
  exact ⟨rfl, rfl, valOk_str (by rw [size_mk]; exact vf_sizes h a)⟩
theorem strs_own {w : World} {B : Nat} {v : Value} {m : Nat} {l : List Str} (h : w.ownsRow B 9 1 v m (strCells l)) (hs : ∀ s ∈ l, s.length ≤ maxLen) : StrsIn w (fun b => B ≤ b) v (strK l) :=
  StrsIn.of_own (n := m) (by rw [show strsK (strK l) = strCells l from by unfold strsK strK strCells; rw [List.map_map]; rfl]; exact h) (fun s hx => by
    obtain ⟨a, ha, rfl⟩ := List.mem_map.1 hx
    rw [size_mk]; exact hs a ha)

def IDot8 (fr : Value → Value → Value → Value → Value → Value → Act) (n : Nat) (T : Nat) (x : ArgP) (Ao : Option Addr) (mk : Nat) (co : Nat) (W1 : World) (L : Array Bool) (a : Act) (w : World) : Prop :=
  ∃ x0 x1 x2 x3 x4 x5 : Value, a = fr x0 x1 x2 x3 x4 x5 ∧ Below W1.heap.size W1 w ∧ (L.getD 0 false = true → x0 = .pointer (some ⟨n + 1 + 1, 4, none⟩)) ∧ (L.getD 1 false = true → x1 = .slice Ao mk co) ∧ (L.getD 2 false = true → x2 = .pointer (some ⟨T, 1, none⟩)) ∧ (L.getD 3 false = true → x3 = .string x.2) ∧ (L.getD 4 false = true → x4 = valAgg (vStr x.2) (.slice none 0 0) (.slice none 0 0)) ∧ (L.getD 5 false = true → OneV W1 (vStr x.2) x5 w)
theorem IDot8.start {m : Nat} {fr : Value → Value → Value → Value → Value → Value → Act} {n : Nat} {T : Nat} {x : ArgP} {Ao : Option Addr} {mk : Nat} {co : Nat} {W1 : World} {a : Act} (x0 x1 x2 x3 x4 x5 : Value) (h : a = fr x0 x1 x2 x3 x4 x5) : IDot8 fr n T x Ao mk co W1 (Array.replicate m false) a W1 :=
  ⟨x0, x1, x2, x3, x4, x5, h, Below.refl _ _, (fun h => by rw [getD_replicate_false] at h; cases h), (fun h => by rw [getD_replicate_false] at h; cases h), (fun h => by rw [getD_replicate_false] at h; cases h), (fun h => by rw [getD_replicate_false] at h; cases h), (fun h => by rw [getD_replicate_false] at h; cases h), (fun h => by rw [getD_replicate_false] at h; cases h)⟩
def IDot17 (fr : Value → Value → Value → Value → Value → Value → Value → Act) (n : Nat) (s : ByteArray) (y : ByteArray) (Co : Option Addr) (mi : Nat) (ci : Nat) (W1 : World) (L : Array Bool) (a : Act) (w : World) : Prop :=
  ∃ x0 x1 x2 x3 x4 x5 x6 : Value, a = fr x0 x1 x2 x3 x4 x5 x6 ∧ Below W1.heap.size W1 w ∧ (L.getD 0 false = true → x0 = .pointer (some ⟨n + 1 + 1 + 1, 4, none⟩)) ∧ (L.getD 1 false = true → x1 = .slice Co mi ci) ∧ (L.getD 2 false = true → x2 = .map (some (n + 1 + 1 + 1 + 1))) ∧ (L.getD 3 false = true → x3 = .string s) ∧ (L.getD 4 false = true → x4 = .string y) ∧ (L.getD 5 false = true → x5 = valAgg (vStr y) (.slice none 0 0) (.slice none 0 0)) ∧ (L.getD 6 false = true → OneV W1 (vStr y) x6 w)
theorem IDot17.start {m : Nat} {fr : Value → Value → Value → Value → Value → Value → Value → Act} {n : Nat} {s : ByteArray} {y : ByteArray} {Co : Option Addr} {mi : Nat} {ci : Nat} {W1 : World} {a : Act} (x0 x1 x2 x3 x4 x5 x6 : Value) (h : a = fr x0 x1 x2 x3 x4 x5 x6) : IDot17 fr n s y Co mi ci W1 (Array.replicate m false) a W1 :=
  ⟨x0, x1, x2, x3, x4, x5, x6, h, Below.refl _ _, (fun h => by rw [getD_replicate_false] at h; cases h), (fun h => by rw [getD_replicate_false] at h; cases h), (fun h => by rw [getD_replicate_false] at h; cases h), (fun h => by rw [getD_replicate_false] at h; cases h), (fun h => by rw [getD_replicate_false] at h; cases h), (fun h => by rw [getD_replicate_false] at h; cases h), (fun h => by rw [getD_replicate_false] at h; cases h)⟩
def IDot22 (fr : Value → Value → Value → Value → Value → Act) (en : Bool) (addr : ByteArray) (inner : ByteArray) (Ao : Option Addr) (mk : Nat) (co : Nat) (Co : Option Addr) (mi : Nat) (ci : Nat) (Bo : Option Addr) (nk : Nat) (cn : Nat) (W1 : World) (L : Array Bool) (a : Act) (w : World) : Prop :=
  ∃ x0 x1 x2 x3 x4 : Value, a = fr x0 x1 x2 x3 x4 ∧ Below W1.heap.size W1 w ∧ (L.getD 0 false = true → x0 = .agg (argsC Ao mk co)) ∧ (L.getD 1 false = true → x1 = valAgg (inV en inner) (.slice none 0 0) (.slice none 0 0)) ∧ (L.getD 2 false = true → x2 = .agg (namedC Co mi ci Bo nk cn)) ∧ (L.getD 3 false = true → x3 = .string addr) ∧ (L.getD 4 false = true → x4 = valAgg (vPage addr) (.slice none 0 0) (.slice none 0 0))
theorem IDot22.start {m : Nat} {fr : Value → Value → Value → Value → Value → Act} {en : Bool} {addr : ByteArray} {inner : ByteArray} {Ao : Option Addr} {mk : Nat} {co : Nat} {Co : Option Addr} {mi : Nat} {ci : Nat} {Bo : Option Addr} {nk : Nat} {cn : Nat} {W1 : World} {a : Act} (x0 x1 x2 x3 x4 : Value) (h : a = fr x0 x1 x2 x3 x4) : IDot22 fr en addr inner Ao mk co Co mi ci Bo nk cn W1 (Array.replicate m false) a W1 :=
  ⟨x0, x1, x2, x3, x4, h, Below.refl _ _, (fun h => by rw [getD_replicate_false] at h; cases h), (fun h => by rw [getD_replicate_false] at h; cases h), (fun h => by rw [getD_replicate_false] at h; cases h), (fun h => by rw [getD_replicate_false] at h; cases h), (fun h => by rw [getD_replicate_false] at h; cases h)⟩

set_option maxRecDepth 100000 in
set_option maxHeartbeats 8000000 in
theorem dot_q (l : List ArgP) (tx nm : ByteArray) (A : Option Addr) (m c : Nat) (en : Bool) (A2 : Option Addr) (m2 c2 : Nat) (addr inner : ByteArray) (w : World) (hA : ArgsPAt w (.slice A m c) l) (hl : l.length ≤ 1073741824) (hsp : SpOk w) (ha : addr.size ≤ 1073741824) (hin : inner.size ≤ maxLen) :
    Calls Tryd.prog 6 #[.agg (partC tx nm A m c en A2 m2 c2), .string addr, .string inner] w (ClonePost (dotV l en addr inner) w) := by
  obtain ⟨A', c', b, o, hv, hlc, hc, hAd, hcell⟩ := hA
  cases hv
  unfold maxLen at hc
  have HSizes := Lib.hid (show ∀ x ∈ l, x.1.size ≤ maxLen ∧ x.2.size ≤ maxLen from fun x hx => by obtain ⟨i, hi⟩ := List.getElem?_of_mem hx; exact (hcell i x hi).2)
  have HCell := Lib.hid hcell; clear hcell
  have HSp := Lib.hid hsp; clear hsp
  have HAd := Lib.hid hAd; clear hAd
  have HIn := Lib.hid hin; clear hin
  have HHa := Lib.hid ha; clear ha
  obtain ⟨n, hn⟩ : ∃ n, w.heap.size = n := ⟨_, rfl⟩
  have HS0 := Lib.hid (show DotSt w n (partC tx nm A l.length c en A2 m2 c2) l 0 none 0 0 none 0 0 (((((w.alloc (.cells (partC tx nm A l.length c en A2 m2 c2) 25)).alloc (.cells zeroVC 35)).alloc (.cells (argsC none 0 0) 35)).alloc (.cells (namedC none 0 0 none 0 0) 35)).alloc (.map #[] 0)) from by
    have e1 : ∀ o : Obj, (w.alloc o).heap.size = n + 1 := fun o => by rw [World.size_alloc, hn]
    have e2 : ∀ o o2 : Obj, ((w.alloc o).alloc o2).heap.size = n + 2 := fun o o2 => by rw [World.size_alloc, e1]
    have e3 : ∀ o o2 o3 : Obj, (((w.alloc o).alloc o2).alloc o3).heap.size = n + 3 := fun o o2 o3 => by rw [World.size_alloc, e2]
    have e4 : ∀ o o2 o3 o4 : Obj, ((((w.alloc o).alloc o2).alloc o3).alloc o4).heap.size = n + 4 := fun o o2 o3 o4 => by rw [World.size_alloc, e3]
    refine ⟨hn, ?_, ?_, ?_, ?_, ?_, ?_, ?_, ?_, ?_, ?_⟩
    · exact (((((Below.refl _ _).alloc (Nat.le_refl _) _).alloc (by rw [e1]; omega) _).alloc (by rw [e2]; omega) _).alloc (by rw [e3]; omega) _).alloc (by rw [e4]; omega) _
    · have h := CB.new w (partC tx nm A l.length c en A2 m2 c2) 25
      rw [hn] at h
      exact (((h.alloc _).alloc _).alloc _).alloc _
    · have h := CB.new (w.alloc (.cells (partC tx nm A l.length c en A2 m2 c2) 25)) zeroVC 35
      rw [e1] at h
      exact ((h.alloc _).alloc _).alloc _
    · have h := CB.new ((w.alloc (.cells (partC tx nm A l.length c en A2 m2 c2) 25)).alloc (.cells zeroVC 35)) (argsC none 0 0) 35
      rw [e2] at h
      exact (h.alloc _).alloc _
    · have h := CB.new (((w.alloc (.cells (partC tx nm A l.length c en A2 m2 c2) 25)).alloc (.cells zeroVC 35)).alloc (.cells (argsC none 0 0) 35)) (namedC none 0 0 none 0 0) 35
      rw [e3] at h
      exact h.alloc _
    · have h := mapR_made (lit := Lit.string) (P := Tryd.prog) (k := 9) (e := 9) ((((w.alloc (.cells (partC tx nm A l.length c en A2 m2 c2) 25)).alloc (.cells zeroVC 35)).alloc (.cells (argsC none 0 0) 35)).alloc (.cells (namedC none 0 0 none 0 0) 35))
      rw [e4] at h
      exact h
    · exact World.ownsRow_nil _ _ _ _
    · rw [show canon (nmL (l.take 0)) = [] from by rw [List.take_zero]; exact canon_nil]; exact World.ownsRow_nil _ _ _ _
    · rfl
    · rw [show canon (nmL (l.take 0)) = [] from by rw [List.take_zero]; exact canon_nil]; rfl)
  unfold partC zeroVC argsC namedC at HS0
  unfold partC
  have hmm := @run_makeMap Tryd.prog
  go_enter Tryd.func6, Tryd.ntmps6
  go_wp2_with fail
  clear hmm
  go_loopw [23] (fun t wr => ∃ (k mk : Nat) (Ao : Option Addr) (co : Nat) (Bo : Option Addr) (nk cn : Nat), k ≤ l.length ∧ t = .int .i64 k ∧ Hid (DotSt w n (partC tx nm A l.length c en A2 m2 c2) l k Ao mk co Bo nk cn wr)) (fun t _ => l.length - (intOf t).toNat)
  case atStart => exact ⟨0, 0, none, 0, none, 0, 0, Nat.zero_le _, rfl, HS0⟩
  case round =>
    clear HS0
    obtain ⟨k, mk, Ao, co, Bo, nk, cn, hk, rfl, HS⟩ := hrel
    by_cases hlt : k < l.length
    · have hA' := HAd.out (by rintro rfl; simp at hlt)
      subst hA'
      obtain ⟨x, hx⟩ : ∃ x, l[k]? = some x := ⟨_, List.getElem?_eq_getElem hlt⟩
      obtain ⟨⟨p0, p1⟩, px1, px2⟩ := HCell.out k x hx
      have kk := Keeps.of_below HS.out.hb
      replace p0 := kk _ _ p0
      replace p1 := kk _ _ p1
      clear kk
      have HX := Lib.hid hx
      clear hx
      have HPx1 := Lib.hid px1
      have HPx2 := Lib.hid px2
      clear px1 px2
      cases hbr : bareA x with
      | true =>
        have HBr := Lib.hid hbr; clear hbr
        have he : x.1.toList = [] := by have := HBr.out; unfold bareA at this; rw [Go.ByteArray.toList_eq]; simpa using this
        go_wp2_with fail
        obtain ⟨W1, hW1⟩ : ∃ W1, wr.alloc (.cells #[.string x.1, .string x.2] 44) = W1 := ⟨_, rfl⟩
        have HB1 := Lib.hid (show Below wr.heap.size wr W1 by rw [← hW1]; exact (Below.refl _ _).alloc (Nat.le_refl _) _)
        have HX1 := Lib.hid (show CB W1 wr.heap.size 44 #[.string x.1, .string x.2] by rw [← hW1]; exact CB.new _ _ _)
        rw [hW1]
        clear hW1
        refine wp_region_any (by kernel_rfl) ?_
        change wpAny _ _ _ _ _ _ _ W1.drew
        obtain ⟨W2, hW2⟩ : ∃ W2, W1.drew = W2 := ⟨_, rfl⟩
        have HX2 := Lib.hid (show CB W2 wr.heap.size 44 #[.string x.1, .string x.2] by rw [← hW2]; exact HX1.out.drewD)
        have HB2 := Lib.hid (show Below wr.heap.size wr W2 by rw [← hW2]; exact HB1.out.drew)
        have HA2 := Lib.hid (show CB W2 (n + 1 + 1) 35 (argsC Ao mk co) from HS.out.ha.below HB2.out)
        rw [hW2]
        clear hW2 HB1 HX1
        obtain ⟨T, hT⟩ : ∃ T, wr.heap.size = T := ⟨_, rfl⟩
        have HT := Lib.hid hT
        rw [hT] at HX2
        rw [hT]
        clear hT
        refine wpAny_inv [0, 1, 2, 3, 4, 5] (IDot8 (fun v30 v31 v32 v33 v34 v35 => ⟨#[Value.agg #[Value.string tx, Value.string nm, Value.slice (some { block := b, off := o }) l.length c, Value.bool en, Value.slice A2 m2 c2], Value.string addr, Value.string inner, Value.pointer (some { block := n, off := 0 }), undef, undef, Value.pointer (some { block := n + 1, off := 0 }), Value.pointer (some { block := n + 1 + 1, off := 0 }), Value.pointer (some { block := n + 1 + 1 + 1, off := 0 }), Value.map (some (n + 1 + 1 + 1 + 1)), undef, Value.pointer (some { block := T, off := 0 }), u12, u13, undef, undef, undef, Value.agg #[Value.int IntKind.i64 5, Value.bool false, Value.int IntKind.i64 0, Value.string { data := #[] }, Value.slice none 0 0, Value.slice none 0 0], Value.agg #[Value.int IntKind.i64 6, Value.bool false, Value.int IntKind.i64 0, Value.string { data := #[] }, Value.slice none 0 0, Value.slice none 0 0], Value.map (some (n + 1 + 1 + 1 + 1)), Value.pointer (some { block := n, off := 2 }), Value.slice (some { block := b, off := o }) l.length c, Value.int IntKind.i64 ↑l.length, Value.int IntKind.i64 ↑k, Value.bool true, Value.pointer (some { block := b, off := o + k * 2 }), Value.agg #[Value.string x.fst, Value.string x.snd], Value.pointer (some { block := T, off := 0 }), Value.string x.fst, Value.bool true, v30, v31, v32, v33, v34, v35, u36, u37, u38, u39, u40, u41, u42, u43, u44, u45, u46, u47, u48, u49, u50, u51, u52, u53, u54, u55, u56, u57, u58, undef, undef, undef, undef, undef, undef, undef, undef, undef, undef, undef, undef, undef, undef, undef, undef, undef, undef, undef, undef, undef, undef, undef, undef, undef, undef, undef, undef, undef], []⟩) n T x Ao mk co W2) #[true, true, true, true, true, true, false, false, false] (g := 3) (by kernel_rfl) (by kernel_rfl) (by kernel_rfl) (IDot8.start u30 u31 u32 u33 u34 u35 rfl) ?step ?last
        case step =>
          intro i hi L a' w' hs hr hI
          obtain ⟨x0, x1, x2, x3, x4, x5, rfl, hB, h0, h1, h2, h3, h4, h5⟩ := hI
          simp only [List.mem_cons, List.not_mem_nil, or_false] at hi
          rcases hi with rfl | rfl | rfl | rfl | rfl | rfl
          · refine wpOp_step rfl (fun K hK => ?_)
            go_simp
            exact hK _ _ ⟨_, _, _, _, _, _, rfl, hB, fun _ => rfl, fun h => h1 (getD_was (by decide) h), fun h => h2 (getD_was (by decide) h), fun h => h3 (getD_was (by decide) h), fun h => h4 (getD_was (by decide) h), fun h => h5 (getD_was (by decide) h)⟩
          · have q0 := h0 (ready_dep hr (by kernel_rfl))
            subst q0
            have z := (HA2.out.below hB).c 4
            simp only [argsC, List.getElem?_toArray, List.getElem?_cons_zero, List.getElem?_cons_succ] at z
            refine wpOp_step rfl (fun K hK => ?_)
            go_simp
            exact hK _ _ ⟨_, _, _, _, _, _, rfl, hB, fun _ => rfl, fun _ => rfl, fun h => h2 (getD_was (by decide) h), fun h => h3 (getD_was (by decide) h), fun h => h4 (getD_was (by decide) h), fun h => h5 (getD_was (by decide) h)⟩
          · refine wpOp_step rfl (fun K hK => ?_)
            go_simp
            exact hK _ _ ⟨_, _, _, _, _, _, rfl, hB, fun h => h0 (getD_was (by decide) h), fun h => h1 (getD_was (by decide) h), fun _ => rfl, fun h => h3 (getD_was (by decide) h), fun h => h4 (getD_was (by decide) h), fun h => h5 (getD_was (by decide) h)⟩
          · have q2 := h2 (ready_dep hr (by kernel_rfl))
            subst q2
            have z := (HX2.out.below hB).c 1
            simp only [List.getElem?_toArray, List.getElem?_cons_zero, List.getElem?_cons_succ] at z
            refine wpOp_step rfl (fun K hK => ?_)
            go_simp
            exact hK _ _ ⟨_, _, _, _, _, _, rfl, hB, fun h => h0 (getD_was (by decide) h), fun h => h1 (getD_was (by decide) h), fun _ => rfl, fun _ => rfl, fun h => h4 (getD_was (by decide) h), fun h => h5 (getD_was (by decide) h)⟩
          · have q3 := h3 (ready_dep hr (by kernel_rfl))
            subst q3
            refine wpOp_step rfl (fun K hK => ?_)
            go_simp
            refine (str_p _ w').mono ?_
            rintro e w'' ⟨rfl, hb⟩
            exact hK _ _ ⟨_, _, _, _, _, _, rfl, hB.trans (hb.mono hB.size), fun h => h0 (getD_was (by decide) h), fun h => h1 (getD_was (by decide) h), fun h => h2 (getD_was (by decide) h), fun _ => rfl, fun _ => rfl, fun h => OneV.below (h5 (getD_was (by decide) h)) hb⟩
          · have q4 := h4 (ready_dep hr (by kernel_rfl))
            subst q4
            simp only [valAgg, vStr, Val.kind, Val.flag, Val.num, Val.text]
            refine wpOp_step rfl (fun K hK => ?_)
            go_simp
            exact hK _ _ ⟨_, _, _, _, _, _, rfl, hB.alloc hB.size _, fun h => h0 (getD_was (by decide) h), fun h => h1 (getD_was (by decide) h), fun h => h2 (getD_was (by decide) h), fun h => h3 (getD_was (by decide) h), fun _ => rfl, fun _ => ⟨_, rfl, hB.size, CB.new _ _ _⟩⟩
        case last =>
          intro a' w' hI
          obtain ⟨x0, x1, x2, x3, x4, x5, rfl, hB, h0, h1, h2, h3, h4, h5⟩ := hI
          have q1 := h1 rfl
          have q5 := h5 rfl
          clear h0 h1 h2 h3 h4 h5
          subst q1
          refine wpAny_of_seqA 3 6 rfl (by kernel_rfl) ?_
          simp only [List.drop_succ_cons, List.drop_zero]
          have HBw := Lib.hid (HB2.out.trans (hB.mono HB2.out.size))
          have HSw := Lib.hid (HS.out.below HBw.out)
          obtain ⟨g5, rfl, hg5, hc5⟩ := q5
          have HC5 := Lib.hid (cells_of_one hc5)
          have hszw := HSw.out.size
          have hmk := HS.out.m_le
          refine wpList_push _ rfl (.tmp 31) (.tmp 35) 32 rfl (n + 5) 35 (.agg #[.int .i64 0, .bool false, .int .i64 0, .string ⟨#[]⟩, .slice none 0 0, .slice none 0 0]) 6 88 Tryd.underlying32 info_valK rfl (by omega) (.slice Ao mk co) mk _ rfl HSw.out.ho (cellsV (vStr x.2) (.slice none 0 0) (.slice none 0 0)) rfl g5 rfl HC5.out (cellsV_one _ _ _ _ _ _ _) (by omega) (by unfold maxLen; omega) (by omega) ?_
          intro g9 c9 w9 own9 hg9 hgg9 hb9
          have HN9 := Lib.hid (HSw.out.bare HX.out HBr.out own9 hg9 hb9)
          have HA9 := Lib.hid (show CB w9 (n + 1 + 1) 35 (argsC Ao mk co) from HSw.out.ha.other hg9 (fun e => by have := (HSw.out.ho.lt _ e.symm).1; omega))
          have l4 := HA9.out.c 4
          have f4 := HA9.out.f 4
          have lsh := HA9.out.sh
          have hn9 := HA9.out.lt
          simp only [argsC, List.getElem?_toArray, List.getElem?_cons_zero, List.getElem?_cons_succ] at l4
          go_wp2_with fail
          go_roundw
          case rel => exact ⟨k + 1, mk + 1, some ⟨g9, 0, none⟩, c9, Bo, nk, cn, by omega, by go_num, HN9⟩
          case measure => simp [intOf]; omega
      | false =>
        have HBr := Lib.hid hbr; clear hbr
        have he : x.1.toList.isEmpty = false := by have := HBr.out; unfold bareA at this; rw [Go.ByteArray.toList_eq]; simpa using this
        have HS1 := Lib.hid (HS.out.below ((Below.refl _ _).alloc (Nat.le_refl _) (.cells #[.string x.1, .string x.2] 44)))
        have HX1 := Lib.hid (CB.new wr #[.string x.1, .string x.2] 44)
        have hws : wr.heap.size < (World.heap (wr.alloc (.cells #[.string x.1, .string x.2] 44))).size := by rw [World.size_alloc]; omega
        cases hv : valF (l.take k) x.1.data.toList with
        | some y =>
          have HV := Lib.hid hv; clear hv
          have HRun := Lib.hid (smap_someD HS1.out.hm HPx1.out HV.out)
          go_wp2_with (at_lookup; refine wpList_lookR rfl _ _ 42 true rfl x.1 _ rfl rfl HRun.out ?_)
          go_roundw
          case rel => exact ⟨k + 1, mk, Ao, co, Bo, nk, cn, by omega, by go_num, HS1.out.old HX.out HBr.out HV.out⟩
          case measure => simp [intOf]; omega
        | none =>
          have HV := Lib.hid hv; clear hv
          have HRun := Lib.hid (smap_noneD HS1.out.hm HPx1.out HV.out)
          have hnk := HS.out.n_le
          have hsz := HS.out.size
          go_wp2_with (first
            | (at_lookup; refine wpList_lookR rfl _ _ 42 true rfl x.1 _ rfl rfl HRun.out ?_)
            | (at_mapUpdate; go_must (refine wpList_storeR rfl _ _ _ 42 rfl Tryd.underlying9 Tryd.underlying42 HS1.out.hm (by unfold maxLen; omega) rfl x.1 HPx1.out _ x.2.data.toList rfl rfl (plainElem_string Tryd.underlying9 HPx2.out) ?_)
               intro w1 hm1 ht1
               have HM1 := Lib.hid hm1
               have HT1 := Lib.hid ht1
               have HXb := Lib.hid (HX1.out.mapTurn HS1.out.hm.block ht1)
               have HDb := Lib.hid (show CB w1 (n + 1 + 1 + 1) 35 (namedC none 0 0 Bo nk cn) from HS1.out.hd.mapTurn HS1.out.hm.block ht1)
               have HKb := Lib.hid (own_mapTurnR HS1.out.hk HS1.out.hm.block ht1)
               clear hm1 ht1
               have xc0 := HXb.out.c 0
               have hxl := HXb.out.lt
               have dc5 := HDb.out.c 5
               have hdl := HDb.out.lt
               simp only [namedC, List.getElem?_toArray, List.getElem?_cons_zero, List.getElem?_cons_succ] at xc0 dc5)
            | (go_at_call 14
               go_must (refine (insert_r (n + 5) _ Bo nk cn x.1 _ _ HS1.out.h2 HKb.out (by have := HT1.out.grown.size; rw [World.size_alloc] at this; omega) (by omega) (canon_new HX.out HBr.out)).mono ?_)
               rintro e w2 ⟨B1, n1, c1, rfl, hn1, own2, hg2, hgg2⟩
               have HN1 := Lib.hid (HS1.out.new HX.out HBr.out HV.out HM1.out HT1.out hn1.out own2 hg2)
               have HD2 := Lib.hid (show CB w2 (n + 1 + 1 + 1) 35 (namedC none 0 0 Bo nk cn) from HDb.out.other hg2 (fun e => by have := (HKb.out.lt _ e.symm).1; omega))
               have l5 := HD2.out.c 5
               have f5 := HD2.out.f 5
               have lsh := HD2.out.sh
               have hn9 := HD2.out.lt
               simp only [namedC, List.getElem?_toArray, List.getElem?_cons_zero, List.getElem?_cons_succ] at l5
               clear own2 hg2 hgg2 hn1))
          go_roundw
          case rel => exact ⟨k + 1, mk, Ao, co, B1, n1, c1, by omega, by go_num, HN1.out⟩
          case measure => simp [intOf]; omega
    · have hk9 : l.length ≤ k := by omega
      have HS2 := Lib.hid (HS.out.done hk9 hk)
      have hnk := HS.out.n_le
      have HD := Lib.hid (show CB wr (n + 1 + 1 + 1) 35 (namedC none 0 0 Bo nk cn) from HS.out.hd)
      have dc5 := HD.out.c 5
      have hdl := HD.out.lt
      simp only [namedC, List.getElem?_toArray, List.getElem?_cons_zero, List.getElem?_cons_succ] at dc5
      clear HS
      go_wp2_with fail
      clear dc5 hdl HD
      obtain ⟨K, hK⟩ : ∃ K, wr.heap.size = K := ⟨_, rfl⟩
      rw [hK] at HS2
      clear hK
      obtain ⟨wo, rfl⟩ : ∃ wo : World, wo = wr := ⟨_, rfl⟩
      go_loopw [62] (fun t wr => ∃ (j mi : Nat) (Co : Option Addr) (ci : Nat), j ≤ nk ∧ t = .int .i64 j ∧ Hid (DotS2 w n (partC tx nm A l.length c en A2 m2 c2) l K j Ao mk co Bo nk cn Co mi ci wr)) (fun t _ => nk - (intOf t).toNat)
      case atStart => exact ⟨0, 0, none, 0, Nat.zero_le _, rfl, HS2⟩
      case round =>
        clear HS2
        obtain ⟨j, mi, Co, ci, hj, rfl, HS⟩ := hrel
        by_cases hlt : j < nk
        · obtain ⟨B', cB, hvB, hcB, hnB, hgB⟩ := own_form HS.out.hk
          cases hvB
          obtain ⟨gB, rfl, hgB1, hgB2⟩ := hgB (by omega)
          obtain ⟨s0, hs0⟩ : ∃ s, (canon (nmL l))[j]? = some s := ⟨_, List.getElem?_eq_getElem (by have := HS.out.h2; omega)⟩
          have HX := Lib.hid hs0
          obtain ⟨s, hs⟩ : ∃ s : ByteArray, (⟨s0.toArray⟩ : ByteArray) = s := ⟨_, rfl⟩
          have hss : s.data.toList = s0 := by rw [← hs]
          have p0 : wr.cell? ⟨gB, j, none⟩ = some (.string s) := by
            rw [HS.out.hk.cellAt j (by omega)]
            show (strCells _)[j]? = _
            unfold strCells
            rw [List.getElem?_map, hs0, ← hs]; rfl
          have HSs := Lib.hid hss
          have HSz := Lib.hid (show s.size ≤ maxLen by rw [← hs, size_mk]; exact nm_sizes HSizes.out (List.mem_of_getElem? hs0))
          clear hs0 hs hss
          go_wp2_with fail
          refine wp_region_any (by kernel_rfl) ?_
          change wpAny _ _ _ _ _ _ _ wr.drew
          obtain ⟨W2, hW2⟩ : ∃ W2, wr.drew = W2 := ⟨_, rfl⟩
          have HB2 := Lib.hid (show Below wr.heap.size wr W2 by rw [← hW2]; exact (Below.refl _ _).drew)
          have HD2 := Lib.hid (show CB W2 (n + 1 + 1 + 1) 35 (namedC Co mi ci (some ⟨gB, 0, none⟩) nk cn) from HS.out.hd.below HB2.out)
          have HM2 := Lib.hid (show SMap Tryd.prog 9 9 W2 (n + 1 + 1 + 1 + 1) l.length (valF l) from HS.out.hm.below HB2.out)
          obtain ⟨y, hy⟩ : ∃ y, str0 ((valF l s.data.toList).getD []) = y := ⟨_, rfl⟩
          have HRun := Lib.hid (fun (w' : World) (h : SMap Tryd.prog 9 9 w' (n + 1 + 1 + 1 + 1) l.length (valF l)) => smap_getD h HSz.out hy)
          rw [HSs.out] at hy
          have HY := Lib.hid hy
          clear hy
          rw [hW2]
          clear hW2
          refine wpAny_inv [0, 1, 2, 3, 4, 5, 6] (IDot17 (fun v66 v67 v68 v69 v70 v71 v72 => ⟨#[Value.agg #[Value.string tx, Value.string nm, Value.slice A l.length c, Value.bool en, Value.slice A2 m2 c2], Value.string addr, Value.string inner, Value.pointer (some { block := n, off := 0 }), undef, undef, Value.pointer (some { block := n + 1, off := 0 }), Value.pointer (some { block := n + 1 + 1, off := 0 }), Value.pointer (some { block := n + 1 + 1 + 1, off := 0 }), Value.map (some (n + 1 + 1 + 1 + 1)), undef, u11, u12, u13, undef, Value.string s, undef, Value.agg #[Value.int IntKind.i64 5, Value.bool false, Value.int IntKind.i64 0, Value.string { data := #[] }, Value.slice none 0 0, Value.slice none 0 0], Value.agg #[Value.int IntKind.i64 6, Value.bool false, Value.int IntKind.i64 0, Value.string { data := #[] }, Value.slice none 0 0, Value.slice none 0 0], Value.map (some (n + 1 + 1 + 1 + 1)), Value.pointer (some { block := n, off := 2 }), Value.slice A l.length c, Value.int IntKind.i64 ↑l.length, Value.int IntKind.i64 ↑k, Value.bool false, u25, u26, u27, u28, u29, u30, u31, u32, u33, u34, u35, u36, u37, u38, u39, u40, u41, u42, u43, u44, u45, u46, u47, u48, u49, u50, u51, u52, u53, u54, u55, u56, u57, u58, Value.pointer (some { block := n + 1 + 1 + 1, off := 5 }), Value.slice (some { block := gB, off := 0 }) nk cn, Value.int IntKind.i64 ↑nk, Value.int IntKind.i64 ↑j, Value.bool true, Value.pointer (some { block := gB, off := j }), Value.string s, v66, v67, v68, v69, v70, v71, v72, u73, u74, u75, undef, undef, undef, undef, undef, undef, undef, undef, undef, undef, undef, undef], []⟩) n s y Co mi ci W2) #[true, true, true, true, true, true, true, false, false, false] (g := 3) (by kernel_rfl) (by kernel_rfl) (by kernel_rfl) (IDot17.start u66 u67 u68 u69 u70 u71 u72 rfl) ?step ?last
          case step =>
            intro i hi L a' w' hs hr hI
            obtain ⟨x0, x1, x2, x3, x4, x5, x6, rfl, hB, h0, h1, h2, h3, h4, h5, h6⟩ := hI
            simp only [List.mem_cons, List.not_mem_nil, or_false] at hi
            rcases hi with rfl | rfl | rfl | rfl | rfl | rfl | rfl
            · refine wpOp_step rfl (fun K hK => ?_)
              go_simp
              exact hK _ _ ⟨_, _, _, _, _, _, _, rfl, hB, fun _ => rfl, fun h => h1 (getD_was (by decide) h), fun h => h2 (getD_was (by decide) h), fun h => h3 (getD_was (by decide) h), fun h => h4 (getD_was (by decide) h), fun h => h5 (getD_was (by decide) h), fun h => h6 (getD_was (by decide) h)⟩
            · have q0 := h0 (ready_dep hr (by kernel_rfl))
              subst q0
              have z := (HD2.out.below hB).c 4
              simp only [namedC, List.getElem?_toArray, List.getElem?_cons_zero, List.getElem?_cons_succ] at z
              refine wpOp_step rfl (fun K hK => ?_)
              go_simp
              exact hK _ _ ⟨_, _, _, _, _, _, _, rfl, hB, fun _ => rfl, fun _ => rfl, fun h => h2 (getD_was (by decide) h), fun h => h3 (getD_was (by decide) h), fun h => h4 (getD_was (by decide) h), fun h => h5 (getD_was (by decide) h), fun h => h6 (getD_was (by decide) h)⟩
            · refine wpOp_step rfl (fun K hK => ?_)
              go_simp
              exact hK _ _ ⟨_, _, _, _, _, _, _, rfl, hB, fun h => h0 (getD_was (by decide) h), fun h => h1 (getD_was (by decide) h), fun _ => rfl, fun h => h3 (getD_was (by decide) h), fun h => h4 (getD_was (by decide) h), fun h => h5 (getD_was (by decide) h), fun h => h6 (getD_was (by decide) h)⟩
            · refine wpOp_step rfl (fun K hK => ?_)
              go_simp
              exact hK _ _ ⟨_, _, _, _, _, _, _, rfl, hB, fun h => h0 (getD_was (by decide) h), fun h => h1 (getD_was (by decide) h), fun h => h2 (getD_was (by decide) h), fun _ => rfl, fun h => h4 (getD_was (by decide) h), fun h => h5 (getD_was (by decide) h), fun h => h6 (getD_was (by decide) h)⟩
            · have q2 := h2 (ready_dep hr (by kernel_rfl))
              have q3 := h3 (ready_dep hr (by kernel_rfl))
              subst q2
              subst q3
              have hrun := HRun.out _ (HM2.out.below hB)
              refine wpOp_step rfl (fun K hK => ?_)
              go_simp
              exact hK _ _ ⟨_, _, _, _, _, _, _, rfl, hB, fun h => h0 (getD_was (by decide) h), fun h => h1 (getD_was (by decide) h), fun _ => rfl, fun _ => rfl, fun _ => rfl, fun h => h5 (getD_was (by decide) h), fun h => h6 (getD_was (by decide) h)⟩
            · have q4 := h4 (ready_dep hr (by kernel_rfl))
              subst q4
              refine wpOp_step rfl (fun K hK => ?_)
              go_simp
              refine (str_p _ w').mono ?_
              rintro e w'' ⟨rfl, hb⟩
              exact hK _ _ ⟨_, _, _, _, _, _, _, rfl, hB.trans (hb.mono hB.size), fun h => h0 (getD_was (by decide) h), fun h => h1 (getD_was (by decide) h), fun h => h2 (getD_was (by decide) h), fun h => h3 (getD_was (by decide) h), fun _ => rfl, fun _ => rfl, fun h => OneV.below (h6 (getD_was (by decide) h)) hb⟩
            · have q5 := h5 (ready_dep hr (by kernel_rfl))
              subst q5
              simp only [valAgg, vStr, Val.kind, Val.flag, Val.num, Val.text]
              refine wpOp_step rfl (fun K hK => ?_)
              go_simp
              exact hK _ _ ⟨_, _, _, _, _, _, _, rfl, hB.alloc hB.size _, fun h => h0 (getD_was (by decide) h), fun h => h1 (getD_was (by decide) h), fun h => h2 (getD_was (by decide) h), fun h => h3 (getD_was (by decide) h), fun h => h4 (getD_was (by decide) h), fun _ => rfl, fun _ => ⟨_, rfl, hB.size, CB.new _ _ _⟩⟩
          case last =>
            intro a' w' hI
            obtain ⟨x0, x1, x2, x3, x4, x5, x6, rfl, hB, h0, h1, h2, h3, h4, h5, h6⟩ := hI
            have q1 := h1 rfl
            have q6 := h6 rfl
            clear h0 h1 h2 h3 h4 h5 h6
            subst q1
            refine wpAny_of_seqA 3 7 rfl (by kernel_rfl) ?_
            simp only [List.drop_succ_cons, List.drop_zero]
            have HBw := Lib.hid (HB2.out.trans (hB.mono HB2.out.size))
            have HSw := Lib.hid (HS.out.below HBw.out)
            obtain ⟨g5, rfl, hg5, hc5⟩ := q6
            have HC5 := Lib.hid (cells_of_one hc5)
            have hszw := HSw.out.hKw
            have hmi : mi ≤ j := by have := HS.out.h3; omega
            have hnk2 := HS.out.hK
            refine wpList_push _ rfl (.tmp 67) (.tmp 72) 32 rfl K 35 (.agg #[.int .i64 0, .bool false, .int .i64 0, .string ⟨#[]⟩, .slice none 0 0, .slice none 0 0]) 6 88 Tryd.underlying32 info_valK rfl (by omega) (.slice Co mi ci) mi _ rfl HSw.out.hi (cellsV (vStr y) (.slice none 0 0) (.slice none 0 0)) rfl g5 rfl HC5.out (cellsV_one _ _ _ _ _ _ _) (by omega) (by unfold maxLen; omega) (by omega) ?_
            intro g9 c9 w9 own9 hg9 hgg9 hb9
            have HN9 := Lib.hid (HSw.out.push HX.out (by rw [HY.out]; exact own9) hg9 hb9)
            have HA9 := Lib.hid (show CB w9 (n + 1 + 1 + 1) 35 (namedC Co mi ci (some ⟨gB, 0, none⟩) nk cn) from HSw.out.hd.other hg9 (fun e => by have := (HSw.out.hi.lt _ e.symm).1; omega))
            have l4 := HA9.out.c 4
            have f4 := HA9.out.f 4
            have lsh := HA9.out.sh
            have hn9 := HA9.out.lt
            simp only [namedC, List.getElem?_toArray, List.getElem?_cons_zero, List.getElem?_cons_succ] at l4
            go_wp2_with fail
            go_roundw
            case rel => exact ⟨j + 1, mi + 1, some ⟨g9, 0, none⟩, c9, by omega, by go_num, HN9⟩
            case measure => simp [intOf]; omega

        · obtain rfl : j = nk := by omega
          have HE := Lib.hid (HS.out.below ((Below.refl wr.heap.size wr).alloc (Nat.le_refl _) (.cells zeroVC 35)))
          have HP := Lib.hid (show CB wr n 25 (partC tx nm A l.length c en A2 m2 c2) from HS.out.hp)
          have hws : wr.heap.size < (World.heap (wr.alloc (.cells zeroVC 35))).size := by rw [World.size_alloc]; omega
          have HZ0 := Lib.hid (CB.new wr zeroVC 35)
          have pc3 := HP.out.c 3
          have hpl := HP.out.lt
          simp only [partC, List.getElem?_toArray, List.getElem?_cons_zero, List.getElem?_cons_succ] at pc3
          unfold zeroVC at HE HZ0 hws
          cases en with
          | false =>
            go_wp2_with fail
            obtain ⟨W1, hW1⟩ : ∃ W1, wr.alloc (.cells #[.int .i64 0, .bool false, .int .i64 0, .string ⟨#[]⟩, .slice none 0 0, .slice none 0 0] 35) = W1 := ⟨_, rfl⟩
            have HB1 := Lib.hid (show Below wr.heap.size wr W1 by rw [← hW1]; exact (Below.refl wr.heap.size wr).alloc (Nat.le_refl _) _)
            have HI1 := Lib.hid (show CB W1 wr.heap.size 35 #[.int .i64 0, .bool false, .int .i64 0, .string ⟨#[]⟩, .slice none 0 0, .slice none 0 0] by rw [← hW1]; exact HZ0.out)
            have HS1 := Lib.hid (HS.out.below HB1.out)
            rw [hW1]
            clear hW1
            refine wp_region_any (by kernel_rfl) ?_
            change wpAny _ _ _ _ _ _ _ W1.drew
            obtain ⟨W2, hW2⟩ : ∃ W2, W1.drew = W2 := ⟨_, rfl⟩
            have HB2 := Lib.hid (show Below W1.heap.size W1 W2 by rw [← hW2]; exact (Below.refl _ _).drew)
            rw [hW2]
            clear hW2
            have HI3 := Lib.hid (HI1.out.below HB2.out)
            have HA3 := Lib.hid (show CB W2 (n + 1 + 1) 35 (argsC Ao mk co) from HS1.out.ha.below HB2.out)
            have HD3 := Lib.hid (show CB W2 (n + 1 + 1 + 1) 35 (namedC Co mi ci Bo j cn) from HS1.out.hd.below HB2.out)
            have HS3 := Lib.hid (HS1.out.below HB2.out)
            obtain ⟨T, hT⟩ : ∃ T, wr.heap.size = T := ⟨_, rfl⟩
            have HT := Lib.hid hT
            rw [hT] at HI3
            rw [hT]
            clear hT
            refine wpAny_inv [0, 1, 2, 3, 4] (IDot22 (fun v81 v82 v83 v84 v85 => ⟨#[Value.agg #[Value.string tx, Value.string nm, Value.slice A l.length c, Value.bool false, Value.slice A2 m2 c2], Value.string addr, Value.string inner, Value.pointer (some { block := n, off := 0 }), undef, undef, Value.pointer (some { block := n + 1, off := 0 }), Value.pointer (some { block := n + 1 + 1, off := 0 }), Value.pointer (some { block := n + 1 + 1 + 1, off := 0 }), Value.map (some (n + 1 + 1 + 1 + 1)), undef, u11, u12, u13, undef, u15, Value.pointer (some { block := T, off := 0 }), Value.agg #[Value.int IntKind.i64 5, Value.bool false, Value.int IntKind.i64 0, Value.string { data := #[] }, Value.slice none 0 0, Value.slice none 0 0], Value.agg #[Value.int IntKind.i64 6, Value.bool false, Value.int IntKind.i64 0, Value.string { data := #[] }, Value.slice none 0 0, Value.slice none 0 0], Value.map (some (n + 1 + 1 + 1 + 1)), Value.pointer (some { block := n, off := 2 }), Value.slice A l.length c, Value.int IntKind.i64 ↑l.length, Value.int IntKind.i64 ↑k, Value.bool false, u25, u26, u27, u28, u29, u30, u31, u32, u33, u34, u35, u36, u37, u38, u39, u40, u41, u42, u43, u44, u45, u46, u47, u48, u49, u50, u51, u52, u53, u54, u55, u56, u57, u58, Value.pointer (some { block := n + 1 + 1 + 1, off := 5 }), Value.slice Bo j cn, Value.int IntKind.i64 ↑j, Value.int IntKind.i64 ↑j, Value.bool false, u64, u65, u66, u67, u68, u69, u70, u71, u72, u73, u74, u75, Value.agg #[Value.int IntKind.i64 0, Value.bool false, Value.int IntKind.i64 0, Value.string { data := #[] }, Value.slice none 0 0, Value.slice none 0 0], Value.pointer (some { block := n, off := 3 }), Value.bool false, undef, undef, v81, v82, v83, v84, v85, undef, undef], []⟩) false addr inner Ao mk co Co mi ci Bo j cn W2) #[true, true, true, true, true, false, false, false] (g := 3) (by kernel_rfl) (by kernel_rfl) (by kernel_rfl) (IDot22.start undef undef undef undef undef rfl) ?step ?last
            case step =>
              intro i hi L a' w' hs hr hI
              obtain ⟨x0, x1, x2, x3, x4, rfl, hB, h0, h1, h2, h3, h4⟩ := hI
              simp only [List.mem_cons, List.not_mem_nil, or_false] at hi
              rcases hi with rfl | rfl | rfl | rfl | rfl
              · have z0 := (HA3.out.below hB).c 0
                have z1 := (HA3.out.below hB).c 1
                have z2 := (HA3.out.below hB).c 2
                have z3 := (HA3.out.below hB).c 3
                have z4 := (HA3.out.below hB).c 4
                have z5 := (HA3.out.below hB).c 5
                have zsh := (HA3.out.below hB).sh
                simp only [argsC, List.getElem?_toArray, List.getElem?_cons_zero, List.getElem?_cons_succ] at z0 z1 z2 z3 z4 z5
                refine wpOp_step rfl (fun K hK => ?_)
                go_simp
                exact hK _ _ ⟨_, _, _, _, _, rfl, hB, fun _ => rfl, fun h => h1 (getD_was (by decide) h), fun h => h2 (getD_was (by decide) h), fun h => h3 (getD_was (by decide) h), fun h => h4 (getD_was (by decide) h)⟩
              · have z0 := (HI3.out.below hB).c 0
                have z1 := (HI3.out.below hB).c 1
                have z2 := (HI3.out.below hB).c 2
                have z3 := (HI3.out.below hB).c 3
                have z4 := (HI3.out.below hB).c 4
                have z5 := (HI3.out.below hB).c 5
                have zsh := (HI3.out.below hB).sh
                simp only [List.getElem?_toArray, List.getElem?_cons_zero, List.getElem?_cons_succ] at z0 z1 z2 z3 z4 z5
                refine wpOp_step rfl (fun K hK => ?_)
                go_simp
                exact hK _ _ ⟨_, _, _, _, _, rfl, hB, fun h => h0 (getD_was (by decide) h), fun _ => rfl, fun h => h2 (getD_was (by decide) h), fun h => h3 (getD_was (by decide) h), fun h => h4 (getD_was (by decide) h)⟩
              · have z0 := (HD3.out.below hB).c 0
                have z1 := (HD3.out.below hB).c 1
                have z2 := (HD3.out.below hB).c 2
                have z3 := (HD3.out.below hB).c 3
                have z4 := (HD3.out.below hB).c 4
                have z5 := (HD3.out.below hB).c 5
                have zsh := (HD3.out.below hB).sh
                simp only [namedC, List.getElem?_toArray, List.getElem?_cons_zero, List.getElem?_cons_succ] at z0 z1 z2 z3 z4 z5
                refine wpOp_step rfl (fun K hK => ?_)
                go_simp
                exact hK _ _ ⟨_, _, _, _, _, rfl, hB, fun h => h0 (getD_was (by decide) h), fun h => h1 (getD_was (by decide) h), fun _ => rfl, fun h => h3 (getD_was (by decide) h), fun h => h4 (getD_was (by decide) h)⟩
              · refine wpOp_step rfl (fun K hK => ?_)
                go_simp
                exact hK _ _ ⟨_, _, _, _, _, rfl, hB, fun h => h0 (getD_was (by decide) h), fun h => h1 (getD_was (by decide) h), fun h => h2 (getD_was (by decide) h), fun _ => rfl, fun h => h4 (getD_was (by decide) h)⟩
              · have q3 := h3 (ready_dep hr (by kernel_rfl))
                subst q3
                refine wpOp_step rfl (fun K hK => ?_)
                go_simp
                refine (pageFact_p _ w' HHa.out).mono ?_
                rintro e w'' ⟨rfl, hb⟩
                exact hK _ _ ⟨_, _, _, _, _, rfl, hB.trans (hb.mono hB.size), fun h => h0 (getD_was (by decide) h), fun h => h1 (getD_was (by decide) h), fun h => h2 (getD_was (by decide) h), fun _ => rfl, fun _ => rfl⟩
            case last =>
              intro a' w' hI
              obtain ⟨x0, x1, x2, x3, x4, rfl, hB, h0, h1, h2, h3, h4⟩ := hI
              have q0 := h0 rfl
              have q1 := h1 rfl
              have q2 := h2 rfl
              have q4 := h4 rfl
              clear h0 h1 h2 h3 h4
              subst q0 q1 q2 q4
              refine wpAny_of_seqA 3 5 rfl (by kernel_rfl) ?_
              simp only [List.drop_succ_cons, List.drop_zero, valAgg, vSafe, vPage, inV, argsC, namedC, Val.kind, Val.flag, Val.num, Val.text, if_false, Bool.false_eq_true]
              go_wp2_with fail
              change Calls _ _ _ (w'.alloc (.cells (flatV (partsD l false addr inner (.slice Ao mk co) (.slice Co mi ci) (.slice Bo j cn))).toArray 35)) _
              obtain ⟨w8, hw8⟩ : ∃ w8, w'.alloc (.cells (flatV (partsD l false addr inner (.slice Ao mk co) (.slice Co mi ci) (.slice Bo j cn))).toArray 35) = w8 := ⟨_, rfl⟩
              have HI8 := Lib.hid (show CB w8 w'.heap.size 35 (flatV (partsD l false addr inner (.slice Ao mk co) (.slice Co mi ci) (.slice Bo j cn))).toArray by rw [← hw8]; exact CB.new _ _ _)
              have HB8 := Lib.hid (show Below w'.heap.size w' w8 by rw [← hw8]; exact (Below.refl _ _).alloc (Nat.le_refl _) _)
              have HS8 := Lib.hid ((HS3.out.below hB).below HB8.out)
              have hKw' := (HS3.out.below hB).hKw
              rw [hw8]
              clear hw8
              refine (table_p kDotS _ _ _ _ rfl w8 (HSp.out.keep HS8.out.hb) kDotU kDot_fields (by decide) kDot_ascii).mono ?_
              rintro e w9 ⟨g2, rfl, hg2, hc2, hb9⟩
              have HS9 := Lib.hid (HS8.out.below hb9)
              have HI9 := Lib.hid (HI8.out.below hb9)
              have hKn := HS9.out.hK
              have hn8 := HB8.out.size
              have hvi := HS9.out.hi
              rw [List.take_of_length_le (by rw [← HS9.out.h2]; exact Nat.le_refl _)] at hvi
              have HIt := Lib.hid (dot_items (P := fun b => n + 5 ≤ b) HI9.out (show n + 5 ≤ w'.heap.size by omega) (vals_of_row HS9.out.ho HS9.out.h1 (unN_flat HSizes.out))
                ((vals_of_row hvi (by rw [HS9.out.h3]; unfold itN; rw [List.length_map, ← HS9.out.h2]) (itN_flat HSizes.out _)).keep (KeepsIn.refl _ _) (fun b _ hb => by omega)) (strs_own HS9.out.hk (fun s hs => nm_sizes HSizes.out hs)) HIn.out HHa.out)
              have HKy := Lib.hid (dot_keys hc2 (P := fun b => n + 5 ≤ b) (show n + 5 ≤ g2 by omega))
              clear hc2 hb9 hvi
              have HR9 := Lib.hid (show CB w9 (n + 1) 35 zeroVC from HS9.out.hr)
              have HB9 := Lib.hid HS9.out.hb
              obtain ⟨g1, hg1⟩ : ∃ g1, w'.heap.size = g1 := ⟨_, rfl⟩
              rw [hg1] at HIt
              rw [hg1]
              have zc0 := HR9.out.c 0
              have zf0 := HR9.out.f 0
              have zc1 := HR9.out.c 1
              have zf1 := HR9.out.f 1
              have zc2 := HR9.out.c 2
              have zf2 := HR9.out.f 2
              have zc3 := HR9.out.c 3
              have zf3 := HR9.out.f 3
              have zc4 := HR9.out.c 4
              have zf4 := HR9.out.f 4
              have zc5 := HR9.out.c 5
              have zf5 := HR9.out.f 5
              have zsh := HR9.out.sh
              have hnz : n + 1 < w9.heap.size := HR9.out.lt
              simp only [zeroVC, List.getElem?_toArray, List.getElem?_cons_zero, List.getElem?_cons_succ] at zc0 zc1 zc2 zc3 zc4 zc5
              unfold tabV
              go_wp2_with fail
              have K1 : KeepsIn (fun b => n + 5 ≤ b) w9 (((((((w9).setCell ⟨n + 1, 0, none⟩ (.int .i64 6)).setCell ⟨n + 1, 1, none⟩ (.bool false)).setCell ⟨n + 1, 2, none⟩ (.int .i64 0)).setCell ⟨n + 1, 3, none⟩ (.string ⟨#[]⟩)).setCell ⟨n + 1, 4, none⟩ (.slice (some ⟨g1, 0, none⟩) 4 4)).setCell ⟨n + 1, 5, none⟩ (.slice (some ⟨g2, 0, none⟩) 4 4)) :=
                (((((keepsIn_set (by omega)).trans (keepsIn_set (by omega))).trans (keepsIn_set (by omega))).trans (keepsIn_set (by omega))).trans (keepsIn_set (by omega))).trans (keepsIn_set (by omega))
              exact val_done (n := n + 1) rfl ((((((HR9.out.put 0 _).put 1 _).put 2 _).put 3 _).put 4 _).put 5 _) rfl rfl rfl
                ⟨some ⟨g1, 0, none⟩, 4, 4, some ⟨g2, 0, none⟩, 4, 4, rfl, ⟨_, _, rfl, ⟨i64_6, i64_0, Nat.zero_le _⟩, HIt.out.keep K1 (fun b _ hb => by omega), HKy.out.keep K1 (fun b _ hb => by omega)⟩,
                  (((((HB9.out.setB (by omega) 0 _).setB (by omega) 1 _).setB (by omega) 2 _).setB (by omega) 3 _).setB (by omega) 4 _).setB (by omega) 5 _⟩
          | true =>
            go_wp2_with (go_at_call 15; go_must (refine (safe_p _ _).mono ?_); rintro e w3 ⟨rfl, hb3⟩; have HB3 := Lib.hid hb3; have HZ3 := Lib.hid (HZ0.out.below hb3); have hz3 := HZ3.out.lt; have zc0 := HZ3.out.c 0; have zf0 := HZ3.out.f 0; have zc1 := HZ3.out.c 1; have zf1 := HZ3.out.f 1; have zc2 := HZ3.out.c 2; have zf2 := HZ3.out.f 2; have zc3 := HZ3.out.c 3; have zf3 := HZ3.out.f 3; have zc4 := HZ3.out.c 4; have zf4 := HZ3.out.f 4; have zc5 := HZ3.out.c 5; have zf5 := HZ3.out.f 5; have zsh := HZ3.out.sh; simp only [List.getElem?_toArray, List.getElem?_cons_zero, List.getElem?_cons_succ] at zc0 zc1 zc2 zc3 zc4 zc5; clear hb3; simp only [valAgg, vSafe, Val.kind, Val.flag, Val.num, Val.text])
            obtain ⟨W1, hW1⟩ : ∃ W1, ((((((w3).setCell ⟨wr.heap.size, 0, none⟩ (.int .i64 7)).setCell ⟨wr.heap.size, 1, none⟩ (.bool false)).setCell ⟨wr.heap.size, 2, none⟩ (.int .i64 0)).setCell ⟨wr.heap.size, 3, none⟩ (.string inner)).setCell ⟨wr.heap.size, 4, none⟩ (.slice none 0 0)).setCell ⟨wr.heap.size, 5, none⟩ (.slice none 0 0) = W1 := ⟨_, rfl⟩
            have HB1 := Lib.hid (show Below wr.heap.size wr W1 by rw [← hW1]; exact ((((((((Below.refl wr.heap.size wr).alloc (Nat.le_refl _) (.cells #[.int .i64 0, .bool false, .int .i64 0, .string ⟨#[]⟩, .slice none 0 0, .slice none 0 0] 35)).trans (HB3.out.mono (Nat.le_of_lt hws))).setB (Nat.le_refl _) 0 _).setB (Nat.le_refl _) 1 _).setB (Nat.le_refl _) 2 _).setB (Nat.le_refl _) 3 _).setB (Nat.le_refl _) 4 _).setB (Nat.le_refl _) 5 _)
            have HI1 := Lib.hid (show CB W1 wr.heap.size 35 #[.int .i64 7, .bool false, .int .i64 0, .string inner, .slice none 0 0, .slice none 0 0] by rw [← hW1]; exact (((((HZ3.out.put 0 _).put 1 _).put 2 _).put 3 _).put 4 _).put 5 _)
            have HS1 := Lib.hid (HS.out.below HB1.out)
            rw [hW1]
            clear hW1
            refine wp_region_any (by kernel_rfl) ?_
            change wpAny _ _ _ _ _ _ _ W1.drew
            obtain ⟨W2, hW2⟩ : ∃ W2, W1.drew = W2 := ⟨_, rfl⟩
            have HB2 := Lib.hid (show Below W1.heap.size W1 W2 by rw [← hW2]; exact (Below.refl _ _).drew)
            rw [hW2]
            clear hW2
            have HI3 := Lib.hid (HI1.out.below HB2.out)
            have HA3 := Lib.hid (show CB W2 (n + 1 + 1) 35 (argsC Ao mk co) from HS1.out.ha.below HB2.out)
            have HD3 := Lib.hid (show CB W2 (n + 1 + 1 + 1) 35 (namedC Co mi ci Bo j cn) from HS1.out.hd.below HB2.out)
            have HS3 := Lib.hid (HS1.out.below HB2.out)
            obtain ⟨T, hT⟩ : ∃ T, wr.heap.size = T := ⟨_, rfl⟩
            have HT := Lib.hid hT
            rw [hT] at HI3
            rw [hT]
            clear hT
            refine wpAny_inv [0, 1, 2, 3, 4] (IDot22 (fun v81 v82 v83 v84 v85 => ⟨#[Value.agg #[Value.string tx, Value.string nm, Value.slice A l.length c, Value.bool true, Value.slice A2 m2 c2], Value.string addr, Value.string inner, Value.pointer (some { block := n, off := 0 }), undef, undef, Value.pointer (some { block := n + 1, off := 0 }), Value.pointer (some { block := n + 1 + 1, off := 0 }), Value.pointer (some { block := n + 1 + 1 + 1, off := 0 }), Value.map (some (n + 1 + 1 + 1 + 1)), undef, u11, u12, u13, undef, u15, Value.pointer (some { block := T, off := 0 }), Value.agg #[Value.int IntKind.i64 5, Value.bool false, Value.int IntKind.i64 0, Value.string { data := #[] }, Value.slice none 0 0, Value.slice none 0 0], Value.agg #[Value.int IntKind.i64 6, Value.bool false, Value.int IntKind.i64 0, Value.string { data := #[] }, Value.slice none 0 0, Value.slice none 0 0], Value.map (some (n + 1 + 1 + 1 + 1)), Value.pointer (some { block := n, off := 2 }), Value.slice A l.length c, Value.int IntKind.i64 ↑l.length, Value.int IntKind.i64 ↑k, Value.bool false, u25, u26, u27, u28, u29, u30, u31, u32, u33, u34, u35, u36, u37, u38, u39, u40, u41, u42, u43, u44, u45, u46, u47, u48, u49, u50, u51, u52, u53, u54, u55, u56, u57, u58, Value.pointer (some { block := n + 1 + 1 + 1, off := 5 }), Value.slice Bo j cn, Value.int IntKind.i64 ↑j, Value.int IntKind.i64 ↑j, Value.bool false, u64, u65, u66, u67, u68, u69, u70, u71, u72, u73, u74, u75, Value.agg #[Value.int IntKind.i64 0, Value.bool false, Value.int IntKind.i64 0, Value.string { data := #[] }, Value.slice none 0 0, Value.slice none 0 0], Value.pointer (some { block := n, off := 3 }), Value.bool true, Value.string inner, Value.agg #[Value.int IntKind.i64 7, Value.bool false, Value.int IntKind.i64 0, Value.string inner, Value.slice none 0 0, Value.slice none 0 0], v81, v82, v83, v84, v85, undef, undef], []⟩) true addr inner Ao mk co Co mi ci Bo j cn W2) #[true, true, true, true, true, false, false, false] (g := 3) (by kernel_rfl) (by kernel_rfl) (by kernel_rfl) (IDot22.start undef undef undef undef undef rfl) ?step ?last
            case step =>
              intro i hi L a' w' hs hr hI
              obtain ⟨x0, x1, x2, x3, x4, rfl, hB, h0, h1, h2, h3, h4⟩ := hI
              simp only [List.mem_cons, List.not_mem_nil, or_false] at hi
              rcases hi with rfl | rfl | rfl | rfl | rfl
              · have z0 := (HA3.out.below hB).c 0
                have z1 := (HA3.out.below hB).c 1
                have z2 := (HA3.out.below hB).c 2
                have z3 := (HA3.out.below hB).c 3
                have z4 := (HA3.out.below hB).c 4
                have z5 := (HA3.out.below hB).c 5
                have zsh := (HA3.out.below hB).sh
                simp only [argsC, List.getElem?_toArray, List.getElem?_cons_zero, List.getElem?_cons_succ] at z0 z1 z2 z3 z4 z5
                refine wpOp_step rfl (fun K hK => ?_)
                go_simp
                exact hK _ _ ⟨_, _, _, _, _, rfl, hB, fun _ => rfl, fun h => h1 (getD_was (by decide) h), fun h => h2 (getD_was (by decide) h), fun h => h3 (getD_was (by decide) h), fun h => h4 (getD_was (by decide) h)⟩
              · have z0 := (HI3.out.below hB).c 0
                have z1 := (HI3.out.below hB).c 1
                have z2 := (HI3.out.below hB).c 2
                have z3 := (HI3.out.below hB).c 3
                have z4 := (HI3.out.below hB).c 4
                have z5 := (HI3.out.below hB).c 5
                have zsh := (HI3.out.below hB).sh
                simp only [List.getElem?_toArray, List.getElem?_cons_zero, List.getElem?_cons_succ] at z0 z1 z2 z3 z4 z5
                refine wpOp_step rfl (fun K hK => ?_)
                go_simp
                exact hK _ _ ⟨_, _, _, _, _, rfl, hB, fun h => h0 (getD_was (by decide) h), fun _ => rfl, fun h => h2 (getD_was (by decide) h), fun h => h3 (getD_was (by decide) h), fun h => h4 (getD_was (by decide) h)⟩
              · have z0 := (HD3.out.below hB).c 0
                have z1 := (HD3.out.below hB).c 1
                have z2 := (HD3.out.below hB).c 2
                have z3 := (HD3.out.below hB).c 3
                have z4 := (HD3.out.below hB).c 4
                have z5 := (HD3.out.below hB).c 5
                have zsh := (HD3.out.below hB).sh
                simp only [namedC, List.getElem?_toArray, List.getElem?_cons_zero, List.getElem?_cons_succ] at z0 z1 z2 z3 z4 z5
                refine wpOp_step rfl (fun K hK => ?_)
                go_simp
                exact hK _ _ ⟨_, _, _, _, _, rfl, hB, fun h => h0 (getD_was (by decide) h), fun h => h1 (getD_was (by decide) h), fun _ => rfl, fun h => h3 (getD_was (by decide) h), fun h => h4 (getD_was (by decide) h)⟩
              · refine wpOp_step rfl (fun K hK => ?_)
                go_simp
                exact hK _ _ ⟨_, _, _, _, _, rfl, hB, fun h => h0 (getD_was (by decide) h), fun h => h1 (getD_was (by decide) h), fun h => h2 (getD_was (by decide) h), fun _ => rfl, fun h => h4 (getD_was (by decide) h)⟩
              · have q3 := h3 (ready_dep hr (by kernel_rfl))
                subst q3
                refine wpOp_step rfl (fun K hK => ?_)
                go_simp
                refine (pageFact_p _ w' HHa.out).mono ?_
                rintro e w'' ⟨rfl, hb⟩
                exact hK _ _ ⟨_, _, _, _, _, rfl, hB.trans (hb.mono hB.size), fun h => h0 (getD_was (by decide) h), fun h => h1 (getD_was (by decide) h), fun h => h2 (getD_was (by decide) h), fun _ => rfl, fun _ => rfl⟩
            case last =>
              intro a' w' hI
              obtain ⟨x0, x1, x2, x3, x4, rfl, hB, h0, h1, h2, h3, h4⟩ := hI
              have q0 := h0 rfl
              have q1 := h1 rfl
              have q2 := h2 rfl
              have q4 := h4 rfl
              clear h0 h1 h2 h3 h4
              subst q0 q1 q2 q4
              refine wpAny_of_seqA 3 5 rfl (by kernel_rfl) ?_
              simp only [List.drop_succ_cons, List.drop_zero, valAgg, vSafe, vPage, inV, argsC, namedC, Val.kind, Val.flag, Val.num, Val.text, if_true]
              go_wp2_with fail
              change Calls _ _ _ (w'.alloc (.cells (flatV (partsD l true addr inner (.slice Ao mk co) (.slice Co mi ci) (.slice Bo j cn))).toArray 35)) _
              obtain ⟨w8, hw8⟩ : ∃ w8, w'.alloc (.cells (flatV (partsD l true addr inner (.slice Ao mk co) (.slice Co mi ci) (.slice Bo j cn))).toArray 35) = w8 := ⟨_, rfl⟩
              have HI8 := Lib.hid (show CB w8 w'.heap.size 35 (flatV (partsD l true addr inner (.slice Ao mk co) (.slice Co mi ci) (.slice Bo j cn))).toArray by rw [← hw8]; exact CB.new _ _ _)
              have HB8 := Lib.hid (show Below w'.heap.size w' w8 by rw [← hw8]; exact (Below.refl _ _).alloc (Nat.le_refl _) _)
              have HS8 := Lib.hid ((HS3.out.below hB).below HB8.out)
              have hKw' := (HS3.out.below hB).hKw
              rw [hw8]
              clear hw8
              refine (table_p kDotS _ _ _ _ rfl w8 (HSp.out.keep HS8.out.hb) kDotU kDot_fields (by decide) kDot_ascii).mono ?_
              rintro e w9 ⟨g2, rfl, hg2, hc2, hb9⟩
              have HS9 := Lib.hid (HS8.out.below hb9)
              have HI9 := Lib.hid (HI8.out.below hb9)
              have hKn := HS9.out.hK
              have hn8 := HB8.out.size
              have hvi := HS9.out.hi
              rw [List.take_of_length_le (by rw [← HS9.out.h2]; exact Nat.le_refl _)] at hvi
              have HIt := Lib.hid (dot_items (P := fun b => n + 5 ≤ b) HI9.out (show n + 5 ≤ w'.heap.size by omega) (vals_of_row HS9.out.ho HS9.out.h1 (unN_flat HSizes.out))
                ((vals_of_row hvi (by rw [HS9.out.h3]; unfold itN; rw [List.length_map, ← HS9.out.h2]) (itN_flat HSizes.out _)).keep (KeepsIn.refl _ _) (fun b _ hb => by omega)) (strs_own HS9.out.hk (fun s hs => nm_sizes HSizes.out hs)) HIn.out HHa.out)
              have HKy := Lib.hid (dot_keys hc2 (P := fun b => n + 5 ≤ b) (show n + 5 ≤ g2 by omega))
              clear hc2 hb9 hvi
              have HR9 := Lib.hid (show CB w9 (n + 1) 35 zeroVC from HS9.out.hr)
              have HB9 := Lib.hid HS9.out.hb
              obtain ⟨g1, hg1⟩ : ∃ g1, w'.heap.size = g1 := ⟨_, rfl⟩
              rw [hg1] at HIt
              rw [hg1]
              have zc0 := HR9.out.c 0
              have zf0 := HR9.out.f 0
              have zc1 := HR9.out.c 1
              have zf1 := HR9.out.f 1
              have zc2 := HR9.out.c 2
              have zf2 := HR9.out.f 2
              have zc3 := HR9.out.c 3
              have zf3 := HR9.out.f 3
              have zc4 := HR9.out.c 4
              have zf4 := HR9.out.f 4
              have zc5 := HR9.out.c 5
              have zf5 := HR9.out.f 5
              have zsh := HR9.out.sh
              have hnz : n + 1 < w9.heap.size := HR9.out.lt
              simp only [zeroVC, List.getElem?_toArray, List.getElem?_cons_zero, List.getElem?_cons_succ] at zc0 zc1 zc2 zc3 zc4 zc5
              unfold tabV
              go_wp2_with fail
              have K1 : KeepsIn (fun b => n + 5 ≤ b) w9 (((((((w9).setCell ⟨n + 1, 0, none⟩ (.int .i64 6)).setCell ⟨n + 1, 1, none⟩ (.bool false)).setCell ⟨n + 1, 2, none⟩ (.int .i64 0)).setCell ⟨n + 1, 3, none⟩ (.string ⟨#[]⟩)).setCell ⟨n + 1, 4, none⟩ (.slice (some ⟨g1, 0, none⟩) 4 4)).setCell ⟨n + 1, 5, none⟩ (.slice (some ⟨g2, 0, none⟩) 4 4)) :=
                (((((keepsIn_set (by omega)).trans (keepsIn_set (by omega))).trans (keepsIn_set (by omega))).trans (keepsIn_set (by omega))).trans (keepsIn_set (by omega))).trans (keepsIn_set (by omega))
              exact val_done (n := n + 1) rfl ((((((HR9.out.put 0 _).put 1 _).put 2 _).put 3 _).put 4 _).put 5 _) rfl rfl rfl
                ⟨some ⟨g1, 0, none⟩, 4, 4, some ⟨g2, 0, none⟩, 4, 4, rfl, ⟨_, _, rfl, ⟨i64_6, i64_0, Nat.zero_le _⟩, HIt.out.keep K1 (fun b _ hb => by omega), HKy.out.keep K1 (fun b _ hb => by omega)⟩,
                  (((((HB9.out.setB (by omega) 0 _).setB (by omega) 1 _).setB (by omega) 2 _).setB (by omega) 3 _).setB (by omega) 4 _).setB (by omega) 5 _⟩


end Go.Proofs.YtphmhhonbkcajaaDoor
