/-
  The dot of a hook: page.Fields.
-/
import Derived.Test.YtphmhhonbkcajaaDoorDot
import Derived.Test.YtphmhhonbkcajaaDoorLineW
namespace Go.Proofs.YtphmhhonbkcajaaDoor
open Go.RowKit Go.Deep

/-- a row of values without items and keys -/
def ItS (W1 : World) (m : Nat) (its : List Val) (x : Value) (w : World) : Prop := ∃ g : Nat, x = .slice (some ⟨g, 0, none⟩) m m ∧ W1.heap.size ≤ g ∧ CB w g 35 (rowVC its).toArray
theorem ItS.below {W1 w w' : World} {m : Nat} {its : List Val} {x : Value} (h : ItS W1 m its x w) (hb : Below w.heap.size w w') : ItS W1 m its x w' := by obtain ⟨g, h1, h2, h3⟩ := h; exact ⟨g, h1, h2, h3.below hb⟩
def KeyS (W1 : World) (m : Nat) (ks : List (List UInt8)) (x : Value) (w : World) : Prop := ∃ g : Nat, x = .slice (some ⟨g, 0, none⟩) m m ∧ W1.heap.size ≤ g ∧ CB w g 9 (keysC ks)
theorem KeyS.below {W1 w w' : World} {m : Nat} {ks : List (List UInt8)} {x : Value} (h : KeyS W1 m ks x w) (hb : Below w.heap.size w w') : KeyS W1 m ks x w' := by obtain ⟨g, h1, h2, h3⟩ := h; exact ⟨g, h1, h2, h3.below hb⟩
def tabL (its : List Val) (ks : List (List UInt8)) : Val := .mk 6 false 0 ⟨#[]⟩ its (ks.map fun k => ⟨k.toArray⟩)
/-- the dot of a hook, where the node's line is z -/
def fieldsV (nd : Node) (addr id inner z : ByteArray) : Val :=
  if nd.kind = 17 then tabL [vStr nd.dest, vSafe inner, vPage addr, vStr nd.title] [[100, 101, 115, 116], [105, 110, 110, 101, 114], [112, 97, 103, 101], [116, 105, 116, 108, 101]] else if nd.kind = 18 then tabL [vStr nd.dest, vPage addr, vStr nd.text, vStr nd.title] [[100, 101, 115, 116], [112, 97, 103, 101], [116, 101, 120, 116], [116, 105, 116, 108, 101]] else if nd.kind = 1 then tabL [vStr id, vSafe inner, vNum nd.level, vPage addr, vStr z] [[105, 100], [105, 110, 110, 101, 114], [108, 101, 118, 101, 108], [112, 97, 103, 101], [116, 101, 120, 116]] else if nd.kind = 3 then tabL [vStr nd.dest, vPage addr, vStr nd.text] [[105, 110, 102, 111], [112, 97, 103, 101], [116, 101, 120, 116]] else tabL [vPage addr] [[112, 97, 103, 101]]
def FlatV (x : Val) : Prop := x.items = [] ∧ x.keys = [] ∧ ValOk x
theorem flat_str {s : ByteArray} (h : s.size ≤ maxLen) : FlatV (vStr s) := ⟨rfl, rfl, valOk_str h⟩
theorem flat_safe {s : ByteArray} (h : s.size ≤ maxLen) : FlatV (vSafe s) := ⟨rfl, rfl, valOk_safe h⟩
theorem flat_num {k : Int} (h : I64 k) : FlatV (vNum k) := ⟨rfl, rfl, valOk_num h⟩
theorem flat_page {s : ByteArray} (h : s.size ≤ 1073741824) : FlatV (vPage s) := ⟨rfl, rfl, vPage_ok h⟩
theorem flat_items {w : World} {P : Nat → Prop} {g : Nat} {its : List Val} (h : CB w g 35 (rowVC its).toArray) (hP : P g) (hl : its.length ≤ maxLen) (hf : ∀ x ∈ its, FlatV x) : ValsIn w P (.slice (some ⟨g, 0, none⟩) its.length its.length) its := by
  have := valsIn_of_block (w := w) (P := P) (ps := its.map P0) h hP (by rw [List.length_map]; exact hl)
    (fun p hp => by obtain ⟨x, hx, rfl⟩ := List.mem_map.1 hp; show ValsIn _ _ (.slice none 0 0) x.items; rw [(hf x hx).1]; exact valsIn_nil _ _)
    (fun p hp => by obtain ⟨x, hx, rfl⟩ := List.mem_map.1 hp; show StrsIn _ _ (.slice none 0 0) x.keys; rw [(hf x hx).2.1]; exact strsIn_nil _ _)
    (fun p hp => by obtain ⟨x, hx, rfl⟩ := List.mem_map.1 hp; exact (hf x hx).2.2)
  rw [List.length_map, List.map_map, show ((fun x : PartV => x.n) ∘ P0) = id from rfl, List.map_id] at this
  exact this
theorem tab_in {w : World} {P : Nat → Prop} {g1 g2 : Nat} {its : List Val} {ks : List (List UInt8)} (h1 : CB w g1 35 (rowVC its).toArray) (hP1 : P g1) (hf : ∀ x ∈ its, FlatV x) (h2 : CB w g2 9 (keysC ks)) (hP2 : P g2) (hl : its.length ≤ 5) (hl2 : ks.length ≤ 5) (hk : ∀ k ∈ ks, k.length ≤ 5) :
    ValIn w P (valAgg (tabL its ks) (.slice (some ⟨g1, 0, none⟩) its.length its.length) (.slice (some ⟨g2, 0, none⟩) ks.length ks.length)) (tabL its ks) :=
  ⟨_, _, rfl, ⟨i64_6, i64_0, Nat.zero_le _⟩, flat_items h1 hP1 (by unfold maxLen; omega) hf, strsIn_of_block h2 hP2 (by unfold maxLen; omega) (fun k hk2 => by have := hk k hk2; unfold maxLen; omega)⟩
theorem ascii_of {K : ByteArray} (h : K.data.toList.all (fun b => decide (b.toNat < 128)) = true) : ∀ (j : Nat) b, K.data.toList[j]? = some b → b.toNat < 128 := fun _ b hj => of_decide_eq_true (List.all_eq_true.1 h b (List.mem_of_getElem? hj))
/-- the line's contract, its string by a name -/
theorem line_z {l : List Node} {v : Value} {w : World} {z : ByteArray} (h : NodesAt w v l) (hw : weight l ≤ 1073741824) (hz : (⟨(lineL l).toArray⟩ : ByteArray) = z) : Calls Tryd.prog 23 #[v] w fun e w' => e = .returned (.string z) ∧ Below w.heap.size w w' :=
  (line_any _ l v w (Nat.le_refl _) h hw).mono fun e w' ⟨s, h1, h2, h3⟩ => ⟨by rw [h1, ← hz, ← h2], h3⟩
theorem plainOf_z {l : List Node} {v : Value} {w : World} {z : ByteArray} (h : NodesAt w v l) (hw : weight l ≤ 1073741824) (hk : Kidless l) (hz : (⟨(plainL 0 l).toArray⟩ : ByteArray) = z) : Calls Tryd.prog 25 #[v] w fun e w' => e = .returned (.string z) ∧ Below w.heap.size w w' :=
  (plainOf_any _ l v w (Nat.le_refl _) h hw hk).mono fun e w' ⟨s, h1, h2, h3⟩ => ⟨by rw [h1, ← hz, ← h2], h3⟩

def IFldP17 (fr : Value → Value → Value → Value → Value → Value → Value → Value → Value → Value → Act) (n : Nat) (nd : Node) (addr : ByteArray) (inner : ByteArray) (W1 : World) (L : Array Bool) (a : Act) (w : World) : Prop :=
  ∃ x0 x1 x2 x3 x4 x5 x6 x7 x8 x9 : Value, a = fr x0 x1 x2 x3 x4 x5 x6 x7 x8 x9 ∧ Below W1.heap.size W1 w ∧ (L.getD 0 false = true → x0 = .pointer (some ⟨n, 3, none⟩)) ∧ (L.getD 1 false = true → x1 = .string nd.dest) ∧ (L.getD 2 false = true → x2 = valAgg (vStr nd.dest) (.slice none 0 0) (.slice none 0 0)) ∧ (L.getD 3 false = true → x3 = .string inner) ∧ (L.getD 4 false = true → x4 = valAgg (vSafe inner) (.slice none 0 0) (.slice none 0 0)) ∧ (L.getD 5 false = true → x5 = valAgg (vPage addr) (.slice none 0 0) (.slice none 0 0)) ∧ (L.getD 6 false = true → x6 = .pointer (some ⟨n, 4, none⟩)) ∧ (L.getD 7 false = true → x7 = .string nd.title) ∧ (L.getD 8 false = true → x8 = valAgg (vStr nd.title) (.slice none 0 0) (.slice none 0 0)) ∧ (L.getD 9 false = true → ItS W1 4 [vStr nd.dest, vSafe inner, vPage addr, vStr nd.title] x9 w)
theorem IFldP17.start {m : Nat} {fr : Value → Value → Value → Value → Value → Value → Value → Value → Value → Value → Act} {n : Nat} {nd : Node} {addr : ByteArray} {inner : ByteArray} {W1 : World} {a : Act} (x0 x1 x2 x3 x4 x5 x6 x7 x8 x9 : Value) (h : a = fr x0 x1 x2 x3 x4 x5 x6 x7 x8 x9) : IFldP17 fr n nd addr inner W1 (Array.replicate m false) a W1 :=
  ⟨x0, x1, x2, x3, x4, x5, x6, x7, x8, x9, h, Below.refl _ _, (fun h => by rw [getD_replicate_false] at h; cases h), (fun h => by rw [getD_replicate_false] at h; cases h), (fun h => by rw [getD_replicate_false] at h; cases h), (fun h => by rw [getD_replicate_false] at h; cases h), (fun h => by rw [getD_replicate_false] at h; cases h), (fun h => by rw [getD_replicate_false] at h; cases h), (fun h => by rw [getD_replicate_false] at h; cases h), (fun h => by rw [getD_replicate_false] at h; cases h), (fun h => by rw [getD_replicate_false] at h; cases h), (fun h => by rw [getD_replicate_false] at h; cases h)⟩
def IFldP18 (fr : Value → Value → Value → Value → Value → Value → Value → Value → Value → Value → Value → Act) (n : Nat) (nd : Node) (addr : ByteArray) (W1 : World) (L : Array Bool) (a : Act) (w : World) : Prop :=
  ∃ x0 x1 x2 x3 x4 x5 x6 x7 x8 x9 x10 : Value, a = fr x0 x1 x2 x3 x4 x5 x6 x7 x8 x9 x10 ∧ Below W1.heap.size W1 w ∧ (L.getD 0 false = true → x0 = .pointer (some ⟨n, 3, none⟩)) ∧ (L.getD 1 false = true → x1 = .string nd.dest) ∧ (L.getD 2 false = true → x2 = valAgg (vStr nd.dest) (.slice none 0 0) (.slice none 0 0)) ∧ (L.getD 3 false = true → x3 = valAgg (vPage addr) (.slice none 0 0) (.slice none 0 0)) ∧ (L.getD 4 false = true → x4 = .pointer (some ⟨n, 2, none⟩)) ∧ (L.getD 5 false = true → x5 = .string nd.text) ∧ (L.getD 6 false = true → x6 = valAgg (vStr nd.text) (.slice none 0 0) (.slice none 0 0)) ∧ (L.getD 7 false = true → x7 = .pointer (some ⟨n, 4, none⟩)) ∧ (L.getD 8 false = true → x8 = .string nd.title) ∧ (L.getD 9 false = true → x9 = valAgg (vStr nd.title) (.slice none 0 0) (.slice none 0 0)) ∧ (L.getD 10 false = true → ItS W1 4 [vStr nd.dest, vPage addr, vStr nd.text, vStr nd.title] x10 w)
theorem IFldP18.start {m : Nat} {fr : Value → Value → Value → Value → Value → Value → Value → Value → Value → Value → Value → Act} {n : Nat} {nd : Node} {addr : ByteArray} {W1 : World} {a : Act} (x0 x1 x2 x3 x4 x5 x6 x7 x8 x9 x10 : Value) (h : a = fr x0 x1 x2 x3 x4 x5 x6 x7 x8 x9 x10) : IFldP18 fr n nd addr W1 (Array.replicate m false) a W1 :=
  ⟨x0, x1, x2, x3, x4, x5, x6, x7, x8, x9, x10, h, Below.refl _ _, (fun h => by rw [getD_replicate_false] at h; cases h), (fun h => by rw [getD_replicate_false] at h; cases h), (fun h => by rw [getD_replicate_false] at h; cases h), (fun h => by rw [getD_replicate_false] at h; cases h), (fun h => by rw [getD_replicate_false] at h; cases h), (fun h => by rw [getD_replicate_false] at h; cases h), (fun h => by rw [getD_replicate_false] at h; cases h), (fun h => by rw [getD_replicate_false] at h; cases h), (fun h => by rw [getD_replicate_false] at h; cases h), (fun h => by rw [getD_replicate_false] at h; cases h), (fun h => by rw [getD_replicate_false] at h; cases h)⟩
def IFldP1 (fr : Value → Value → Value → Value → Value → Value → Value → Value → Value → Value → Value → Act) (n : Nat) (nd : Node) (addr : ByteArray) (id : ByteArray) (inner : ByteArray) (z : ByteArray) (Ak : Option Addr) (ck : Nat) (W1 : World) (L : Array Bool) (a : Act) (w : World) : Prop :=
  ∃ x0 x1 x2 x3 x4 x5 x6 x7 x8 x9 x10 : Value, a = fr x0 x1 x2 x3 x4 x5 x6 x7 x8 x9 x10 ∧ Below W1.heap.size W1 w ∧ (L.getD 0 false = true → x0 = .string id) ∧ (L.getD 1 false = true → x1 = valAgg (vStr id) (.slice none 0 0) (.slice none 0 0)) ∧ (L.getD 2 false = true → x2 = .string inner) ∧ (L.getD 3 false = true → x3 = valAgg (vSafe inner) (.slice none 0 0) (.slice none 0 0)) ∧ (L.getD 4 false = true → x4 = valAgg (vNum nd.level) (.slice none 0 0) (.slice none 0 0)) ∧ (L.getD 5 false = true → x5 = valAgg (vPage addr) (.slice none 0 0) (.slice none 0 0)) ∧ (L.getD 6 false = true → x6 = .pointer (some ⟨n, 5, none⟩)) ∧ (L.getD 7 false = true → x7 = .slice Ak nd.kids.length ck) ∧ (L.getD 8 false = true → x8 = .string z) ∧ (L.getD 9 false = true → x9 = valAgg (vStr z) (.slice none 0 0) (.slice none 0 0)) ∧ (L.getD 10 false = true → ItS W1 5 [vStr id, vSafe inner, vNum nd.level, vPage addr, vStr z] x10 w)
theorem IFldP1.start {m : Nat} {fr : Value → Value → Value → Value → Value → Value → Value → Value → Value → Value → Value → Act} {n : Nat} {nd : Node} {addr : ByteArray} {id : ByteArray} {inner : ByteArray} {z : ByteArray} {Ak : Option Addr} {ck : Nat} {W1 : World} {a : Act} (x0 x1 x2 x3 x4 x5 x6 x7 x8 x9 x10 : Value) (h : a = fr x0 x1 x2 x3 x4 x5 x6 x7 x8 x9 x10) : IFldP1 fr n nd addr id inner z Ak ck W1 (Array.replicate m false) a W1 :=
  ⟨x0, x1, x2, x3, x4, x5, x6, x7, x8, x9, x10, h, Below.refl _ _, (fun h => by rw [getD_replicate_false] at h; cases h), (fun h => by rw [getD_replicate_false] at h; cases h), (fun h => by rw [getD_replicate_false] at h; cases h), (fun h => by rw [getD_replicate_false] at h; cases h), (fun h => by rw [getD_replicate_false] at h; cases h), (fun h => by rw [getD_replicate_false] at h; cases h), (fun h => by rw [getD_replicate_false] at h; cases h), (fun h => by rw [getD_replicate_false] at h; cases h), (fun h => by rw [getD_replicate_false] at h; cases h), (fun h => by rw [getD_replicate_false] at h; cases h), (fun h => by rw [getD_replicate_false] at h; cases h)⟩
def IFldP3 (fr : Value → Value → Value → Value → Value → Value → Value → Value → Act) (n : Nat) (nd : Node) (addr : ByteArray) (W1 : World) (L : Array Bool) (a : Act) (w : World) : Prop :=
  ∃ x0 x1 x2 x3 x4 x5 x6 x7 : Value, a = fr x0 x1 x2 x3 x4 x5 x6 x7 ∧ Below W1.heap.size W1 w ∧ (L.getD 0 false = true → x0 = .pointer (some ⟨n, 3, none⟩)) ∧ (L.getD 1 false = true → x1 = .string nd.dest) ∧ (L.getD 2 false = true → x2 = valAgg (vStr nd.dest) (.slice none 0 0) (.slice none 0 0)) ∧ (L.getD 3 false = true → x3 = valAgg (vPage addr) (.slice none 0 0) (.slice none 0 0)) ∧ (L.getD 4 false = true → x4 = .pointer (some ⟨n, 2, none⟩)) ∧ (L.getD 5 false = true → x5 = .string nd.text) ∧ (L.getD 6 false = true → x6 = valAgg (vStr nd.text) (.slice none 0 0) (.slice none 0 0)) ∧ (L.getD 7 false = true → ItS W1 3 [vStr nd.dest, vPage addr, vStr nd.text] x7 w)
theorem IFldP3.start {m : Nat} {fr : Value → Value → Value → Value → Value → Value → Value → Value → Act} {n : Nat} {nd : Node} {addr : ByteArray} {W1 : World} {a : Act} (x0 x1 x2 x3 x4 x5 x6 x7 : Value) (h : a = fr x0 x1 x2 x3 x4 x5 x6 x7) : IFldP3 fr n nd addr W1 (Array.replicate m false) a W1 :=
  ⟨x0, x1, x2, x3, x4, x5, x6, x7, h, Below.refl _ _, (fun h => by rw [getD_replicate_false] at h; cases h), (fun h => by rw [getD_replicate_false] at h; cases h), (fun h => by rw [getD_replicate_false] at h; cases h), (fun h => by rw [getD_replicate_false] at h; cases h), (fun h => by rw [getD_replicate_false] at h; cases h), (fun h => by rw [getD_replicate_false] at h; cases h), (fun h => by rw [getD_replicate_false] at h; cases h), (fun h => by rw [getD_replicate_false] at h; cases h)⟩

set_option maxRecDepth 100000 in
set_option maxHeartbeats 8000000 in
theorem fields_q (nd : Node) (kv : Value) (addr id inner z : ByteArray) (w : World) (hk : NodesAt w kv nd.kids) (hw : weight nd.kids ≤ 1073741824) (hsp : SpOk w) (hz : (⟨(lineL nd.kids).toArray⟩ : ByteArray) = z)
    (hI : I64 nd.kind ∧ I64 nd.level ∧ nd.text.size ≤ maxLen ∧ nd.dest.size ≤ maxLen ∧ nd.title.size ≤ maxLen) (ha : addr.size ≤ 1073741824) (hid : id.size ≤ maxLen) (hin : inner.size ≤ maxLen) :
    Calls Tryd.prog 8 #[.agg #[.int .i64 nd.kind, .int .i64 nd.level, .string nd.text, .string nd.dest, .string nd.title, kv], .string addr, .string id, .string inner] w (ClonePost (fieldsV nd addr id inner z) w) := by
  obtain ⟨Ak, ck, bk, ok, kvf, rfl, hlc, hck, _, _, _⟩ := hk.inv
  unfold maxLen at hck
  have HKids := Lib.hid hk; clear hk
  have HSp := Lib.hid hsp; clear hsp
  have HHa := Lib.hid ha; clear ha
  have HI := Lib.hid hI; clear hI
  have HIn := Lib.hid hin; clear hin
  have HId := Lib.hid hid; clear hid
  have HZs := Lib.hid (show z.size ≤ maxLen by rw [← hz, size_mk]; have := line_len nd.kids; unfold maxLen; omega)
  have HZ := Lib.hid hz; clear hz
  obtain ⟨n, hn⟩ : ∃ n, w.heap.size = n := ⟨_, rfl⟩
  have HB0 := Lib.hid (show Below n w ((w.alloc (.cells #[.int .i64 nd.kind, .int .i64 nd.level, .string nd.text, .string nd.dest, .string nd.title, .slice Ak nd.kids.length ck] 28)).alloc (.cells #[.int .i64 0, .bool false, .int .i64 0, .string ⟨#[]⟩, .slice none 0 0, .slice none 0 0] 35)) from ((Below.refl _ _).alloc (by omega) _).alloc (by rw [World.size_alloc]; omega) _)
  have HN0 := Lib.hid (show CB ((w.alloc (.cells #[.int .i64 nd.kind, .int .i64 nd.level, .string nd.text, .string nd.dest, .string nd.title, .slice Ak nd.kids.length ck] 28)).alloc (.cells #[.int .i64 0, .bool false, .int .i64 0, .string ⟨#[]⟩, .slice none 0 0, .slice none 0 0] 35)) n 28 #[.int .i64 nd.kind, .int .i64 nd.level, .string nd.text, .string nd.dest, .string nd.title, .slice Ak nd.kids.length ck] by
    have h := CB.new w #[.int .i64 nd.kind, .int .i64 nd.level, .string nd.text, .string nd.dest, .string nd.title, .slice Ak nd.kids.length ck] 28
    rw [hn] at h
    exact h.alloc _)
  have HR0 := Lib.hid (show CB ((w.alloc (.cells #[.int .i64 nd.kind, .int .i64 nd.level, .string nd.text, .string nd.dest, .string nd.title, .slice Ak nd.kids.length ck] 28)).alloc (.cells #[.int .i64 0, .bool false, .int .i64 0, .string ⟨#[]⟩, .slice none 0 0, .slice none 0 0] 35)) (n + 1) 35 #[.int .i64 0, .bool false, .int .i64 0, .string ⟨#[]⟩, .slice none 0 0, .slice none 0 0] by
    have h := CB.new (w.alloc (.cells #[.int .i64 nd.kind, .int .i64 nd.level, .string nd.text, .string nd.dest, .string nd.title, .slice Ak nd.kids.length ck] 28)) #[.int .i64 0, .bool false, .int .i64 0, .string ⟨#[]⟩, .slice none 0 0, .slice none 0 0] 35
    rw [World.size_alloc, hn] at h
    exact h)
  have hs0 : ((w.alloc (.cells #[.int .i64 nd.kind, .int .i64 nd.level, .string nd.text, .string nd.dest, .string nd.title, .slice Ak nd.kids.length ck] 28)).alloc (.cells #[.int .i64 0, .bool false, .int .i64 0, .string ⟨#[]⟩, .slice none 0 0, .slice none 0 0] 35)).heap.size = n + 2 := by rw [World.size_alloc, World.size_alloc, hn]
  have HS0 := Lib.hid hs0; clear hs0
  have hx : nd.kind = 17 ∨ nd.kind = 18 ∨ nd.kind = 1 ∨ nd.kind = 3 ∨ (nd.kind ≠ 17 ∧ nd.kind ≠ 18 ∧ nd.kind ≠ 1 ∧ nd.kind ≠ 3) := by omega
  rcases hx with hx | hx | hx | hx | hx
  · have hV : fieldsV nd addr id inner z = tabL [vStr nd.dest, vSafe inner, vPage addr, vStr nd.title] [[100, 101, 115, 116], [105, 110, 110, 101, 114], [112, 97, 103, 101], [116, 105, 116, 108, 101]] := by unfold fieldsV; rw [if_pos hx]
    rw [hV]
    clear hV
    have t17 : (nd.kind == 17) = true := by simp; omega
    have t18 : (nd.kind == 18) = false := by simp; omega
    have t1 : (nd.kind == 1) = false := by simp; omega
    have t3 : (nd.kind == 3) = false := by simp; omega
    clear hx
    go_enter Tryd.func8, Tryd.ntmps8
    go_wp2_with (go_at_call 17; go_must (refine (pageFact_p _ _ HHa.out).mono ?_); rintro e w1 ⟨rfl, hb1⟩; have HN1 := Lib.hid (HN0.out.below hb1); have HR1 := Lib.hid (HR0.out.below hb1); have HBb := Lib.hid hb1; clear hb1; have hnl := HN1.out.lt; have nc0 := HN1.out.c 0; have nc1 := HN1.out.c 1; have nc2 := HN1.out.c 2; have nc3 := HN1.out.c 3; have nc4 := HN1.out.c 4; have nc5 := HN1.out.c 5; simp only [List.getElem?_toArray, List.getElem?_cons_zero, List.getElem?_cons_succ] at nc0 nc1 nc2 nc3 nc4 nc5; simp only [valAgg, vPage, Val.kind, Val.flag, Val.num, Val.text])
    obtain ⟨W1, hW1⟩ : ∃ W1, w1.alloc (.cells #[.int .i64 8, .bool false, .int .i64 0, .string ((⟨#[112, 97, 103, 101, 58]⟩ : ByteArray) ++ addr), .slice none 0 0, .slice none 0 0] 35) = W1 := ⟨_, rfl⟩
    have HB1 := Lib.hid (show Below w1.heap.size w1 W1 by rw [← hW1]; exact (Below.refl w1.heap.size w1).alloc (Nat.le_refl _) _)
    have HP1 := Lib.hid (show CB W1 w1.heap.size 35 #[.int .i64 8, .bool false, .int .i64 0, .string ((⟨#[112, 97, 103, 101, 58]⟩ : ByteArray) ++ addr), .slice none 0 0, .slice none 0 0] by rw [← hW1]; exact CB.new _ _ _)
    rw [hW1]
    clear hW1
    refine wp_region_any (by kernel_rfl) ?_
    change wpAny _ _ _ _ _ _ _ W1.drew
    obtain ⟨W2, hW2⟩ : ∃ W2, W1.drew = W2 := ⟨_, rfl⟩
    have HB2 := Lib.hid (show Below W1.heap.size W1 W2 by rw [← hW2]; exact (Below.refl _ _).drew)
    rw [hW2]
    clear hW2
    have HP2 := Lib.hid (HP1.out.below HB2.out)
    have HN2 := Lib.hid ((HN1.out.below HB1.out).below HB2.out)
    have HR2 := Lib.hid ((HR1.out.below HB1.out).below HB2.out)
    have HBw := Lib.hid (show Below n w W2 from by
      have h1 := HB0.out
      have h2 := HBb.out
      have h3 := HS0.out
      have h4 := h2.size
      have h5 := HB1.out.size
      exact ((h1.trans (h2.mono (by omega))).trans (HB1.out.mono (by omega))).trans (HB2.out.mono (by omega)))
    obtain ⟨q1, hq1⟩ : ∃ q1, w1.heap.size = q1 := ⟨_, rfl⟩
    have HQ1 := Lib.hid (show n + 2 ≤ q1 by have h2 := HBb.out.size; rw [HS0.out] at h2; omega)
    have HQ2 := Lib.hid (show q1 ≤ W2.heap.size by have h2 := HB1.out.size; have h3 := HB2.out.size; omega)
    rw [hq1] at HP2
    rw [hq1]
    clear hq1
    refine wpAny_inv [0, 1, 2, 3, 4, 5, 6, 7, 8, 9] (IFldP17 (fun v17 v18 v19 v20 v21 v22 v23 v24 v25 v26 => ⟨#[Value.agg #[Value.int IntKind.i64 nd.kind, Value.int IntKind.i64 nd.level, Value.string nd.text, Value.string nd.dest, Value.string nd.title, Value.slice Ak nd.kids.length ck], Value.string addr, Value.string id, Value.string inner, Value.pointer (some { block := n, off := 0 }), undef, undef, undef, Value.pointer (some { block := n + 1, off := 0 }), Value.pointer (some { block := q1, off := 0 }), undef, Value.string addr, Value.agg #[Value.int IntKind.i64 8, Value.bool false, Value.int IntKind.i64 0, Value.string ({ data := #[112, 97, 103, 101, 58] } ++ addr), Value.slice none 0 0, Value.slice none 0 0], Value.pointer (some { block := n, off := 0 }), Value.int IntKind.i64 nd.kind, Value.bool true, Value.bool true, v17, v18, v19, v20, v21, v22, v23, v24, v25, v26, undef, undef, undef, undef, undef, undef, undef, undef, undef, undef, undef, undef, undef, undef, undef, undef, undef, undef, undef, undef, undef, undef, undef, undef, undef, undef, undef, undef, undef, undef, undef, undef, undef, undef, undef, undef, undef, undef, undef, undef, undef, undef, undef, undef, undef, undef], []⟩) n nd addr inner W2) #[true, true, true, true, true, true, true, true, true, true, false, false] (g := 2) (by kernel_rfl) (by kernel_rfl) (by kernel_rfl) (IFldP17.start undef undef undef undef undef undef undef undef undef undef rfl) ?step ?last
    case step =>
      intro i hi L a' w' hs hr hI
      obtain ⟨x0, x1, x2, x3, x4, x5, x6, x7, x8, x9, rfl, hB, h0, h1, h2, h3, h4, h5, h6, h7, h8, h9⟩ := hI
      simp only [List.mem_cons, List.not_mem_nil, or_false] at hi
      rcases hi with rfl | rfl | rfl | rfl | rfl | rfl | rfl | rfl | rfl | rfl
      · have zl := (HN2.out.below hB).lt
        refine wpOp_step rfl (fun K hK => ?_)
        go_simp
        exact hK _ _ ⟨_, _, _, _, _, _, _, _, _, _, rfl, hB, fun _ => rfl, fun h => h1 (getD_was (by decide) h), fun h => h2 (getD_was (by decide) h), fun h => h3 (getD_was (by decide) h), fun h => h4 (getD_was (by decide) h), fun h => h5 (getD_was (by decide) h), fun h => h6 (getD_was (by decide) h), fun h => h7 (getD_was (by decide) h), fun h => h8 (getD_was (by decide) h), fun h => h9 (getD_was (by decide) h)⟩
      · have q0 := h0 (ready_dep hr (by kernel_rfl))
        subst q0
        have z := (HN2.out.below hB).c 3
        simp only [List.getElem?_toArray, List.getElem?_cons_zero, List.getElem?_cons_succ] at z
        refine wpOp_step rfl (fun K hK => ?_)
        go_simp
        exact hK _ _ ⟨_, _, _, _, _, _, _, _, _, _, rfl, hB, fun _ => rfl, fun _ => rfl, fun h => h2 (getD_was (by decide) h), fun h => h3 (getD_was (by decide) h), fun h => h4 (getD_was (by decide) h), fun h => h5 (getD_was (by decide) h), fun h => h6 (getD_was (by decide) h), fun h => h7 (getD_was (by decide) h), fun h => h8 (getD_was (by decide) h), fun h => h9 (getD_was (by decide) h)⟩
      · have q1 := h1 (ready_dep hr (by kernel_rfl))
        subst q1
        refine wpOp_step rfl (fun K hK => ?_)
        go_simp
        refine (str_p _ w').mono ?_
        rintro e w'' ⟨rfl, hb⟩
        exact hK _ _ ⟨_, _, _, _, _, _, _, _, _, _, rfl, hB.trans (hb.mono hB.size), fun h => h0 (getD_was (by decide) h), fun _ => rfl, fun _ => rfl, fun h => h3 (getD_was (by decide) h), fun h => h4 (getD_was (by decide) h), fun h => h5 (getD_was (by decide) h), fun h => h6 (getD_was (by decide) h), fun h => h7 (getD_was (by decide) h), fun h => h8 (getD_was (by decide) h), fun h => ItS.below (h9 (getD_was (by decide) h)) hb⟩
      · refine wpOp_step rfl (fun K hK => ?_)
        go_simp
        exact hK _ _ ⟨_, _, _, _, _, _, _, _, _, _, rfl, hB, fun h => h0 (getD_was (by decide) h), fun h => h1 (getD_was (by decide) h), fun h => h2 (getD_was (by decide) h), fun _ => rfl, fun h => h4 (getD_was (by decide) h), fun h => h5 (getD_was (by decide) h), fun h => h6 (getD_was (by decide) h), fun h => h7 (getD_was (by decide) h), fun h => h8 (getD_was (by decide) h), fun h => h9 (getD_was (by decide) h)⟩
      · have q3 := h3 (ready_dep hr (by kernel_rfl))
        subst q3
        refine wpOp_step rfl (fun K hK => ?_)
        go_simp
        refine (safe_p _ w').mono ?_
        rintro e w'' ⟨rfl, hb⟩
        exact hK _ _ ⟨_, _, _, _, _, _, _, _, _, _, rfl, hB.trans (hb.mono hB.size), fun h => h0 (getD_was (by decide) h), fun h => h1 (getD_was (by decide) h), fun h => h2 (getD_was (by decide) h), fun _ => rfl, fun _ => rfl, fun h => h5 (getD_was (by decide) h), fun h => h6 (getD_was (by decide) h), fun h => h7 (getD_was (by decide) h), fun h => h8 (getD_was (by decide) h), fun h => ItS.below (h9 (getD_was (by decide) h)) hb⟩
      · have z0 := (HP2.out.below hB).c 0
        have z1 := (HP2.out.below hB).c 1
        have z2 := (HP2.out.below hB).c 2
        have z3 := (HP2.out.below hB).c 3
        have z4 := (HP2.out.below hB).c 4
        have z5 := (HP2.out.below hB).c 5
        have zsh := (HP2.out.below hB).sh
        simp only [List.getElem?_toArray, List.getElem?_cons_zero, List.getElem?_cons_succ] at z0 z1 z2 z3 z4 z5
        refine wpOp_step rfl (fun K hK => ?_)
        go_simp
        exact hK _ _ ⟨_, _, _, _, _, _, _, _, _, _, rfl, hB, fun h => h0 (getD_was (by decide) h), fun h => h1 (getD_was (by decide) h), fun h => h2 (getD_was (by decide) h), fun h => h3 (getD_was (by decide) h), fun h => h4 (getD_was (by decide) h), fun _ => rfl, fun h => h6 (getD_was (by decide) h), fun h => h7 (getD_was (by decide) h), fun h => h8 (getD_was (by decide) h), fun h => h9 (getD_was (by decide) h)⟩
      · have zl := (HN2.out.below hB).lt
        refine wpOp_step rfl (fun K hK => ?_)
        go_simp
        exact hK _ _ ⟨_, _, _, _, _, _, _, _, _, _, rfl, hB, fun h => h0 (getD_was (by decide) h), fun h => h1 (getD_was (by decide) h), fun h => h2 (getD_was (by decide) h), fun h => h3 (getD_was (by decide) h), fun h => h4 (getD_was (by decide) h), fun h => h5 (getD_was (by decide) h), fun _ => rfl, fun h => h7 (getD_was (by decide) h), fun h => h8 (getD_was (by decide) h), fun h => h9 (getD_was (by decide) h)⟩
      · have q6 := h6 (ready_dep hr (by kernel_rfl))
        subst q6
        have z := (HN2.out.below hB).c 4
        simp only [List.getElem?_toArray, List.getElem?_cons_zero, List.getElem?_cons_succ] at z
        refine wpOp_step rfl (fun K hK => ?_)
        go_simp
        exact hK _ _ ⟨_, _, _, _, _, _, _, _, _, _, rfl, hB, fun h => h0 (getD_was (by decide) h), fun h => h1 (getD_was (by decide) h), fun h => h2 (getD_was (by decide) h), fun h => h3 (getD_was (by decide) h), fun h => h4 (getD_was (by decide) h), fun h => h5 (getD_was (by decide) h), fun _ => rfl, fun _ => rfl, fun h => h8 (getD_was (by decide) h), fun h => h9 (getD_was (by decide) h)⟩
      · have q7 := h7 (ready_dep hr (by kernel_rfl))
        subst q7
        refine wpOp_step rfl (fun K hK => ?_)
        go_simp
        refine (str_p _ w').mono ?_
        rintro e w'' ⟨rfl, hb⟩
        exact hK _ _ ⟨_, _, _, _, _, _, _, _, _, _, rfl, hB.trans (hb.mono hB.size), fun h => h0 (getD_was (by decide) h), fun h => h1 (getD_was (by decide) h), fun h => h2 (getD_was (by decide) h), fun h => h3 (getD_was (by decide) h), fun h => h4 (getD_was (by decide) h), fun h => h5 (getD_was (by decide) h), fun h => h6 (getD_was (by decide) h), fun _ => rfl, fun _ => rfl, fun h => ItS.below (h9 (getD_was (by decide) h)) hb⟩
      · have q2 := h2 (ready_dep hr (by kernel_rfl))
        have q4 := h4 (ready_dep hr (by kernel_rfl))
        have q5 := h5 (ready_dep hr (by kernel_rfl))
        have q8 := h8 (ready_dep hr (by kernel_rfl))
        subst q2
        subst q4
        subst q5
        subst q8
        simp only [valAgg, vPage, vSafe, vStr, Val.kind, Val.flag, Val.num, Val.text]
        refine wpOp_step rfl (fun K hK => ?_)
        go_simp
        have hb := (Below.refl w'.heap.size w').alloc (Nat.le_refl _) (.cells (rowVC [vStr nd.dest, vSafe inner, vPage addr, vStr nd.title]).toArray 35)
        exact hK _ _ ⟨_, _, _, _, _, _, _, _, _, _, rfl, hB.alloc hB.size _, fun h => h0 (getD_was (by decide) h), fun h => h1 (getD_was (by decide) h), fun _ => rfl, fun h => h3 (getD_was (by decide) h), fun _ => rfl, fun _ => rfl, fun h => h6 (getD_was (by decide) h), fun h => h7 (getD_was (by decide) h), fun _ => rfl, fun _ => ⟨_, rfl, hB.size, CB.new _ _ _⟩⟩
    case last =>
      intro a' w' hI
      obtain ⟨x0, x1, x2, x3, x4, x5, x6, x7, x8, x9, rfl, hB, h0, h1, h2, h3, h4, h5, h6, h7, h8, h9⟩ := hI
      have qL := h9 rfl
      clear h0 h1 h2 h3 h4 h5 h6 h7 h8 h9
      obtain ⟨g1, rfl, hg1, hc1⟩ := qL
      refine wpAny_of_seqA 2 10 rfl (by kernel_rfl) ?_
      simp only [List.drop_succ_cons, List.drop_zero]
      have HB9 := Lib.hid (HBw.out.trans (hB.mono (by have := HBw.out.size; omega)))
      have HR9 := Lib.hid (HR2.out.below hB)
      have HC1 := Lib.hid hc1
      have HG1 := Lib.hid hg1
      clear hc1 hg1
      have HSz9 := Lib.hid (show W2.heap.size ≤ w'.heap.size from hB.size)
      go_wp2_with fail
      refine (table_p (⟨#[100, 101, 115, 116, 32, 105, 110, 110, 101, 114, 32, 112, 97, 103, 101, 32, 116, 105, 116, 108, 101]⟩ : ByteArray) _ _ _ _ rfl w' (HSp.out.keep (show Below w.heap.size w w' from by rw [hn]; exact HB9.out)) [[100, 101, 115, 116], [105, 110, 110, 101, 114], [112, 97, 103, 101], [116, 105, 116, 108, 101]] (by decide) (by decide) (ascii_of (by decide))).mono ?_
      rintro e w9 ⟨g2, rfl, hg2, hc2, hb9⟩
      have HK9 := Lib.hid hc2
      have HGb := Lib.hid (show n + 2 ≤ g2 by have h1 := HQ1.out; have h2 := HQ2.out; have h3 := HSz9.out; omega)
      clear hc2 hg2
      have HI9 := Lib.hid (HC1.out.below hb9)
      have HGa := Lib.hid (show n + 2 ≤ g1 by have h1 := HQ1.out; have h2 := HQ2.out; have h3 := HG1.out; omega)
      have HR8 := Lib.hid (HR9.out.below hb9)
      have HB8 := Lib.hid (show Below w.heap.size w w9 from by rw [hn]; exact HB9.out.trans (hb9.mono (by have := HB9.out.size; omega)))
      clear hb9
      have zc0 := HR8.out.c 0
      have zf0 := HR8.out.f 0
      have zc1 := HR8.out.c 1
      have zf1 := HR8.out.f 1
      have zc2 := HR8.out.c 2
      have zf2 := HR8.out.f 2
      have zc3 := HR8.out.c 3
      have zf3 := HR8.out.f 3
      have zc4 := HR8.out.c 4
      have zf4 := HR8.out.f 4
      have zc5 := HR8.out.c 5
      have zf5 := HR8.out.f 5
      have zsh := HR8.out.sh
      have hnz : n + 1 < w9.heap.size := HR8.out.lt
      simp only [List.getElem?_toArray, List.getElem?_cons_zero, List.getElem?_cons_succ] at zc0 zc1 zc2 zc3 zc4 zc5
      unfold tabV
      have HTab := Lib.hid (tab_in (w := w9) (P := fun b => n + 2 ≤ b) (its := [vStr nd.dest, vSafe inner, vPage addr, vStr nd.title]) (ks := [[100, 101, 115, 116], [105, 110, 110, 101, 114], [112, 97, 103, 101], [116, 105, 116, 108, 101]]) HI9.out HGa.out (by intro x hx; simp only [List.mem_cons, List.not_mem_nil, or_false] at hx; rcases hx with rfl | rfl | rfl | rfl; exact flat_str HI.out.2.2.2.1; exact flat_safe HIn.out; exact flat_page HHa.out; exact flat_str HI.out.2.2.2.2) HK9.out HGb.out (Nat.le_of_ble_eq_true rfl) (by decide) (by decide))
      go_wp2_with fail
      have K1 : KeepsIn (fun b => n + 2 ≤ b) w9 (((((((w9).setCell ⟨n + 1, 0, none⟩ (.int .i64 6)).setCell ⟨n + 1, 1, none⟩ (.bool false)).setCell ⟨n + 1, 2, none⟩ (.int .i64 0)).setCell ⟨n + 1, 3, none⟩ (.string ⟨#[]⟩)).setCell ⟨n + 1, 4, none⟩ (.slice (some ⟨g1, 0, none⟩) 4 4)).setCell ⟨n + 1, 5, none⟩ (.slice (some ⟨g2, 0, none⟩) 4 4)) :=
        (((((keepsIn_set (by omega)).trans (keepsIn_set (by omega))).trans (keepsIn_set (by omega))).trans (keepsIn_set (by omega))).trans (keepsIn_set (by omega))).trans (keepsIn_set (by omega))
      exact val_done (n := n + 1) rfl ((((((HR8.out.put 0 _).put 1 _).put 2 _).put 3 _).put 4 _).put 5 _) rfl rfl rfl
        ⟨some ⟨g1, 0, none⟩, 4, 4, some ⟨g2, 0, none⟩, 4, 4, rfl, HTab.out.keep K1 (fun b _ hb => by omega),
          (((((HB8.out.setB (by omega) 0 _).setB (by omega) 1 _).setB (by omega) 2 _).setB (by omega) 3 _).setB (by omega) 4 _).setB (by omega) 5 _⟩
  · have hV : fieldsV nd addr id inner z = tabL [vStr nd.dest, vPage addr, vStr nd.text, vStr nd.title] [[100, 101, 115, 116], [112, 97, 103, 101], [116, 101, 120, 116], [116, 105, 116, 108, 101]] := by unfold fieldsV; rw [if_neg (by omega), if_pos hx]
    rw [hV]
    clear hV
    have t17 : (nd.kind == 17) = false := by simp; omega
    have t18 : (nd.kind == 18) = true := by simp; omega
    have t1 : (nd.kind == 1) = false := by simp; omega
    have t3 : (nd.kind == 3) = false := by simp; omega
    clear hx
    go_enter Tryd.func8, Tryd.ntmps8
    go_wp2_with (go_at_call 17; go_must (refine (pageFact_p _ _ HHa.out).mono ?_); rintro e w1 ⟨rfl, hb1⟩; have HN1 := Lib.hid (HN0.out.below hb1); have HR1 := Lib.hid (HR0.out.below hb1); have HBb := Lib.hid hb1; clear hb1; have hnl := HN1.out.lt; have nc0 := HN1.out.c 0; have nc1 := HN1.out.c 1; have nc2 := HN1.out.c 2; have nc3 := HN1.out.c 3; have nc4 := HN1.out.c 4; have nc5 := HN1.out.c 5; simp only [List.getElem?_toArray, List.getElem?_cons_zero, List.getElem?_cons_succ] at nc0 nc1 nc2 nc3 nc4 nc5; simp only [valAgg, vPage, Val.kind, Val.flag, Val.num, Val.text])
    obtain ⟨W1, hW1⟩ : ∃ W1, w1.alloc (.cells #[.int .i64 8, .bool false, .int .i64 0, .string ((⟨#[112, 97, 103, 101, 58]⟩ : ByteArray) ++ addr), .slice none 0 0, .slice none 0 0] 35) = W1 := ⟨_, rfl⟩
    have HB1 := Lib.hid (show Below w1.heap.size w1 W1 by rw [← hW1]; exact (Below.refl w1.heap.size w1).alloc (Nat.le_refl _) _)
    have HP1 := Lib.hid (show CB W1 w1.heap.size 35 #[.int .i64 8, .bool false, .int .i64 0, .string ((⟨#[112, 97, 103, 101, 58]⟩ : ByteArray) ++ addr), .slice none 0 0, .slice none 0 0] by rw [← hW1]; exact CB.new _ _ _)
    rw [hW1]
    clear hW1
    refine wp_region_any (by kernel_rfl) ?_
    change wpAny _ _ _ _ _ _ _ W1.drew
    obtain ⟨W2, hW2⟩ : ∃ W2, W1.drew = W2 := ⟨_, rfl⟩
    have HB2 := Lib.hid (show Below W1.heap.size W1 W2 by rw [← hW2]; exact (Below.refl _ _).drew)
    rw [hW2]
    clear hW2
    have HP2 := Lib.hid (HP1.out.below HB2.out)
    have HN2 := Lib.hid ((HN1.out.below HB1.out).below HB2.out)
    have HR2 := Lib.hid ((HR1.out.below HB1.out).below HB2.out)
    have HBw := Lib.hid (show Below n w W2 from by
      have h1 := HB0.out
      have h2 := HBb.out
      have h3 := HS0.out
      have h4 := h2.size
      have h5 := HB1.out.size
      exact ((h1.trans (h2.mono (by omega))).trans (HB1.out.mono (by omega))).trans (HB2.out.mono (by omega)))
    obtain ⟨q1, hq1⟩ : ∃ q1, w1.heap.size = q1 := ⟨_, rfl⟩
    have HQ1 := Lib.hid (show n + 2 ≤ q1 by have h2 := HBb.out.size; rw [HS0.out] at h2; omega)
    have HQ2 := Lib.hid (show q1 ≤ W2.heap.size by have h2 := HB1.out.size; have h3 := HB2.out.size; omega)
    rw [hq1] at HP2
    rw [hq1]
    clear hq1
    refine wpAny_inv [0, 1, 2, 3, 4, 5, 6, 7, 8, 9, 10] (IFldP18 (fun v30 v31 v32 v33 v34 v35 v36 v37 v38 v39 v40 => ⟨#[Value.agg #[Value.int IntKind.i64 nd.kind, Value.int IntKind.i64 nd.level, Value.string nd.text, Value.string nd.dest, Value.string nd.title, Value.slice Ak nd.kids.length ck], Value.string addr, Value.string id, Value.string inner, Value.pointer (some { block := n, off := 0 }), undef, undef, undef, Value.pointer (some { block := n + 1, off := 0 }), Value.pointer (some { block := q1, off := 0 }), undef, Value.string addr, Value.agg #[Value.int IntKind.i64 8, Value.bool false, Value.int IntKind.i64 0, Value.string ({ data := #[112, 97, 103, 101, 58] } ++ addr), Value.slice none 0 0, Value.slice none 0 0], Value.pointer (some { block := n, off := 0 }), Value.int IntKind.i64 nd.kind, Value.bool false, Value.bool false, undef, undef, undef, undef, undef, undef, undef, undef, undef, undef, undef, Value.bool true, Value.bool true, v30, v31, v32, v33, v34, v35, v36, v37, v38, v39, v40, undef, undef, undef, undef, undef, undef, undef, undef, undef, undef, undef, undef, undef, undef, undef, undef, undef, undef, undef, undef, undef, undef, undef, undef, undef, undef, undef, undef, undef, undef, undef, undef], []⟩) n nd addr W2) #[true, true, true, true, true, true, true, true, true, true, true, false, false] (g := 2) (by kernel_rfl) (by kernel_rfl) (by kernel_rfl) (IFldP18.start undef undef undef undef undef undef undef undef undef undef undef rfl) ?step ?last
    case step =>
      intro i hi L a' w' hs hr hI
      obtain ⟨x0, x1, x2, x3, x4, x5, x6, x7, x8, x9, x10, rfl, hB, h0, h1, h2, h3, h4, h5, h6, h7, h8, h9, h10⟩ := hI
      simp only [List.mem_cons, List.not_mem_nil, or_false] at hi
      rcases hi with rfl | rfl | rfl | rfl | rfl | rfl | rfl | rfl | rfl | rfl | rfl
      · have zl := (HN2.out.below hB).lt
        refine wpOp_step rfl (fun K hK => ?_)
        go_simp
        exact hK _ _ ⟨_, _, _, _, _, _, _, _, _, _, _, rfl, hB, fun _ => rfl, fun h => h1 (getD_was (by decide) h), fun h => h2 (getD_was (by decide) h), fun h => h3 (getD_was (by decide) h), fun h => h4 (getD_was (by decide) h), fun h => h5 (getD_was (by decide) h), fun h => h6 (getD_was (by decide) h), fun h => h7 (getD_was (by decide) h), fun h => h8 (getD_was (by decide) h), fun h => h9 (getD_was (by decide) h), fun h => h10 (getD_was (by decide) h)⟩
      · have q0 := h0 (ready_dep hr (by kernel_rfl))
        subst q0
        have z := (HN2.out.below hB).c 3
        simp only [List.getElem?_toArray, List.getElem?_cons_zero, List.getElem?_cons_succ] at z
        refine wpOp_step rfl (fun K hK => ?_)
        go_simp
        exact hK _ _ ⟨_, _, _, _, _, _, _, _, _, _, _, rfl, hB, fun _ => rfl, fun _ => rfl, fun h => h2 (getD_was (by decide) h), fun h => h3 (getD_was (by decide) h), fun h => h4 (getD_was (by decide) h), fun h => h5 (getD_was (by decide) h), fun h => h6 (getD_was (by decide) h), fun h => h7 (getD_was (by decide) h), fun h => h8 (getD_was (by decide) h), fun h => h9 (getD_was (by decide) h), fun h => h10 (getD_was (by decide) h)⟩
      · have q1 := h1 (ready_dep hr (by kernel_rfl))
        subst q1
        refine wpOp_step rfl (fun K hK => ?_)
        go_simp
        refine (str_p _ w').mono ?_
        rintro e w'' ⟨rfl, hb⟩
        exact hK _ _ ⟨_, _, _, _, _, _, _, _, _, _, _, rfl, hB.trans (hb.mono hB.size), fun h => h0 (getD_was (by decide) h), fun _ => rfl, fun _ => rfl, fun h => h3 (getD_was (by decide) h), fun h => h4 (getD_was (by decide) h), fun h => h5 (getD_was (by decide) h), fun h => h6 (getD_was (by decide) h), fun h => h7 (getD_was (by decide) h), fun h => h8 (getD_was (by decide) h), fun h => h9 (getD_was (by decide) h), fun h => ItS.below (h10 (getD_was (by decide) h)) hb⟩
      · have z0 := (HP2.out.below hB).c 0
        have z1 := (HP2.out.below hB).c 1
        have z2 := (HP2.out.below hB).c 2
        have z3 := (HP2.out.below hB).c 3
        have z4 := (HP2.out.below hB).c 4
        have z5 := (HP2.out.below hB).c 5
        have zsh := (HP2.out.below hB).sh
        simp only [List.getElem?_toArray, List.getElem?_cons_zero, List.getElem?_cons_succ] at z0 z1 z2 z3 z4 z5
        refine wpOp_step rfl (fun K hK => ?_)
        go_simp
        exact hK _ _ ⟨_, _, _, _, _, _, _, _, _, _, _, rfl, hB, fun h => h0 (getD_was (by decide) h), fun h => h1 (getD_was (by decide) h), fun h => h2 (getD_was (by decide) h), fun _ => rfl, fun h => h4 (getD_was (by decide) h), fun h => h5 (getD_was (by decide) h), fun h => h6 (getD_was (by decide) h), fun h => h7 (getD_was (by decide) h), fun h => h8 (getD_was (by decide) h), fun h => h9 (getD_was (by decide) h), fun h => h10 (getD_was (by decide) h)⟩
      · have zl := (HN2.out.below hB).lt
        refine wpOp_step rfl (fun K hK => ?_)
        go_simp
        exact hK _ _ ⟨_, _, _, _, _, _, _, _, _, _, _, rfl, hB, fun h => h0 (getD_was (by decide) h), fun h => h1 (getD_was (by decide) h), fun h => h2 (getD_was (by decide) h), fun h => h3 (getD_was (by decide) h), fun _ => rfl, fun h => h5 (getD_was (by decide) h), fun h => h6 (getD_was (by decide) h), fun h => h7 (getD_was (by decide) h), fun h => h8 (getD_was (by decide) h), fun h => h9 (getD_was (by decide) h), fun h => h10 (getD_was (by decide) h)⟩
      · have q4 := h4 (ready_dep hr (by kernel_rfl))
        subst q4
        have z := (HN2.out.below hB).c 2
        simp only [List.getElem?_toArray, List.getElem?_cons_zero, List.getElem?_cons_succ] at z
        refine wpOp_step rfl (fun K hK => ?_)
        go_simp
        exact hK _ _ ⟨_, _, _, _, _, _, _, _, _, _, _, rfl, hB, fun h => h0 (getD_was (by decide) h), fun h => h1 (getD_was (by decide) h), fun h => h2 (getD_was (by decide) h), fun h => h3 (getD_was (by decide) h), fun _ => rfl, fun _ => rfl, fun h => h6 (getD_was (by decide) h), fun h => h7 (getD_was (by decide) h), fun h => h8 (getD_was (by decide) h), fun h => h9 (getD_was (by decide) h), fun h => h10 (getD_was (by decide) h)⟩
      · have q5 := h5 (ready_dep hr (by kernel_rfl))
        subst q5
        refine wpOp_step rfl (fun K hK => ?_)
        go_simp
        refine (str_p _ w').mono ?_
        rintro e w'' ⟨rfl, hb⟩
        exact hK _ _ ⟨_, _, _, _, _, _, _, _, _, _, _, rfl, hB.trans (hb.mono hB.size), fun h => h0 (getD_was (by decide) h), fun h => h1 (getD_was (by decide) h), fun h => h2 (getD_was (by decide) h), fun h => h3 (getD_was (by decide) h), fun h => h4 (getD_was (by decide) h), fun _ => rfl, fun _ => rfl, fun h => h7 (getD_was (by decide) h), fun h => h8 (getD_was (by decide) h), fun h => h9 (getD_was (by decide) h), fun h => ItS.below (h10 (getD_was (by decide) h)) hb⟩
      · have zl := (HN2.out.below hB).lt
        refine wpOp_step rfl (fun K hK => ?_)
        go_simp
        exact hK _ _ ⟨_, _, _, _, _, _, _, _, _, _, _, rfl, hB, fun h => h0 (getD_was (by decide) h), fun h => h1 (getD_was (by decide) h), fun h => h2 (getD_was (by decide) h), fun h => h3 (getD_was (by decide) h), fun h => h4 (getD_was (by decide) h), fun h => h5 (getD_was (by decide) h), fun h => h6 (getD_was (by decide) h), fun _ => rfl, fun h => h8 (getD_was (by decide) h), fun h => h9 (getD_was (by decide) h), fun h => h10 (getD_was (by decide) h)⟩
      · have q7 := h7 (ready_dep hr (by kernel_rfl))
        subst q7
        have z := (HN2.out.below hB).c 4
        simp only [List.getElem?_toArray, List.getElem?_cons_zero, List.getElem?_cons_succ] at z
        refine wpOp_step rfl (fun K hK => ?_)
        go_simp
        exact hK _ _ ⟨_, _, _, _, _, _, _, _, _, _, _, rfl, hB, fun h => h0 (getD_was (by decide) h), fun h => h1 (getD_was (by decide) h), fun h => h2 (getD_was (by decide) h), fun h => h3 (getD_was (by decide) h), fun h => h4 (getD_was (by decide) h), fun h => h5 (getD_was (by decide) h), fun h => h6 (getD_was (by decide) h), fun _ => rfl, fun _ => rfl, fun h => h9 (getD_was (by decide) h), fun h => h10 (getD_was (by decide) h)⟩
      · have q8 := h8 (ready_dep hr (by kernel_rfl))
        subst q8
        refine wpOp_step rfl (fun K hK => ?_)
        go_simp
        refine (str_p _ w').mono ?_
        rintro e w'' ⟨rfl, hb⟩
        exact hK _ _ ⟨_, _, _, _, _, _, _, _, _, _, _, rfl, hB.trans (hb.mono hB.size), fun h => h0 (getD_was (by decide) h), fun h => h1 (getD_was (by decide) h), fun h => h2 (getD_was (by decide) h), fun h => h3 (getD_was (by decide) h), fun h => h4 (getD_was (by decide) h), fun h => h5 (getD_was (by decide) h), fun h => h6 (getD_was (by decide) h), fun h => h7 (getD_was (by decide) h), fun _ => rfl, fun _ => rfl, fun h => ItS.below (h10 (getD_was (by decide) h)) hb⟩
      · have q2 := h2 (ready_dep hr (by kernel_rfl))
        have q3 := h3 (ready_dep hr (by kernel_rfl))
        have q6 := h6 (ready_dep hr (by kernel_rfl))
        have q9 := h9 (ready_dep hr (by kernel_rfl))
        subst q2
        subst q3
        subst q6
        subst q9
        simp only [valAgg, vPage, vStr, Val.kind, Val.flag, Val.num, Val.text]
        refine wpOp_step rfl (fun K hK => ?_)
        go_simp
        have hb := (Below.refl w'.heap.size w').alloc (Nat.le_refl _) (.cells (rowVC [vStr nd.dest, vPage addr, vStr nd.text, vStr nd.title]).toArray 35)
        exact hK _ _ ⟨_, _, _, _, _, _, _, _, _, _, _, rfl, hB.alloc hB.size _, fun h => h0 (getD_was (by decide) h), fun h => h1 (getD_was (by decide) h), fun _ => rfl, fun _ => rfl, fun h => h4 (getD_was (by decide) h), fun h => h5 (getD_was (by decide) h), fun _ => rfl, fun h => h7 (getD_was (by decide) h), fun h => h8 (getD_was (by decide) h), fun _ => rfl, fun _ => ⟨_, rfl, hB.size, CB.new _ _ _⟩⟩
    case last =>
      intro a' w' hI
      obtain ⟨x0, x1, x2, x3, x4, x5, x6, x7, x8, x9, x10, rfl, hB, h0, h1, h2, h3, h4, h5, h6, h7, h8, h9, h10⟩ := hI
      have qL := h10 rfl
      clear h0 h1 h2 h3 h4 h5 h6 h7 h8 h9 h10
      obtain ⟨g1, rfl, hg1, hc1⟩ := qL
      refine wpAny_of_seqA 2 11 rfl (by kernel_rfl) ?_
      simp only [List.drop_succ_cons, List.drop_zero]
      have HB9 := Lib.hid (HBw.out.trans (hB.mono (by have := HBw.out.size; omega)))
      have HR9 := Lib.hid (HR2.out.below hB)
      have HC1 := Lib.hid hc1
      have HG1 := Lib.hid hg1
      clear hc1 hg1
      have HSz9 := Lib.hid (show W2.heap.size ≤ w'.heap.size from hB.size)
      go_wp2_with fail
      refine (table_p (⟨#[100, 101, 115, 116, 32, 112, 97, 103, 101, 32, 116, 101, 120, 116, 32, 116, 105, 116, 108, 101]⟩ : ByteArray) _ _ _ _ rfl w' (HSp.out.keep (show Below w.heap.size w w' from by rw [hn]; exact HB9.out)) [[100, 101, 115, 116], [112, 97, 103, 101], [116, 101, 120, 116], [116, 105, 116, 108, 101]] (by decide) (by decide) (ascii_of (by decide))).mono ?_
      rintro e w9 ⟨g2, rfl, hg2, hc2, hb9⟩
      have HK9 := Lib.hid hc2
      have HGb := Lib.hid (show n + 2 ≤ g2 by have h1 := HQ1.out; have h2 := HQ2.out; have h3 := HSz9.out; omega)
      clear hc2 hg2
      have HI9 := Lib.hid (HC1.out.below hb9)
      have HGa := Lib.hid (show n + 2 ≤ g1 by have h1 := HQ1.out; have h2 := HQ2.out; have h3 := HG1.out; omega)
      have HR8 := Lib.hid (HR9.out.below hb9)
      have HB8 := Lib.hid (show Below w.heap.size w w9 from by rw [hn]; exact HB9.out.trans (hb9.mono (by have := HB9.out.size; omega)))
      clear hb9
      have zc0 := HR8.out.c 0
      have zf0 := HR8.out.f 0
      have zc1 := HR8.out.c 1
      have zf1 := HR8.out.f 1
      have zc2 := HR8.out.c 2
      have zf2 := HR8.out.f 2
      have zc3 := HR8.out.c 3
      have zf3 := HR8.out.f 3
      have zc4 := HR8.out.c 4
      have zf4 := HR8.out.f 4
      have zc5 := HR8.out.c 5
      have zf5 := HR8.out.f 5
      have zsh := HR8.out.sh
      have hnz : n + 1 < w9.heap.size := HR8.out.lt
      simp only [List.getElem?_toArray, List.getElem?_cons_zero, List.getElem?_cons_succ] at zc0 zc1 zc2 zc3 zc4 zc5
      unfold tabV
      have HTab := Lib.hid (tab_in (w := w9) (P := fun b => n + 2 ≤ b) (its := [vStr nd.dest, vPage addr, vStr nd.text, vStr nd.title]) (ks := [[100, 101, 115, 116], [112, 97, 103, 101], [116, 101, 120, 116], [116, 105, 116, 108, 101]]) HI9.out HGa.out (by intro x hx; simp only [List.mem_cons, List.not_mem_nil, or_false] at hx; rcases hx with rfl | rfl | rfl | rfl; exact flat_str HI.out.2.2.2.1; exact flat_page HHa.out; exact flat_str HI.out.2.2.1; exact flat_str HI.out.2.2.2.2) HK9.out HGb.out (Nat.le_of_ble_eq_true rfl) (by decide) (by decide))
      go_wp2_with fail
      have K1 : KeepsIn (fun b => n + 2 ≤ b) w9 (((((((w9).setCell ⟨n + 1, 0, none⟩ (.int .i64 6)).setCell ⟨n + 1, 1, none⟩ (.bool false)).setCell ⟨n + 1, 2, none⟩ (.int .i64 0)).setCell ⟨n + 1, 3, none⟩ (.string ⟨#[]⟩)).setCell ⟨n + 1, 4, none⟩ (.slice (some ⟨g1, 0, none⟩) 4 4)).setCell ⟨n + 1, 5, none⟩ (.slice (some ⟨g2, 0, none⟩) 4 4)) :=
        (((((keepsIn_set (by omega)).trans (keepsIn_set (by omega))).trans (keepsIn_set (by omega))).trans (keepsIn_set (by omega))).trans (keepsIn_set (by omega))).trans (keepsIn_set (by omega))
      exact val_done (n := n + 1) rfl ((((((HR8.out.put 0 _).put 1 _).put 2 _).put 3 _).put 4 _).put 5 _) rfl rfl rfl
        ⟨some ⟨g1, 0, none⟩, 4, 4, some ⟨g2, 0, none⟩, 4, 4, rfl, HTab.out.keep K1 (fun b _ hb => by omega),
          (((((HB8.out.setB (by omega) 0 _).setB (by omega) 1 _).setB (by omega) 2 _).setB (by omega) 3 _).setB (by omega) 4 _).setB (by omega) 5 _⟩
  · have hV : fieldsV nd addr id inner z = tabL [vStr id, vSafe inner, vNum nd.level, vPage addr, vStr z] [[105, 100], [105, 110, 110, 101, 114], [108, 101, 118, 101, 108], [112, 97, 103, 101], [116, 101, 120, 116]] := by unfold fieldsV; rw [if_neg (by omega), if_neg (by omega), if_pos hx]
    rw [hV]
    clear hV
    have t17 : (nd.kind == 17) = false := by simp; omega
    have t18 : (nd.kind == 18) = false := by simp; omega
    have t1 : (nd.kind == 1) = true := by simp; omega
    have t3 : (nd.kind == 3) = false := by simp; omega
    clear hx
    go_enter Tryd.func8, Tryd.ntmps8
    go_wp2_with (go_at_call 17; go_must (refine (pageFact_p _ _ HHa.out).mono ?_); rintro e w1 ⟨rfl, hb1⟩; have HN1 := Lib.hid (HN0.out.below hb1); have HR1 := Lib.hid (HR0.out.below hb1); have HBb := Lib.hid hb1; clear hb1; have hnl := HN1.out.lt; have nc0 := HN1.out.c 0; have nc1 := HN1.out.c 1; have nc2 := HN1.out.c 2; have nc3 := HN1.out.c 3; have nc4 := HN1.out.c 4; have nc5 := HN1.out.c 5; simp only [List.getElem?_toArray, List.getElem?_cons_zero, List.getElem?_cons_succ] at nc0 nc1 nc2 nc3 nc4 nc5; simp only [valAgg, vPage, Val.kind, Val.flag, Val.num, Val.text])
    obtain ⟨W1, hW1⟩ : ∃ W1, (w1.alloc (.cells #[.int .i64 8, .bool false, .int .i64 0, .string ((⟨#[112, 97, 103, 101, 58]⟩ : ByteArray) ++ addr), .slice none 0 0, .slice none 0 0] 35)).alloc (.cells #[.int .i64 2, .bool false, .int .i64 nd.level, .string ⟨#[]⟩, .slice none 0 0, .slice none 0 0] 35) = W1 := ⟨_, rfl⟩
    have HB1 := Lib.hid (show Below w1.heap.size w1 W1 by rw [← hW1]; exact ((Below.refl w1.heap.size w1).alloc (Nat.le_refl _) _).alloc (by rw [World.size_alloc]; omega) _)
    have HP1 := Lib.hid (show CB W1 w1.heap.size 35 #[.int .i64 8, .bool false, .int .i64 0, .string ((⟨#[112, 97, 103, 101, 58]⟩ : ByteArray) ++ addr), .slice none 0 0, .slice none 0 0] by rw [← hW1]; exact (CB.new _ _ _).alloc _)
    have HL1 := Lib.hid (show CB W1 (w1.heap.size + 1) 35 #[.int .i64 2, .bool false, .int .i64 nd.level, .string ⟨#[]⟩, .slice none 0 0, .slice none 0 0] by rw [← hW1]; have h := CB.new (w1.alloc (.cells #[.int .i64 8, .bool false, .int .i64 0, .string ((⟨#[112, 97, 103, 101, 58]⟩ : ByteArray) ++ addr), .slice none 0 0, .slice none 0 0] 35)) #[.int .i64 2, .bool false, .int .i64 nd.level, .string ⟨#[]⟩, .slice none 0 0, .slice none 0 0] 35; rw [World.size_alloc] at h; exact h)
    rw [hW1]
    clear hW1
    refine wp_region_any (by kernel_rfl) ?_
    change wpAny _ _ _ _ _ _ _ W1.drew
    obtain ⟨W2, hW2⟩ : ∃ W2, W1.drew = W2 := ⟨_, rfl⟩
    have HB2 := Lib.hid (show Below W1.heap.size W1 W2 by rw [← hW2]; exact (Below.refl _ _).drew)
    rw [hW2]
    clear hW2
    have HP2 := Lib.hid (HP1.out.below HB2.out)
    have HL2 := Lib.hid (HL1.out.below HB2.out)
    have HN2 := Lib.hid ((HN1.out.below HB1.out).below HB2.out)
    have HR2 := Lib.hid ((HR1.out.below HB1.out).below HB2.out)
    have HBw := Lib.hid (show Below n w W2 from by
      have h1 := HB0.out
      have h2 := HBb.out
      have h3 := HS0.out
      have h4 := h2.size
      have h5 := HB1.out.size
      exact ((h1.trans (h2.mono (by omega))).trans (HB1.out.mono (by omega))).trans (HB2.out.mono (by omega)))
    obtain ⟨q1, hq1⟩ : ∃ q1, w1.heap.size = q1 := ⟨_, rfl⟩
    have HQ1 := Lib.hid (show n + 2 ≤ q1 by have h2 := HBb.out.size; rw [HS0.out] at h2; omega)
    have HQ2 := Lib.hid (show q1 ≤ W2.heap.size by have h2 := HB1.out.size; have h3 := HB2.out.size; omega)
    rw [hq1] at HP2 HL2
    rw [hq1]
    clear hq1
    have HLine := Lib.hid (fun (w' : World) (h : Below W2.heap.size W2 w') => line_z (w := w') (HKids.out.keep (Keeps.of_below (show Below w.heap.size w w' from by rw [hn]; exact HBw.out.trans (h.mono (by have := HBw.out.size; omega))))) hw HZ.out)
    refine wpAny_inv [0, 1, 2, 3, 4, 5, 6, 7, 8, 9, 10] (IFldP1 (fun v47 v48 v49 v50 v51 v52 v53 v54 v55 v56 v57 => ⟨#[Value.agg #[Value.int IntKind.i64 nd.kind, Value.int IntKind.i64 nd.level, Value.string nd.text, Value.string nd.dest, Value.string nd.title, Value.slice Ak nd.kids.length ck], Value.string addr, Value.string id, Value.string inner, Value.pointer (some { block := n, off := 0 }), undef, undef, undef, Value.pointer (some { block := n + 1, off := 0 }), Value.pointer (some { block := q1, off := 0 }), Value.pointer (some { block := q1 + 1, off := 0 }), Value.string addr, Value.agg #[Value.int IntKind.i64 8, Value.bool false, Value.int IntKind.i64 0, Value.string ({ data := #[112, 97, 103, 101, 58] } ++ addr), Value.slice none 0 0, Value.slice none 0 0], Value.pointer (some { block := n, off := 0 }), Value.int IntKind.i64 nd.kind, Value.bool false, Value.bool false, undef, undef, undef, undef, undef, undef, undef, undef, undef, undef, undef, Value.bool false, Value.bool false, undef, undef, undef, undef, undef, undef, undef, undef, undef, undef, undef, undef, Value.bool true, Value.bool true, Value.pointer (some { block := n, off := 1 }), Value.int IntKind.i64 nd.level, Value.agg #[Value.int IntKind.i64 2, Value.bool false, Value.int IntKind.i64 nd.level, Value.string { data := #[] }, Value.slice none 0 0, Value.slice none 0 0], v47, v48, v49, v50, v51, v52, v53, v54, v55, v56, v57, undef, undef, undef, undef, undef, undef, undef, undef, undef, undef, undef, undef, undef, undef, undef], []⟩) n nd addr id inner z Ak ck W2) #[true, true, true, true, true, true, true, true, true, true, true, false, false] (g := 2) (by kernel_rfl) (by kernel_rfl) (by kernel_rfl) (IFldP1.start undef undef undef undef undef undef undef undef undef undef undef rfl) ?step ?last
    case step =>
      intro i hi L a' w' hs hr hI
      obtain ⟨x0, x1, x2, x3, x4, x5, x6, x7, x8, x9, x10, rfl, hB, h0, h1, h2, h3, h4, h5, h6, h7, h8, h9, h10⟩ := hI
      simp only [List.mem_cons, List.not_mem_nil, or_false] at hi
      rcases hi with rfl | rfl | rfl | rfl | rfl | rfl | rfl | rfl | rfl | rfl | rfl
      · refine wpOp_step rfl (fun K hK => ?_)
        go_simp
        exact hK _ _ ⟨_, _, _, _, _, _, _, _, _, _, _, rfl, hB, fun _ => rfl, fun h => h1 (getD_was (by decide) h), fun h => h2 (getD_was (by decide) h), fun h => h3 (getD_was (by decide) h), fun h => h4 (getD_was (by decide) h), fun h => h5 (getD_was (by decide) h), fun h => h6 (getD_was (by decide) h), fun h => h7 (getD_was (by decide) h), fun h => h8 (getD_was (by decide) h), fun h => h9 (getD_was (by decide) h), fun h => h10 (getD_was (by decide) h)⟩
      · have q0 := h0 (ready_dep hr (by kernel_rfl))
        subst q0
        refine wpOp_step rfl (fun K hK => ?_)
        go_simp
        refine (str_p _ w').mono ?_
        rintro e w'' ⟨rfl, hb⟩
        exact hK _ _ ⟨_, _, _, _, _, _, _, _, _, _, _, rfl, hB.trans (hb.mono hB.size), fun _ => rfl, fun _ => rfl, fun h => h2 (getD_was (by decide) h), fun h => h3 (getD_was (by decide) h), fun h => h4 (getD_was (by decide) h), fun h => h5 (getD_was (by decide) h), fun h => h6 (getD_was (by decide) h), fun h => h7 (getD_was (by decide) h), fun h => h8 (getD_was (by decide) h), fun h => h9 (getD_was (by decide) h), fun h => ItS.below (h10 (getD_was (by decide) h)) hb⟩
      · refine wpOp_step rfl (fun K hK => ?_)
        go_simp
        exact hK _ _ ⟨_, _, _, _, _, _, _, _, _, _, _, rfl, hB, fun h => h0 (getD_was (by decide) h), fun h => h1 (getD_was (by decide) h), fun _ => rfl, fun h => h3 (getD_was (by decide) h), fun h => h4 (getD_was (by decide) h), fun h => h5 (getD_was (by decide) h), fun h => h6 (getD_was (by decide) h), fun h => h7 (getD_was (by decide) h), fun h => h8 (getD_was (by decide) h), fun h => h9 (getD_was (by decide) h), fun h => h10 (getD_was (by decide) h)⟩
      · have q2 := h2 (ready_dep hr (by kernel_rfl))
        subst q2
        refine wpOp_step rfl (fun K hK => ?_)
        go_simp
        refine (safe_p _ w').mono ?_
        rintro e w'' ⟨rfl, hb⟩
        exact hK _ _ ⟨_, _, _, _, _, _, _, _, _, _, _, rfl, hB.trans (hb.mono hB.size), fun h => h0 (getD_was (by decide) h), fun h => h1 (getD_was (by decide) h), fun _ => rfl, fun _ => rfl, fun h => h4 (getD_was (by decide) h), fun h => h5 (getD_was (by decide) h), fun h => h6 (getD_was (by decide) h), fun h => h7 (getD_was (by decide) h), fun h => h8 (getD_was (by decide) h), fun h => h9 (getD_was (by decide) h), fun h => ItS.below (h10 (getD_was (by decide) h)) hb⟩
      · have z0 := (HL2.out.below hB).c 0
        have z1 := (HL2.out.below hB).c 1
        have z2 := (HL2.out.below hB).c 2
        have z3 := (HL2.out.below hB).c 3
        have z4 := (HL2.out.below hB).c 4
        have z5 := (HL2.out.below hB).c 5
        have zsh := (HL2.out.below hB).sh
        simp only [List.getElem?_toArray, List.getElem?_cons_zero, List.getElem?_cons_succ] at z0 z1 z2 z3 z4 z5
        refine wpOp_step rfl (fun K hK => ?_)
        go_simp
        exact hK _ _ ⟨_, _, _, _, _, _, _, _, _, _, _, rfl, hB, fun h => h0 (getD_was (by decide) h), fun h => h1 (getD_was (by decide) h), fun h => h2 (getD_was (by decide) h), fun h => h3 (getD_was (by decide) h), fun _ => rfl, fun h => h5 (getD_was (by decide) h), fun h => h6 (getD_was (by decide) h), fun h => h7 (getD_was (by decide) h), fun h => h8 (getD_was (by decide) h), fun h => h9 (getD_was (by decide) h), fun h => h10 (getD_was (by decide) h)⟩
      · have z0 := (HP2.out.below hB).c 0
        have z1 := (HP2.out.below hB).c 1
        have z2 := (HP2.out.below hB).c 2
        have z3 := (HP2.out.below hB).c 3
        have z4 := (HP2.out.below hB).c 4
        have z5 := (HP2.out.below hB).c 5
        have zsh := (HP2.out.below hB).sh
        simp only [List.getElem?_toArray, List.getElem?_cons_zero, List.getElem?_cons_succ] at z0 z1 z2 z3 z4 z5
        refine wpOp_step rfl (fun K hK => ?_)
        go_simp
        exact hK _ _ ⟨_, _, _, _, _, _, _, _, _, _, _, rfl, hB, fun h => h0 (getD_was (by decide) h), fun h => h1 (getD_was (by decide) h), fun h => h2 (getD_was (by decide) h), fun h => h3 (getD_was (by decide) h), fun h => h4 (getD_was (by decide) h), fun _ => rfl, fun h => h6 (getD_was (by decide) h), fun h => h7 (getD_was (by decide) h), fun h => h8 (getD_was (by decide) h), fun h => h9 (getD_was (by decide) h), fun h => h10 (getD_was (by decide) h)⟩
      · have zl := (HN2.out.below hB).lt
        refine wpOp_step rfl (fun K hK => ?_)
        go_simp
        exact hK _ _ ⟨_, _, _, _, _, _, _, _, _, _, _, rfl, hB, fun h => h0 (getD_was (by decide) h), fun h => h1 (getD_was (by decide) h), fun h => h2 (getD_was (by decide) h), fun h => h3 (getD_was (by decide) h), fun h => h4 (getD_was (by decide) h), fun h => h5 (getD_was (by decide) h), fun _ => rfl, fun h => h7 (getD_was (by decide) h), fun h => h8 (getD_was (by decide) h), fun h => h9 (getD_was (by decide) h), fun h => h10 (getD_was (by decide) h)⟩
      · have q6 := h6 (ready_dep hr (by kernel_rfl))
        subst q6
        have z := (HN2.out.below hB).c 5
        simp only [List.getElem?_toArray, List.getElem?_cons_zero, List.getElem?_cons_succ] at z
        refine wpOp_step rfl (fun K hK => ?_)
        go_simp
        exact hK _ _ ⟨_, _, _, _, _, _, _, _, _, _, _, rfl, hB, fun h => h0 (getD_was (by decide) h), fun h => h1 (getD_was (by decide) h), fun h => h2 (getD_was (by decide) h), fun h => h3 (getD_was (by decide) h), fun h => h4 (getD_was (by decide) h), fun h => h5 (getD_was (by decide) h), fun _ => rfl, fun _ => rfl, fun h => h8 (getD_was (by decide) h), fun h => h9 (getD_was (by decide) h), fun h => h10 (getD_was (by decide) h)⟩
      · have q7 := h7 (ready_dep hr (by kernel_rfl))
        subst q7
        refine wpOp_step rfl (fun K hK => ?_)
        go_simp
        refine ((HLine.out w' hB)).mono ?_
        rintro e w'' ⟨rfl, hb⟩
        exact hK _ _ ⟨_, _, _, _, _, _, _, _, _, _, _, rfl, hB.trans (hb.mono hB.size), fun h => h0 (getD_was (by decide) h), fun h => h1 (getD_was (by decide) h), fun h => h2 (getD_was (by decide) h), fun h => h3 (getD_was (by decide) h), fun h => h4 (getD_was (by decide) h), fun h => h5 (getD_was (by decide) h), fun h => h6 (getD_was (by decide) h), fun _ => rfl, fun _ => rfl, fun h => h9 (getD_was (by decide) h), fun h => ItS.below (h10 (getD_was (by decide) h)) hb⟩
      · have q8 := h8 (ready_dep hr (by kernel_rfl))
        subst q8
        refine wpOp_step rfl (fun K hK => ?_)
        go_simp
        refine (str_p _ w').mono ?_
        rintro e w'' ⟨rfl, hb⟩
        exact hK _ _ ⟨_, _, _, _, _, _, _, _, _, _, _, rfl, hB.trans (hb.mono hB.size), fun h => h0 (getD_was (by decide) h), fun h => h1 (getD_was (by decide) h), fun h => h2 (getD_was (by decide) h), fun h => h3 (getD_was (by decide) h), fun h => h4 (getD_was (by decide) h), fun h => h5 (getD_was (by decide) h), fun h => h6 (getD_was (by decide) h), fun h => h7 (getD_was (by decide) h), fun _ => rfl, fun _ => rfl, fun h => ItS.below (h10 (getD_was (by decide) h)) hb⟩
      · have q1 := h1 (ready_dep hr (by kernel_rfl))
        have q3 := h3 (ready_dep hr (by kernel_rfl))
        have q4 := h4 (ready_dep hr (by kernel_rfl))
        have q5 := h5 (ready_dep hr (by kernel_rfl))
        have q9 := h9 (ready_dep hr (by kernel_rfl))
        subst q1
        subst q3
        subst q4
        subst q5
        subst q9
        simp only [valAgg, vNum, vPage, vSafe, vStr, Val.kind, Val.flag, Val.num, Val.text]
        refine wpOp_step rfl (fun K hK => ?_)
        go_simp
        have hb := (Below.refl w'.heap.size w').alloc (Nat.le_refl _) (.cells (rowVC [vStr id, vSafe inner, vNum nd.level, vPage addr, vStr z]).toArray 35)
        exact hK _ _ ⟨_, _, _, _, _, _, _, _, _, _, _, rfl, hB.alloc hB.size _, fun h => h0 (getD_was (by decide) h), fun _ => rfl, fun h => h2 (getD_was (by decide) h), fun _ => rfl, fun _ => rfl, fun _ => rfl, fun h => h6 (getD_was (by decide) h), fun h => h7 (getD_was (by decide) h), fun h => h8 (getD_was (by decide) h), fun _ => rfl, fun _ => ⟨_, rfl, hB.size, CB.new _ _ _⟩⟩
    case last =>
      intro a' w' hI
      obtain ⟨x0, x1, x2, x3, x4, x5, x6, x7, x8, x9, x10, rfl, hB, h0, h1, h2, h3, h4, h5, h6, h7, h8, h9, h10⟩ := hI
      have qL := h10 rfl
      clear h0 h1 h2 h3 h4 h5 h6 h7 h8 h9 h10
      obtain ⟨g1, rfl, hg1, hc1⟩ := qL
      refine wpAny_of_seqA 2 11 rfl (by kernel_rfl) ?_
      simp only [List.drop_succ_cons, List.drop_zero]
      have HB9 := Lib.hid (HBw.out.trans (hB.mono (by have := HBw.out.size; omega)))
      have HR9 := Lib.hid (HR2.out.below hB)
      have HC1 := Lib.hid hc1
      have HG1 := Lib.hid hg1
      clear hc1 hg1
      have HSz9 := Lib.hid (show W2.heap.size ≤ w'.heap.size from hB.size)
      go_wp2_with fail
      refine (table_p (⟨#[105, 100, 32, 105, 110, 110, 101, 114, 32, 108, 101, 118, 101, 108, 32, 112, 97, 103, 101, 32, 116, 101, 120, 116]⟩ : ByteArray) _ _ _ _ rfl w' (HSp.out.keep (show Below w.heap.size w w' from by rw [hn]; exact HB9.out)) [[105, 100], [105, 110, 110, 101, 114], [108, 101, 118, 101, 108], [112, 97, 103, 101], [116, 101, 120, 116]] (by decide) (by decide) (ascii_of (by decide))).mono ?_
      rintro e w9 ⟨g2, rfl, hg2, hc2, hb9⟩
      have HK9 := Lib.hid hc2
      have HGb := Lib.hid (show n + 2 ≤ g2 by have h1 := HQ1.out; have h2 := HQ2.out; have h3 := HSz9.out; omega)
      clear hc2 hg2
      have HI9 := Lib.hid (HC1.out.below hb9)
      have HGa := Lib.hid (show n + 2 ≤ g1 by have h1 := HQ1.out; have h2 := HQ2.out; have h3 := HG1.out; omega)
      have HR8 := Lib.hid (HR9.out.below hb9)
      have HB8 := Lib.hid (show Below w.heap.size w w9 from by rw [hn]; exact HB9.out.trans (hb9.mono (by have := HB9.out.size; omega)))
      clear hb9
      have zc0 := HR8.out.c 0
      have zf0 := HR8.out.f 0
      have zc1 := HR8.out.c 1
      have zf1 := HR8.out.f 1
      have zc2 := HR8.out.c 2
      have zf2 := HR8.out.f 2
      have zc3 := HR8.out.c 3
      have zf3 := HR8.out.f 3
      have zc4 := HR8.out.c 4
      have zf4 := HR8.out.f 4
      have zc5 := HR8.out.c 5
      have zf5 := HR8.out.f 5
      have zsh := HR8.out.sh
      have hnz : n + 1 < w9.heap.size := HR8.out.lt
      simp only [List.getElem?_toArray, List.getElem?_cons_zero, List.getElem?_cons_succ] at zc0 zc1 zc2 zc3 zc4 zc5
      unfold tabV
      have HTab := Lib.hid (tab_in (w := w9) (P := fun b => n + 2 ≤ b) (its := [vStr id, vSafe inner, vNum nd.level, vPage addr, vStr z]) (ks := [[105, 100], [105, 110, 110, 101, 114], [108, 101, 118, 101, 108], [112, 97, 103, 101], [116, 101, 120, 116]]) HI9.out HGa.out (by intro x hx; simp only [List.mem_cons, List.not_mem_nil, or_false] at hx; rcases hx with rfl | rfl | rfl | rfl | rfl; exact flat_str HId.out; exact flat_safe HIn.out; exact flat_num HI.out.2.1; exact flat_page HHa.out; exact flat_str HZs.out) HK9.out HGb.out (Nat.le_of_ble_eq_true rfl) (by decide) (by decide))
      go_wp2_with fail
      have K1 : KeepsIn (fun b => n + 2 ≤ b) w9 (((((((w9).setCell ⟨n + 1, 0, none⟩ (.int .i64 6)).setCell ⟨n + 1, 1, none⟩ (.bool false)).setCell ⟨n + 1, 2, none⟩ (.int .i64 0)).setCell ⟨n + 1, 3, none⟩ (.string ⟨#[]⟩)).setCell ⟨n + 1, 4, none⟩ (.slice (some ⟨g1, 0, none⟩) 5 5)).setCell ⟨n + 1, 5, none⟩ (.slice (some ⟨g2, 0, none⟩) 5 5)) :=
        (((((keepsIn_set (by omega)).trans (keepsIn_set (by omega))).trans (keepsIn_set (by omega))).trans (keepsIn_set (by omega))).trans (keepsIn_set (by omega))).trans (keepsIn_set (by omega))
      exact val_done (n := n + 1) rfl ((((((HR8.out.put 0 _).put 1 _).put 2 _).put 3 _).put 4 _).put 5 _) rfl rfl rfl
        ⟨some ⟨g1, 0, none⟩, 5, 5, some ⟨g2, 0, none⟩, 5, 5, rfl, HTab.out.keep K1 (fun b _ hb => by omega),
          (((((HB8.out.setB (by omega) 0 _).setB (by omega) 1 _).setB (by omega) 2 _).setB (by omega) 3 _).setB (by omega) 4 _).setB (by omega) 5 _⟩
  · have hV : fieldsV nd addr id inner z = tabL [vStr nd.dest, vPage addr, vStr nd.text] [[105, 110, 102, 111], [112, 97, 103, 101], [116, 101, 120, 116]] := by unfold fieldsV; rw [if_neg (by omega), if_neg (by omega), if_neg (by omega), if_pos hx]
    rw [hV]
    clear hV
    have t17 : (nd.kind == 17) = false := by simp; omega
    have t18 : (nd.kind == 18) = false := by simp; omega
    have t1 : (nd.kind == 1) = false := by simp; omega
    have t3 : (nd.kind == 3) = true := by simp; omega
    clear hx
    go_enter Tryd.func8, Tryd.ntmps8
    go_wp2_with (go_at_call 17; go_must (refine (pageFact_p _ _ HHa.out).mono ?_); rintro e w1 ⟨rfl, hb1⟩; have HN1 := Lib.hid (HN0.out.below hb1); have HR1 := Lib.hid (HR0.out.below hb1); have HBb := Lib.hid hb1; clear hb1; have hnl := HN1.out.lt; have nc0 := HN1.out.c 0; have nc1 := HN1.out.c 1; have nc2 := HN1.out.c 2; have nc3 := HN1.out.c 3; have nc4 := HN1.out.c 4; have nc5 := HN1.out.c 5; simp only [List.getElem?_toArray, List.getElem?_cons_zero, List.getElem?_cons_succ] at nc0 nc1 nc2 nc3 nc4 nc5; simp only [valAgg, vPage, Val.kind, Val.flag, Val.num, Val.text])
    obtain ⟨W1, hW1⟩ : ∃ W1, w1.alloc (.cells #[.int .i64 8, .bool false, .int .i64 0, .string ((⟨#[112, 97, 103, 101, 58]⟩ : ByteArray) ++ addr), .slice none 0 0, .slice none 0 0] 35) = W1 := ⟨_, rfl⟩
    have HB1 := Lib.hid (show Below w1.heap.size w1 W1 by rw [← hW1]; exact (Below.refl w1.heap.size w1).alloc (Nat.le_refl _) _)
    have HP1 := Lib.hid (show CB W1 w1.heap.size 35 #[.int .i64 8, .bool false, .int .i64 0, .string ((⟨#[112, 97, 103, 101, 58]⟩ : ByteArray) ++ addr), .slice none 0 0, .slice none 0 0] by rw [← hW1]; exact CB.new _ _ _)
    rw [hW1]
    clear hW1
    refine wp_region_any (by kernel_rfl) ?_
    change wpAny _ _ _ _ _ _ _ W1.drew
    obtain ⟨W2, hW2⟩ : ∃ W2, W1.drew = W2 := ⟨_, rfl⟩
    have HB2 := Lib.hid (show Below W1.heap.size W1 W2 by rw [← hW2]; exact (Below.refl _ _).drew)
    rw [hW2]
    clear hW2
    have HP2 := Lib.hid (HP1.out.below HB2.out)
    have HN2 := Lib.hid ((HN1.out.below HB1.out).below HB2.out)
    have HR2 := Lib.hid ((HR1.out.below HB1.out).below HB2.out)
    have HBw := Lib.hid (show Below n w W2 from by
      have h1 := HB0.out
      have h2 := HBb.out
      have h3 := HS0.out
      have h4 := h2.size
      have h5 := HB1.out.size
      exact ((h1.trans (h2.mono (by omega))).trans (HB1.out.mono (by omega))).trans (HB2.out.mono (by omega)))
    obtain ⟨q1, hq1⟩ : ∃ q1, w1.heap.size = q1 := ⟨_, rfl⟩
    have HQ1 := Lib.hid (show n + 2 ≤ q1 by have h2 := HBb.out.size; rw [HS0.out] at h2; omega)
    have HQ2 := Lib.hid (show q1 ≤ W2.heap.size by have h2 := HB1.out.size; have h3 := HB2.out.size; omega)
    rw [hq1] at HP2
    rw [hq1]
    clear hq1
    refine wpAny_inv [0, 1, 2, 3, 4, 5, 6, 7] (IFldP3 (fun v61 v62 v63 v64 v65 v66 v67 v68 => ⟨#[Value.agg #[Value.int IntKind.i64 nd.kind, Value.int IntKind.i64 nd.level, Value.string nd.text, Value.string nd.dest, Value.string nd.title, Value.slice Ak nd.kids.length ck], Value.string addr, Value.string id, Value.string inner, Value.pointer (some { block := n, off := 0 }), undef, undef, undef, Value.pointer (some { block := n + 1, off := 0 }), Value.pointer (some { block := q1, off := 0 }), undef, Value.string addr, Value.agg #[Value.int IntKind.i64 8, Value.bool false, Value.int IntKind.i64 0, Value.string ({ data := #[112, 97, 103, 101, 58] } ++ addr), Value.slice none 0 0, Value.slice none 0 0], Value.pointer (some { block := n, off := 0 }), Value.int IntKind.i64 nd.kind, Value.bool false, Value.bool false, undef, undef, undef, undef, undef, undef, undef, undef, undef, undef, undef, Value.bool false, Value.bool false, undef, undef, undef, undef, undef, undef, undef, undef, undef, undef, undef, undef, Value.bool false, Value.bool false, undef, undef, undef, undef, undef, undef, undef, undef, undef, undef, undef, undef, undef, undef, undef, Value.bool true, Value.bool true, v61, v62, v63, v64, v65, v66, v67, v68, undef, undef, undef, undef], []⟩) n nd addr W2) #[true, true, true, true, true, true, true, true, false, false] (g := 2) (by kernel_rfl) (by kernel_rfl) (by kernel_rfl) (IFldP3.start undef undef undef undef undef undef undef undef rfl) ?step ?last
    case step =>
      intro i hi L a' w' hs hr hI
      obtain ⟨x0, x1, x2, x3, x4, x5, x6, x7, rfl, hB, h0, h1, h2, h3, h4, h5, h6, h7⟩ := hI
      simp only [List.mem_cons, List.not_mem_nil, or_false] at hi
      rcases hi with rfl | rfl | rfl | rfl | rfl | rfl | rfl | rfl
      · have zl := (HN2.out.below hB).lt
        refine wpOp_step rfl (fun K hK => ?_)
        go_simp
        exact hK _ _ ⟨_, _, _, _, _, _, _, _, rfl, hB, fun _ => rfl, fun h => h1 (getD_was (by decide) h), fun h => h2 (getD_was (by decide) h), fun h => h3 (getD_was (by decide) h), fun h => h4 (getD_was (by decide) h), fun h => h5 (getD_was (by decide) h), fun h => h6 (getD_was (by decide) h), fun h => h7 (getD_was (by decide) h)⟩
      · have q0 := h0 (ready_dep hr (by kernel_rfl))
        subst q0
        have z := (HN2.out.below hB).c 3
        simp only [List.getElem?_toArray, List.getElem?_cons_zero, List.getElem?_cons_succ] at z
        refine wpOp_step rfl (fun K hK => ?_)
        go_simp
        exact hK _ _ ⟨_, _, _, _, _, _, _, _, rfl, hB, fun _ => rfl, fun _ => rfl, fun h => h2 (getD_was (by decide) h), fun h => h3 (getD_was (by decide) h), fun h => h4 (getD_was (by decide) h), fun h => h5 (getD_was (by decide) h), fun h => h6 (getD_was (by decide) h), fun h => h7 (getD_was (by decide) h)⟩
      · have q1 := h1 (ready_dep hr (by kernel_rfl))
        subst q1
        refine wpOp_step rfl (fun K hK => ?_)
        go_simp
        refine (str_p _ w').mono ?_
        rintro e w'' ⟨rfl, hb⟩
        exact hK _ _ ⟨_, _, _, _, _, _, _, _, rfl, hB.trans (hb.mono hB.size), fun h => h0 (getD_was (by decide) h), fun _ => rfl, fun _ => rfl, fun h => h3 (getD_was (by decide) h), fun h => h4 (getD_was (by decide) h), fun h => h5 (getD_was (by decide) h), fun h => h6 (getD_was (by decide) h), fun h => ItS.below (h7 (getD_was (by decide) h)) hb⟩
      · have z0 := (HP2.out.below hB).c 0
        have z1 := (HP2.out.below hB).c 1
        have z2 := (HP2.out.below hB).c 2
        have z3 := (HP2.out.below hB).c 3
        have z4 := (HP2.out.below hB).c 4
        have z5 := (HP2.out.below hB).c 5
        have zsh := (HP2.out.below hB).sh
        simp only [List.getElem?_toArray, List.getElem?_cons_zero, List.getElem?_cons_succ] at z0 z1 z2 z3 z4 z5
        refine wpOp_step rfl (fun K hK => ?_)
        go_simp
        exact hK _ _ ⟨_, _, _, _, _, _, _, _, rfl, hB, fun h => h0 (getD_was (by decide) h), fun h => h1 (getD_was (by decide) h), fun h => h2 (getD_was (by decide) h), fun _ => rfl, fun h => h4 (getD_was (by decide) h), fun h => h5 (getD_was (by decide) h), fun h => h6 (getD_was (by decide) h), fun h => h7 (getD_was (by decide) h)⟩
      · have zl := (HN2.out.below hB).lt
        refine wpOp_step rfl (fun K hK => ?_)
        go_simp
        exact hK _ _ ⟨_, _, _, _, _, _, _, _, rfl, hB, fun h => h0 (getD_was (by decide) h), fun h => h1 (getD_was (by decide) h), fun h => h2 (getD_was (by decide) h), fun h => h3 (getD_was (by decide) h), fun _ => rfl, fun h => h5 (getD_was (by decide) h), fun h => h6 (getD_was (by decide) h), fun h => h7 (getD_was (by decide) h)⟩
      · have q4 := h4 (ready_dep hr (by kernel_rfl))
        subst q4
        have z := (HN2.out.below hB).c 2
        simp only [List.getElem?_toArray, List.getElem?_cons_zero, List.getElem?_cons_succ] at z
        refine wpOp_step rfl (fun K hK => ?_)
        go_simp
        exact hK _ _ ⟨_, _, _, _, _, _, _, _, rfl, hB, fun h => h0 (getD_was (by decide) h), fun h => h1 (getD_was (by decide) h), fun h => h2 (getD_was (by decide) h), fun h => h3 (getD_was (by decide) h), fun _ => rfl, fun _ => rfl, fun h => h6 (getD_was (by decide) h), fun h => h7 (getD_was (by decide) h)⟩
      · have q5 := h5 (ready_dep hr (by kernel_rfl))
        subst q5
        refine wpOp_step rfl (fun K hK => ?_)
        go_simp
        refine (str_p _ w').mono ?_
        rintro e w'' ⟨rfl, hb⟩
        exact hK _ _ ⟨_, _, _, _, _, _, _, _, rfl, hB.trans (hb.mono hB.size), fun h => h0 (getD_was (by decide) h), fun h => h1 (getD_was (by decide) h), fun h => h2 (getD_was (by decide) h), fun h => h3 (getD_was (by decide) h), fun h => h4 (getD_was (by decide) h), fun _ => rfl, fun _ => rfl, fun h => ItS.below (h7 (getD_was (by decide) h)) hb⟩
      · have q2 := h2 (ready_dep hr (by kernel_rfl))
        have q3 := h3 (ready_dep hr (by kernel_rfl))
        have q6 := h6 (ready_dep hr (by kernel_rfl))
        subst q2
        subst q3
        subst q6
        simp only [valAgg, vPage, vStr, Val.kind, Val.flag, Val.num, Val.text]
        refine wpOp_step rfl (fun K hK => ?_)
        go_simp
        have hb := (Below.refl w'.heap.size w').alloc (Nat.le_refl _) (.cells (rowVC [vStr nd.dest, vPage addr, vStr nd.text]).toArray 35)
        exact hK _ _ ⟨_, _, _, _, _, _, _, _, rfl, hB.alloc hB.size _, fun h => h0 (getD_was (by decide) h), fun h => h1 (getD_was (by decide) h), fun _ => rfl, fun _ => rfl, fun h => h4 (getD_was (by decide) h), fun h => h5 (getD_was (by decide) h), fun _ => rfl, fun _ => ⟨_, rfl, hB.size, CB.new _ _ _⟩⟩
    case last =>
      intro a' w' hI
      obtain ⟨x0, x1, x2, x3, x4, x5, x6, x7, rfl, hB, h0, h1, h2, h3, h4, h5, h6, h7⟩ := hI
      have qL := h7 rfl
      clear h0 h1 h2 h3 h4 h5 h6 h7
      obtain ⟨g1, rfl, hg1, hc1⟩ := qL
      refine wpAny_of_seqA 2 8 rfl (by kernel_rfl) ?_
      simp only [List.drop_succ_cons, List.drop_zero]
      have HB9 := Lib.hid (HBw.out.trans (hB.mono (by have := HBw.out.size; omega)))
      have HR9 := Lib.hid (HR2.out.below hB)
      have HC1 := Lib.hid hc1
      have HG1 := Lib.hid hg1
      clear hc1 hg1
      have HSz9 := Lib.hid (show W2.heap.size ≤ w'.heap.size from hB.size)
      go_wp2_with fail
      refine (table_p (⟨#[105, 110, 102, 111, 32, 112, 97, 103, 101, 32, 116, 101, 120, 116]⟩ : ByteArray) _ _ _ _ rfl w' (HSp.out.keep (show Below w.heap.size w w' from by rw [hn]; exact HB9.out)) [[105, 110, 102, 111], [112, 97, 103, 101], [116, 101, 120, 116]] (by decide) (by decide) (ascii_of (by decide))).mono ?_
      rintro e w9 ⟨g2, rfl, hg2, hc2, hb9⟩
      have HK9 := Lib.hid hc2
      have HGb := Lib.hid (show n + 2 ≤ g2 by have h1 := HQ1.out; have h2 := HQ2.out; have h3 := HSz9.out; omega)
      clear hc2 hg2
      have HI9 := Lib.hid (HC1.out.below hb9)
      have HGa := Lib.hid (show n + 2 ≤ g1 by have h1 := HQ1.out; have h2 := HQ2.out; have h3 := HG1.out; omega)
      have HR8 := Lib.hid (HR9.out.below hb9)
      have HB8 := Lib.hid (show Below w.heap.size w w9 from by rw [hn]; exact HB9.out.trans (hb9.mono (by have := HB9.out.size; omega)))
      clear hb9
      have zc0 := HR8.out.c 0
      have zf0 := HR8.out.f 0
      have zc1 := HR8.out.c 1
      have zf1 := HR8.out.f 1
      have zc2 := HR8.out.c 2
      have zf2 := HR8.out.f 2
      have zc3 := HR8.out.c 3
      have zf3 := HR8.out.f 3
      have zc4 := HR8.out.c 4
      have zf4 := HR8.out.f 4
      have zc5 := HR8.out.c 5
      have zf5 := HR8.out.f 5
      have zsh := HR8.out.sh
      have hnz : n + 1 < w9.heap.size := HR8.out.lt
      simp only [List.getElem?_toArray, List.getElem?_cons_zero, List.getElem?_cons_succ] at zc0 zc1 zc2 zc3 zc4 zc5
      unfold tabV
      have HTab := Lib.hid (tab_in (w := w9) (P := fun b => n + 2 ≤ b) (its := [vStr nd.dest, vPage addr, vStr nd.text]) (ks := [[105, 110, 102, 111], [112, 97, 103, 101], [116, 101, 120, 116]]) HI9.out HGa.out (by intro x hx; simp only [List.mem_cons, List.not_mem_nil, or_false] at hx; rcases hx with rfl | rfl | rfl; exact flat_str HI.out.2.2.2.1; exact flat_page HHa.out; exact flat_str HI.out.2.2.1) HK9.out HGb.out (Nat.le_of_ble_eq_true rfl) (by decide) (by decide))
      go_wp2_with fail
      have K1 : KeepsIn (fun b => n + 2 ≤ b) w9 (((((((w9).setCell ⟨n + 1, 0, none⟩ (.int .i64 6)).setCell ⟨n + 1, 1, none⟩ (.bool false)).setCell ⟨n + 1, 2, none⟩ (.int .i64 0)).setCell ⟨n + 1, 3, none⟩ (.string ⟨#[]⟩)).setCell ⟨n + 1, 4, none⟩ (.slice (some ⟨g1, 0, none⟩) 3 3)).setCell ⟨n + 1, 5, none⟩ (.slice (some ⟨g2, 0, none⟩) 3 3)) :=
        (((((keepsIn_set (by omega)).trans (keepsIn_set (by omega))).trans (keepsIn_set (by omega))).trans (keepsIn_set (by omega))).trans (keepsIn_set (by omega))).trans (keepsIn_set (by omega))
      exact val_done (n := n + 1) rfl ((((((HR8.out.put 0 _).put 1 _).put 2 _).put 3 _).put 4 _).put 5 _) rfl rfl rfl
        ⟨some ⟨g1, 0, none⟩, 3, 3, some ⟨g2, 0, none⟩, 3, 3, rfl, HTab.out.keep K1 (fun b _ hb => by omega),
          (((((HB8.out.setB (by omega) 0 _).setB (by omega) 1 _).setB (by omega) 2 _).setB (by omega) 3 _).setB (by omega) 4 _).setB (by omega) 5 _⟩
  · have hV : fieldsV nd addr id inner z = tabL [vPage addr] [[112, 97, 103, 101]] := by unfold fieldsV; rw [if_neg (by omega), if_neg (by omega), if_neg (by omega), if_neg (by omega)]
    rw [hV]
    clear hV
    have t17 : (nd.kind == 17) = false := by simp; omega
    have t18 : (nd.kind == 18) = false := by simp; omega
    have t1 : (nd.kind == 1) = false := by simp; omega
    have t3 : (nd.kind == 3) = false := by simp; omega
    clear hx
    go_enter Tryd.func8, Tryd.ntmps8
    go_wp2_with (go_at_call 17; go_must (refine (pageFact_p _ _ HHa.out).mono ?_); rintro e w1 ⟨rfl, hb1⟩; have HN1 := Lib.hid (HN0.out.below hb1); have HR1 := Lib.hid (HR0.out.below hb1); have HBb := Lib.hid hb1; clear hb1; have hnl := HN1.out.lt; have nc0 := HN1.out.c 0; have nc1 := HN1.out.c 1; have nc2 := HN1.out.c 2; have nc3 := HN1.out.c 3; have nc4 := HN1.out.c 4; have nc5 := HN1.out.c 5; simp only [List.getElem?_toArray, List.getElem?_cons_zero, List.getElem?_cons_succ] at nc0 nc1 nc2 nc3 nc4 nc5; simp only [valAgg, vPage, Val.kind, Val.flag, Val.num, Val.text])
    obtain ⟨W1, hW1⟩ : ∃ W1, w1.alloc (.cells #[.int .i64 8, .bool false, .int .i64 0, .string ((⟨#[112, 97, 103, 101, 58]⟩ : ByteArray) ++ addr), .slice none 0 0, .slice none 0 0] 35) = W1 := ⟨_, rfl⟩
    have HB1 := Lib.hid (show Below w1.heap.size w1 W1 by rw [← hW1]; exact (Below.refl w1.heap.size w1).alloc (Nat.le_refl _) _)
    have HP1 := Lib.hid (show CB W1 w1.heap.size 35 #[.int .i64 8, .bool false, .int .i64 0, .string ((⟨#[112, 97, 103, 101, 58]⟩ : ByteArray) ++ addr), .slice none 0 0, .slice none 0 0] by rw [← hW1]; exact CB.new _ _ _)
    have HW1s := Lib.hid (show W1.heap.size = w1.heap.size + 1 by rw [← hW1]; exact World.size_alloc _ _)
    rw [hW1]
    clear hW1
    have HB2 := Lib.hid (Below.refl W1.heap.size W1)
    have HP2 := Lib.hid (HP1.out.below HB2.out)
    have HN2 := Lib.hid ((HN1.out.below HB1.out).below HB2.out)
    have HR2 := Lib.hid ((HR1.out.below HB1.out).below HB2.out)
    have HBw := Lib.hid (show Below n w W1 from by
      have h1 := HB0.out
      have h2 := HBb.out
      have h3 := HS0.out
      have h4 := h2.size
      have h5 := HB1.out.size
      exact ((h1.trans (h2.mono (by omega))).trans (HB1.out.mono (by omega))).trans (HB2.out.mono (by omega)))
    obtain ⟨q1, hq1⟩ : ∃ q1, w1.heap.size = q1 := ⟨_, rfl⟩
    have HQ1 := Lib.hid (show n + 2 ≤ q1 by have h2 := HBb.out.size; rw [HS0.out] at h2; omega)
    have HQ2 := Lib.hid (show q1 ≤ W1.heap.size by have h2 := HB1.out.size; have h3 := HB2.out.size; omega)
    rw [hq1] at HP2 HW1s
    try rw [hq1]
    clear hq1
    have pz0 := HP2.out.c 0
    have pz1 := HP2.out.c 1
    have pz2 := HP2.out.c 2
    have pz3 := HP2.out.c 3
    have pz4 := HP2.out.c 4
    have pz5 := HP2.out.c 5
    have pzsh := HP2.out.sh
    have pzl := HP2.out.lt
    simp only [List.getElem?_toArray, List.getElem?_cons_zero, List.getElem?_cons_succ] at pz0 pz1 pz2 pz3 pz4 pz5
    go_wp2_with fail
    change Calls _ _ _ (W1.alloc (.cells (rowVC [vPage addr]).toArray 35)) _
    obtain ⟨w8, hw8⟩ : ∃ w8, W1.alloc (.cells (rowVC [vPage addr]).toArray 35) = w8 := ⟨_, rfl⟩
    have HB8a := Lib.hid (show Below W1.heap.size W1 w8 by rw [← hw8]; exact (Below.refl _ _).alloc (Nat.le_refl _) _)
    have HC1 := Lib.hid (show CB w8 W1.heap.size 35 (rowVC [vPage addr]).toArray by rw [← hw8]; exact CB.new _ _ _)
    obtain ⟨g1, hg1⟩ : ∃ g1, q1 + 1 = g1 := ⟨_, rfl⟩
    have HG1 := Lib.hid (show W1.heap.size ≤ g1 by rw [HW1s.out]; omega)
    rw [hw8, hg1]
    rw [HW1s.out, hg1] at HC1
    have HSz9 := Lib.hid (show W1.heap.size ≤ w8.heap.size from HB8a.out.size)
    clear hw8 hg1
    have HB9 := Lib.hid (show Below n w w8 from HBw.out.trans (HB8a.out.mono (by have := HBw.out.size; omega)))
    have HR9 := Lib.hid (HR2.out.below HB8a.out)
    refine (table_p (⟨#[112, 97, 103, 101]⟩ : ByteArray) _ _ _ _ rfl w8 (HSp.out.keep (show Below w.heap.size w w8 from by rw [hn]; exact HB9.out)) [[112, 97, 103, 101]] (by decide) (by decide) (ascii_of (by decide))).mono ?_
    rintro e w9 ⟨g2, rfl, hg2, hc2, hb9⟩
    have HK9 := Lib.hid hc2
    have HGb := Lib.hid (show n + 2 ≤ g2 by have h1 := HQ1.out; have h2 := HQ2.out; have h3 := HSz9.out; omega)
    clear hc2 hg2
    have HI9 := Lib.hid (HC1.out.below hb9)
    have HGa := Lib.hid (show n + 2 ≤ g1 by have h1 := HQ1.out; have h2 := HQ2.out; have h3 := HG1.out; omega)
    have HR8 := Lib.hid (HR9.out.below hb9)
    have HB8 := Lib.hid (show Below w.heap.size w w9 from by rw [hn]; exact HB9.out.trans (hb9.mono (by have := HB9.out.size; omega)))
    clear hb9
    have zc0 := HR8.out.c 0
    have zf0 := HR8.out.f 0
    have zc1 := HR8.out.c 1
    have zf1 := HR8.out.f 1
    have zc2 := HR8.out.c 2
    have zf2 := HR8.out.f 2
    have zc3 := HR8.out.c 3
    have zf3 := HR8.out.f 3
    have zc4 := HR8.out.c 4
    have zf4 := HR8.out.f 4
    have zc5 := HR8.out.c 5
    have zf5 := HR8.out.f 5
    have zsh := HR8.out.sh
    have hnz : n + 1 < w9.heap.size := HR8.out.lt
    simp only [List.getElem?_toArray, List.getElem?_cons_zero, List.getElem?_cons_succ] at zc0 zc1 zc2 zc3 zc4 zc5
    unfold tabV
    have HTab := Lib.hid (tab_in (w := w9) (P := fun b => n + 2 ≤ b) (its := [vPage addr]) (ks := [[112, 97, 103, 101]]) HI9.out HGa.out (by intro x hx; simp only [List.mem_cons, List.not_mem_nil, or_false] at hx; rcases hx with rfl; exact flat_page HHa.out) HK9.out HGb.out (Nat.le_of_ble_eq_true rfl) (by decide) (by decide))
    go_wp2_with fail
    have K1 : KeepsIn (fun b => n + 2 ≤ b) w9 (((((((w9).setCell ⟨n + 1, 0, none⟩ (.int .i64 6)).setCell ⟨n + 1, 1, none⟩ (.bool false)).setCell ⟨n + 1, 2, none⟩ (.int .i64 0)).setCell ⟨n + 1, 3, none⟩ (.string ⟨#[]⟩)).setCell ⟨n + 1, 4, none⟩ (.slice (some ⟨g1, 0, none⟩) 1 1)).setCell ⟨n + 1, 5, none⟩ (.slice (some ⟨g2, 0, none⟩) 1 1)) :=
      (((((keepsIn_set (by omega)).trans (keepsIn_set (by omega))).trans (keepsIn_set (by omega))).trans (keepsIn_set (by omega))).trans (keepsIn_set (by omega))).trans (keepsIn_set (by omega))
    exact val_done (n := n + 1) rfl ((((((HR8.out.put 0 _).put 1 _).put 2 _).put 3 _).put 4 _).put 5 _) rfl rfl rfl
      ⟨some ⟨g1, 0, none⟩, 1, 1, some ⟨g2, 0, none⟩, 1, 1, rfl, HTab.out.keep K1 (fun b _ hb => by omega),
        (((((HB8.out.setB (by omega) 0 _).setB (by omega) 1 _).setB (by omega) 2 _).setB (by omega) 3 _).setB (by omega) 4 _).setB (by omega) 5 _⟩

end Go.Proofs.YtphmhhonbkcajaaDoor
