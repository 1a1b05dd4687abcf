/-
  The law PageDots, walked.
-/
import Derived.Test.YtphmhhonbkcajaaDoorDotOf
import Derived.Test.YtphmhhonbkcajaaDoorFieldsOf
namespace Go.Proofs.YtphmhhonbkcajaaDoor
open Go.RowKit Go.Deep

/-- a value somewhere in memory -/
def OutV (v : Val) (x : Value) (w : World) : Prop := ∃ (A1 : Option Addr) (n1 c1 : Nat) (A2 : Option Addr) (n2 c2 : Nat), x = valAgg v (.slice A1 n1 c1) (.slice A2 n2 c2) ∧ ValIn w AnyB (valAgg v (.slice A1 n1 c1) (.slice A2 n2 c2)) v
theorem OutV.below {v : Val} {x : Value} {w w' : World} (h : OutV v x w) (hb : Below w.heap.size w w') : OutV v x w' := by
  obtain ⟨A1, n1, c1, A2, n2, c2, h1, h2⟩ := h
  exact ⟨A1, n1, c1, A2, n2, c2, h1, h2.keep (KeepsIn.of_keeps (Keeps.of_below hb)) (fun _ _ _ => trivial)⟩
theorem same_t {v : Val} {x y : Value} {w : World} (h1 : ValIn w AnyB x v) (h2 : ValIn w AnyB y v) : Calls Tryd.prog 5 #[x, y] w fun e w' => e = .returned (.bool true) ∧ Below w.heap.size w w' :=
  (sameRef_q _ v v x y w (Nat.le_refl _) h1 h2).mono fun e w' ⟨e1, e2⟩ => ⟨by rw [e1, sameV_refl], e2⟩
/-- the line counts at headings alone -/
theorem fieldsV_z {nd : Node} {addr id inner z z2 : ByteArray} (h : nd.kind = 1 → z = z2) : fieldsV nd addr id inner z = fieldsV nd addr id inner z2 := by
  unfold fieldsV
  split
  · rfl
  · split
    · rfl
    · split
      · rename_i h1; rw [h h1]
      · rfl
theorem fieldsOf_z {nd : Node} {kv : Value} {addr id inner z : ByteArray} {w : World} (hk : NodesAt w kv nd.kids) (hw : weight nd.kids ≤ 1073741824) (hkl : nd.kind = 1 → Kidless nd.kids)
    (hI : I64 nd.kind ∧ I64 nd.level ∧ nd.text.size ≤ maxLen ∧ nd.dest.size ≤ maxLen ∧ nd.title.size ≤ maxLen) (ha : addr.size ≤ 1073741824) (hid : id.size ≤ maxLen) (hin : inner.size ≤ maxLen) (hz : nd.kind = 1 → (⟨(plainL 0 nd.kids).toArray⟩ : ByteArray) = z) :
    Calls Tryd.prog 9 #[.agg #[.int .i64 nd.kind, .int .i64 nd.level, .string nd.text, .string nd.dest, .string nd.title, kv], .string addr, .string id, .string inner] w (ClonePost (fieldsV nd addr id inner z) w) := by
  rw [← fieldsV_z hz]
  exact fieldsOf_q nd kv addr id inner _ w hk hw hkl rfl hI ha hid hin
/-- what the law's guard gives for a heading -/
theorem heading_kidless {n : Node} (h : docErr [n] = 0 ∨ docErr [.mk 2 0 ⟨#[]⟩ ⟨#[]⟩ ⟨#[]⟩ [n]] = 0) : Kidless n.kids := by
  rcases h with h | h
  · have := docErr_kidless h
    exact (this.at_ (k := 0) (n := n) rfl).2
  · have := docErr_kidless h
    have h2 := (this.at_ (k := 0) (n := .mk 2 0 ⟨#[]⟩ ⟨#[]⟩ ⟨#[]⟩ [n]) rfl).2
    exact (h2.at_ (k := 0) (n := n) rfl).2
/-- one node as a list -/
theorem nodes_one {w : World} {g : Nat} {t : TypeId} {nd : Node} {kv : Value} (h : CB w g t #[.int .i64 nd.kind, .int .i64 nd.level, .string nd.text, .string nd.dest, .string nd.title, kv]) (hk : NodesAt w kv nd.kids)
    (hI : I64 nd.kind ∧ I64 nd.level ∧ nd.text.size ≤ maxLen ∧ nd.dest.size ≤ maxLen ∧ nd.title.size ≤ maxLen) : NodesAt w (.slice (some ⟨g, 0, none⟩) 1 1) [nd] :=
  .mk (some ⟨g, 0, none⟩) 1 [nd] g 0 (fun _ => kv) (Nat.le_refl _) (by unfold maxLen; omega) (fun _ => rfl) (fun i n hi => by
    cases i with
    | zero =>
      simp only [List.getElem?_cons_zero, Option.some.injEq] at hi
      subst hi
      exact ⟨h.c 0, h.c 1, h.c 2, h.c 3, h.c 4, h.c 5, hI.1, hI.2.1, hI.2.2.1, hI.2.2.2.1, hI.2.2.2.2⟩
    | succ i => simp at hi) (fun i n hi => by
    cases i with
    | zero =>
      simp only [List.getElem?_cons_zero, Option.some.injEq] at hi
      subst hi
      exact hk
    | succ i => simp at hi)

def IDots3 (fr : Value → Value → Value → Value → Value → Value → Value → Value → Value → Act) (l : List ArgP) (tx : ByteArray) (nm : ByteArray) (A : Option Addr) (ma : Nat) (c : Nat) (en : Bool) (A2 : Option Addr) (m2 : Nat) (c2 : Nat) (addr : ByteArray) (inner : ByteArray) (W1 : World) (L : Array Bool) (a : Act) (w : World) : Prop :=
  ∃ x0 x1 x2 x3 x4 x5 x6 x7 x8 : Value, a = fr x0 x1 x2 x3 x4 x5 x6 x7 x8 ∧ Below W1.heap.size W1 w ∧ (L.getD 0 false = true → x0 = .agg (partC tx nm A ma c en A2 m2 c2)) ∧ (L.getD 1 false = true → x1 = .string addr) ∧ (L.getD 2 false = true → x2 = .string inner) ∧ (L.getD 3 false = true → OutV (dotV l en addr inner) x3 w) ∧ (L.getD 4 false = true → x4 = .agg (partC tx nm A ma c en A2 m2 c2)) ∧ (L.getD 5 false = true → x5 = .string addr) ∧ (L.getD 6 false = true → x6 = .string inner) ∧ (L.getD 7 false = true → OutV (dotV l en addr inner) x7 w) ∧ (L.getD 8 false = true → x8 = .bool true)
theorem IDots3.start {m : Nat} {fr : Value → Value → Value → Value → Value → Value → Value → Value → Value → Act} {l : List ArgP} {tx : ByteArray} {nm : ByteArray} {A : Option Addr} {ma : Nat} {c : Nat} {en : Bool} {A2 : Option Addr} {m2 : Nat} {c2 : Nat} {addr : ByteArray} {inner : ByteArray} {W1 : World} {a : Act} (x0 x1 x2 x3 x4 x5 x6 x7 x8 : Value) (h : a = fr x0 x1 x2 x3 x4 x5 x6 x7 x8) : IDots3 fr l tx nm A ma c en A2 m2 c2 addr inner W1 (Array.replicate m false) a W1 :=
  ⟨x0, x1, x2, x3, x4, x5, x6, x7, x8, h, Below.refl _ _, (fun h => by rw [getD_replicate_false] at h; cases h), (fun h => by rw [getD_replicate_false] at h; cases h), (fun h => by rw [getD_replicate_false] at h; cases h), (fun h => by rw [getD_replicate_false] at h; cases h), (fun h => by rw [getD_replicate_false] at h; cases h), (fun h => by rw [getD_replicate_false] at h; cases h), (fun h => by rw [getD_replicate_false] at h; cases h), (fun h => by rw [getD_replicate_false] at h; cases h), (fun h => by rw [getD_replicate_false] at h; cases h)⟩
def IDots4 (fr : Value → Value → Value → Value → Value → Value → Value → Value → Value → Value → Value → Value → Value → Value → Value → Value → Value → Value → Value → Value → Value → Act) (l : List ArgP) (tx : ByteArray) (nm : ByteArray) (A : Option Addr) (ma : Nat) (c : Nat) (en : Bool) (A2 : Option Addr) (m2 : Nat) (c2 : Nat) (addr : ByteArray) (inner : ByteArray) (nd : Node) (Ak : Option Addr) (ck : Nat) (id : ByteArray) (z : ByteArray) (W1 : World) (L : Array Bool) (a : Act) (w : World) : Prop :=
  ∃ x0 x1 x2 x3 x4 x5 x6 x7 x8 x9 x10 x11 x12 x13 x14 x15 x16 x17 x18 x19 x20 : Value, a = fr x0 x1 x2 x3 x4 x5 x6 x7 x8 x9 x10 x11 x12 x13 x14 x15 x16 x17 x18 x19 x20 ∧ Below W1.heap.size W1 w ∧ (L.getD 0 false = true → x0 = .agg (partC tx nm A ma c en A2 m2 c2)) ∧ (L.getD 1 false = true → x1 = .string addr) ∧ (L.getD 2 false = true → x2 = .string inner) ∧ (L.getD 3 false = true → OutV (dotV l en addr inner) x3 w) ∧ (L.getD 4 false = true → x4 = .agg (partC tx nm A ma c en A2 m2 c2)) ∧ (L.getD 5 false = true → x5 = .string addr) ∧ (L.getD 6 false = true → x6 = .string inner) ∧ (L.getD 7 false = true → OutV (dotV l en addr inner) x7 w) ∧ (L.getD 8 false = true → x8 = .bool true) ∧ (L.getD 9 false = true → x9 = .bool true) ∧ (L.getD 10 false = true → x10 = .agg #[.int .i64 nd.kind, .int .i64 nd.level, .string nd.text, .string nd.dest, .string nd.title, .slice Ak nd.kids.length ck]) ∧ (L.getD 11 false = true → x11 = .string addr) ∧ (L.getD 12 false = true → x12 = .string id) ∧ (L.getD 13 false = true → x13 = .string inner) ∧ (L.getD 14 false = true → OutV (fieldsV nd addr id inner z) x14 w) ∧ (L.getD 15 false = true → x15 = .agg #[.int .i64 nd.kind, .int .i64 nd.level, .string nd.text, .string nd.dest, .string nd.title, .slice Ak nd.kids.length ck]) ∧ (L.getD 16 false = true → x16 = .string addr) ∧ (L.getD 17 false = true → x17 = .string id) ∧ (L.getD 18 false = true → x18 = .string inner) ∧ (L.getD 19 false = true → OutV (fieldsV nd addr id inner z) x19 w) ∧ (L.getD 20 false = true → x20 = .bool true)
theorem IDots4.start {m : Nat} {fr : Value → Value → Value → Value → Value → Value → Value → Value → Value → Value → Value → Value → Value → Value → Value → Value → Value → Value → Value → Value → Value → Act} {l : List ArgP} {tx : ByteArray} {nm : ByteArray} {A : Option Addr} {ma : Nat} {c : Nat} {en : Bool} {A2 : Option Addr} {m2 : Nat} {c2 : Nat} {addr : ByteArray} {inner : ByteArray} {nd : Node} {Ak : Option Addr} {ck : Nat} {id : ByteArray} {z : ByteArray} {W1 : World} {a : Act} (x0 x1 x2 x3 x4 x5 x6 x7 x8 x9 x10 x11 x12 x13 x14 x15 x16 x17 x18 x19 x20 : Value) (h : a = fr x0 x1 x2 x3 x4 x5 x6 x7 x8 x9 x10 x11 x12 x13 x14 x15 x16 x17 x18 x19 x20) : IDots4 fr l tx nm A ma c en A2 m2 c2 addr inner nd Ak ck id z W1 (Array.replicate m false) a W1 :=
  ⟨x0, x1, x2, x3, x4, x5, x6, x7, x8, x9, x10, x11, x12, x13, x14, x15, x16, x17, x18, x19, x20, h, Below.refl _ _, (fun h => by rw [getD_replicate_false] at h; cases h), (fun h => by rw [getD_replicate_false] at h; cases h), (fun h => by rw [getD_replicate_false] at h; cases h), (fun h => by rw [getD_replicate_false] at h; cases h), (fun h => by rw [getD_replicate_false] at h; cases h), (fun h => by rw [getD_replicate_false] at h; cases h), (fun h => by rw [getD_replicate_false] at h; cases h), (fun h => by rw [getD_replicate_false] at h; cases h), (fun h => by rw [getD_replicate_false] at h; cases h), (fun h => by rw [getD_replicate_false] at h; cases h), (fun h => by rw [getD_replicate_false] at h; cases h), (fun h => by rw [getD_replicate_false] at h; cases h), (fun h => by rw [getD_replicate_false] at h; cases h), (fun h => by rw [getD_replicate_false] at h; cases h), (fun h => by rw [getD_replicate_false] at h; cases h), (fun h => by rw [getD_replicate_false] at h; cases h), (fun h => by rw [getD_replicate_false] at h; cases h), (fun h => by rw [getD_replicate_false] at h; cases h), (fun h => by rw [getD_replicate_false] at h; cases h), (fun h => by rw [getD_replicate_false] at h; cases h), (fun h => by rw [getD_replicate_false] at h; cases h)⟩

set_option maxRecDepth 100000 in
set_option maxHeartbeats 8000000 in
theorem pageDots_walk (l : List ArgP) (tx nm : ByteArray) (A : Option Addr) (ma c : Nat) (en : Bool) (A2 : Option Addr) (m2 c2 : Nat) (nd : Node) (kv : Value) (addr id inner : ByteArray) (w : World) (hA : ArgsPAt w (.slice A ma c) l) (hl : l.length ≤ 1073741824) (hsp : SpOk w)
    (hk : NodesAt w kv nd.kids) (hwt : weight nd.kids ≤ 1073741824) (ht : total [nd] ≤ 1073741824 ∧ total [Node.mk 2 0 ⟨#[]⟩ ⟨#[]⟩ ⟨#[]⟩ [nd]] ≤ 1073741824) (hI : I64 nd.kind ∧ I64 nd.level ∧ nd.text.size ≤ maxLen ∧ nd.dest.size ≤ maxLen ∧ nd.title.size ≤ maxLen) (ha : addr.size ≤ 1073741824) (hid : id.size ≤ maxLen) (hin : inner.size ≤ maxLen) :
    Calls Tryd.prog 3 #[.agg (partC tx nm A ma c en A2 m2 c2), .agg #[.int .i64 nd.kind, .int .i64 nd.level, .string nd.text, .string nd.dest, .string nd.title, kv], .string addr, .string id, .string inner] w fun e w' => e = .returned (.bool true) ∧ Below w.heap.size w w' := by
  obtain ⟨Ak, ck, bk, ok, kvf, rfl, hlc, hck, _, _, _⟩ := hk.inv
  have HArgs := Lib.hid hA; clear hA
  have HKids := Lib.hid hk; clear hk
  have HSp := Lib.hid hsp; clear hsp
  have HHa := Lib.hid ha; clear ha
  have HIn := Lib.hid hin; clear hin
  have HId := Lib.hid hid; clear hid
  have HI := Lib.hid hI; clear hI
  have HT := Lib.hid ht; clear ht
  clear hck hlc
  obtain ⟨n, hn⟩ : ∃ n, w.heap.size = n := ⟨_, rfl⟩
  have HB0 := Lib.hid (show Below w.heap.size w ((w.alloc (.cells #[.string tx, .string nm, .slice A ma c, .bool en, .slice A2 m2 c2] 25)).alloc (.cells #[.int .i64 nd.kind, .int .i64 nd.level, .string nd.text, .string nd.dest, .string nd.title, .slice Ak nd.kids.length ck] 28)) from ((Below.refl _ _).alloc (Nat.le_refl _) _).alloc (by rw [World.size_alloc]; omega) _)
  have HPt0 := Lib.hid (show CB ((w.alloc (.cells #[.string tx, .string nm, .slice A ma c, .bool en, .slice A2 m2 c2] 25)).alloc (.cells #[.int .i64 nd.kind, .int .i64 nd.level, .string nd.text, .string nd.dest, .string nd.title, .slice Ak nd.kids.length ck] 28)) n 25 (partC tx nm A ma c en A2 m2 c2) by
    have h := CB.new w (partC tx nm A ma c en A2 m2 c2) 25
    rw [hn] at h
    exact h.alloc _)
  have HNd0 := Lib.hid (show CB ((w.alloc (.cells #[.string tx, .string nm, .slice A ma c, .bool en, .slice A2 m2 c2] 25)).alloc (.cells #[.int .i64 nd.kind, .int .i64 nd.level, .string nd.text, .string nd.dest, .string nd.title, .slice Ak nd.kids.length ck] 28)) (n + 1) 28 #[.int .i64 nd.kind, .int .i64 nd.level, .string nd.text, .string nd.dest, .string nd.title, .slice Ak nd.kids.length ck] by
    have h := CB.new (w.alloc (.cells (partC tx nm A ma c en A2 m2 c2) 25)) #[.int .i64 nd.kind, .int .i64 nd.level, .string nd.text, .string nd.dest, .string nd.title, .slice Ak nd.kids.length ck] 28
    rw [World.size_alloc, hn] at h
    exact h)
  unfold partC
  go_enter Tryd.func3, Tryd.ntmps3
  go_upto_region 2 with fail
  obtain ⟨wa, hwa⟩ : ∃ wa, ((((w.alloc (.cells #[.string tx, .string nm, .slice A ma c, .bool en, .slice A2 m2 c2] 25)).alloc (.cells #[.int .i64 nd.kind, .int .i64 nd.level, .string nd.text, .string nd.dest, .string nd.title, .slice Ak nd.kids.length ck] 28))).alloc (.cells #[.int .i64 nd.kind, .int .i64 nd.level, .string nd.text, .string nd.dest, .string nd.title, .slice Ak nd.kids.length ck] 28)) = wa := ⟨_, rfl⟩
  have HBa := Lib.hid (show Below w.heap.size w wa by rw [← hwa]; exact HB0.out.alloc (by rw [World.size_alloc, World.size_alloc]; omega) _)
  have HPta := Lib.hid (show CB wa n 25 (partC tx nm A ma c en A2 m2 c2) by rw [← hwa]; exact HPt0.out.alloc _)
  have HNda := Lib.hid (show CB wa (n + 1) 28 #[.int .i64 nd.kind, .int .i64 nd.level, .string nd.text, .string nd.dest, .string nd.title, .slice Ak nd.kids.length ck] by rw [← hwa]; exact HNd0.out.alloc _)
  have HLa := Lib.hid (show NodesAt wa (.slice (some ⟨n + 1 + 1, 0, none⟩) 1 1) [nd] from nodes_one (t := 28) (show CB wa (n + 1 + 1) _ #[.int .i64 nd.kind, .int .i64 nd.level, .string nd.text, .string nd.dest, .string nd.title, .slice Ak nd.kids.length ck] by
    rw [← hwa]
    have h := CB.new ((w.alloc (.cells #[.string tx, .string nm, .slice A ma c, .bool en, .slice A2 m2 c2] 25)).alloc (.cells #[.int .i64 nd.kind, .int .i64 nd.level, .string nd.text, .string nd.dest, .string nd.title, .slice Ak nd.kids.length ck] 28)) #[.int .i64 nd.kind, .int .i64 nd.level, .string nd.text, .string nd.dest, .string nd.title, .slice Ak nd.kids.length ck] 28
    rw [World.size_alloc, World.size_alloc, hn] at h
    exact h) (HKids.out.keep (Keeps.of_below HBa.out)) HI.out)
  clear HB0 HPt0 HNd0
  rw [hwa]
  clear hwa
  by_cases h1 : docErr [nd] = 0
  · have H1 := Lib.hid h1
    have hc := (check_any [nd] _ wa HLa.out HT.out.1)
    rw [h1] at hc
    clear h1
    go_wp2_with (go_at_call 4; go_must (refine hc.mono ?_); rintro e w3 ⟨rfl, hb3⟩; have HBx := Lib.hid hb3; clear hb3 hc)
    have HPtC := Lib.hid (HPta.out.below HBx.out)
    have HNdC := Lib.hid (HNda.out.below HBx.out)
    have HBC := Lib.hid (HBa.out.trans (HBx.out.mono HBa.out.size))
    have HKl := Lib.hid (fun _ : nd.kind = 1 => heading_kidless (Or.inl H1.out))
    obtain ⟨z, hz⟩ : ∃ z, (⟨(lineL nd.kids).toArray⟩ : ByteArray) = z := ⟨_, rfl⟩
    have HZ2 := Lib.hid (fun h : nd.kind = 1 => (show (⟨(plainL 0 nd.kids).toArray⟩ : ByteArray) = z by rw [← hz, heading_line h (Or.inl H1.out)]))
    have HZ := Lib.hid hz
    clear hz
    refine wp_region_any (by kernel_rfl) ?_
    change wpAny _ _ _ _ _ _ _ (World.drew _)
    obtain ⟨W1, hW1⟩ : ∃ W1, w3 = W1 := ⟨_, rfl⟩
    rw [hW1] at HBC HPtC HNdC
    rw [hW1]
    clear hW1
    obtain ⟨W2, hW2⟩ : ∃ W2, W1.drew = W2 := ⟨_, rfl⟩
    have HB2 := Lib.hid (show Below w.heap.size w W2 by rw [← hW2]; exact HBC.out.drew)
    have HPt2 := Lib.hid (show CB W2 n 25 (partC tx nm A ma c en A2 m2 c2) by rw [← hW2]; exact (HPtC.out).drewD)
    have HNd2 := Lib.hid (show CB W2 (n + 1) 28 #[.int .i64 nd.kind, .int .i64 nd.level, .string nd.text, .string nd.dest, .string nd.title, .slice Ak nd.kids.length ck] by rw [← hW2]; exact (HNdC.out).drewD)
    have HBw := Lib.hid (fun (w' : World) (h : Below W2.heap.size W2 w') => (show Below w.heap.size w w' from HB2.out.trans (h.mono HB2.out.size)))
    rw [hW2]
    clear hW2
    refine wpAny_inv [0, 1, 2, 3, 4, 5, 6, 7, 8, 9, 10, 11, 12, 13, 14, 15, 16, 17, 18, 19, 20] (IDots4 (fun v33 v34 v35 v36 v37 v38 v39 v40 v41 v42 v43 v44 v45 v46 v47 v48 v49 v50 v51 v52 v53 => ⟨#[Value.agg #[Value.string tx, Value.string nm, Value.slice A ma c, Value.bool en, Value.slice A2 m2 c2], Value.agg #[Value.int IntKind.i64 nd.kind, Value.int IntKind.i64 nd.level, Value.string nd.text, Value.string nd.dest, Value.string nd.title, Value.slice Ak nd.kids.length ck], Value.string addr, Value.string id, Value.string inner, Value.pointer (some { block := n, off := 0 }), Value.pointer (some { block := n + 1, off := 0 }), undef, undef, undef, Value.bool false, Value.slice (some { block := n + 1 + 1, off := 0 }) 1 1, Value.agg #[Value.int IntKind.i64 nd.kind, Value.int IntKind.i64 nd.level, Value.string nd.text, Value.string nd.dest, Value.string nd.title, Value.slice Ak nd.kids.length ck], Value.slice (some { block := n + 1 + 1, off := 0 }) 1 1, Value.slice (some { block := n + 1 + 1, off := 0 }) 1 1, Value.int IntKind.i64 0, Value.bool false, Value.bool false, undef, undef, undef, undef, undef, Value.bool false, undef, undef, undef, undef, undef, undef, undef, undef, undef, v33, v34, v35, v36, v37, v38, v39, v40, v41, v42, v43, v44, v45, v46, v47, v48, v49, v50, v51, v52, v53, undef], []⟩) l tx nm A ma c en A2 m2 c2 addr inner nd Ak ck id z W2) #[true, true, true, true, true, true, true, true, true, true, true, true, true, true, true, true, true, true, true, true, true, false, false] (g := 2) (by kernel_rfl) (by kernel_rfl) (by kernel_rfl) (IDots4.start undef undef undef undef undef undef undef undef undef undef undef undef undef undef undef undef undef undef undef undef undef rfl) ?step ?last
    case step =>
      intro i hi L a' w' hs hr hI
      obtain ⟨x0, x1, x2, x3, x4, x5, x6, x7, x8, x9, x10, x11, x12, x13, x14, x15, x16, x17, x18, x19, x20, rfl, hB, h0, h1, h2, h3, h4, h5, h6, h7, h8, h9, h10, h11, h12, h13, h14, h15, h16, h17, h18, h19, h20⟩ := hI
      simp only [List.mem_cons, List.not_mem_nil, or_false] at hi
      rcases hi with rfl | rfl | rfl | rfl | rfl | rfl | rfl | rfl | rfl | rfl | rfl | rfl | rfl | rfl | rfl | rfl | rfl | rfl | rfl | rfl | rfl
      · have z0 := (HPt2.out.below hB).c 0
        have z1 := (HPt2.out.below hB).c 1
        have z2 := (HPt2.out.below hB).c 2
        have z3 := (HPt2.out.below hB).c 3
        have z4 := (HPt2.out.below hB).c 4
        have zsh := (HPt2.out.below hB).sh
        simp only [partC, List.getElem?_toArray, List.getElem?_cons_zero, List.getElem?_cons_succ] at z0 z1 z2 z3 z4
        refine wpOp_step rfl (fun K hK => ?_)
        go_simp
        exact hK _ _ ⟨_, _, _, _, _, _, _, _, _, _, _, _, _, _, _, _, _, _, _, _, _, rfl, hB, fun _ => rfl, fun h => h1 (getD_was (by decide) h), fun h => h2 (getD_was (by decide) h), fun h => h3 (getD_was (by decide) h), fun h => h4 (getD_was (by decide) h), fun h => h5 (getD_was (by decide) h), fun h => h6 (getD_was (by decide) h), fun h => h7 (getD_was (by decide) h), fun h => h8 (getD_was (by decide) h), fun h => h9 (getD_was (by decide) h), fun h => h10 (getD_was (by decide) h), fun h => h11 (getD_was (by decide) h), fun h => h12 (getD_was (by decide) h), fun h => h13 (getD_was (by decide) h), fun h => h14 (getD_was (by decide) h), fun h => h15 (getD_was (by decide) h), fun h => h16 (getD_was (by decide) h), fun h => h17 (getD_was (by decide) h), fun h => h18 (getD_was (by decide) h), fun h => h19 (getD_was (by decide) h), fun h => h20 (getD_was (by decide) h)⟩
      · refine wpOp_step rfl (fun K hK => ?_)
        go_simp
        exact hK _ _ ⟨_, _, _, _, _, _, _, _, _, _, _, _, _, _, _, _, _, _, _, _, _, rfl, hB, fun h => h0 (getD_was (by decide) h), fun _ => rfl, fun h => h2 (getD_was (by decide) h), fun h => h3 (getD_was (by decide) h), fun h => h4 (getD_was (by decide) h), fun h => h5 (getD_was (by decide) h), fun h => h6 (getD_was (by decide) h), fun h => h7 (getD_was (by decide) h), fun h => h8 (getD_was (by decide) h), fun h => h9 (getD_was (by decide) h), fun h => h10 (getD_was (by decide) h), fun h => h11 (getD_was (by decide) h), fun h => h12 (getD_was (by decide) h), fun h => h13 (getD_was (by decide) h), fun h => h14 (getD_was (by decide) h), fun h => h15 (getD_was (by decide) h), fun h => h16 (getD_was (by decide) h), fun h => h17 (getD_was (by decide) h), fun h => h18 (getD_was (by decide) h), fun h => h19 (getD_was (by decide) h), fun h => h20 (getD_was (by decide) h)⟩
      · refine wpOp_step rfl (fun K hK => ?_)
        go_simp
        exact hK _ _ ⟨_, _, _, _, _, _, _, _, _, _, _, _, _, _, _, _, _, _, _, _, _, rfl, hB, fun h => h0 (getD_was (by decide) h), fun h => h1 (getD_was (by decide) h), fun _ => rfl, fun h => h3 (getD_was (by decide) h), fun h => h4 (getD_was (by decide) h), fun h => h5 (getD_was (by decide) h), fun h => h6 (getD_was (by decide) h), fun h => h7 (getD_was (by decide) h), fun h => h8 (getD_was (by decide) h), fun h => h9 (getD_was (by decide) h), fun h => h10 (getD_was (by decide) h), fun h => h11 (getD_was (by decide) h), fun h => h12 (getD_was (by decide) h), fun h => h13 (getD_was (by decide) h), fun h => h14 (getD_was (by decide) h), fun h => h15 (getD_was (by decide) h), fun h => h16 (getD_was (by decide) h), fun h => h17 (getD_was (by decide) h), fun h => h18 (getD_was (by decide) h), fun h => h19 (getD_was (by decide) h), fun h => h20 (getD_was (by decide) h)⟩
      · have q0 := h0 (ready_dep hr (by kernel_rfl))
        have q1 := h1 (ready_dep hr (by kernel_rfl))
        have q2 := h2 (ready_dep hr (by kernel_rfl))
        subst q0
        subst q1
        subst q2
        refine wpOp_step rfl (fun K hK => ?_)
        go_simp
        refine (dot_q l tx nm A ma c en A2 m2 c2 addr inner w' (HArgs.out.keep (Keeps.of_below (HBw.out w' hB))) hl (HSp.out.keep (HBw.out w' hB)) HHa.out HIn.out).mono ?_
        rintro e w'' ⟨B1, b1, d1, B2, b2, d2, rfl, hv, hb⟩
        exact hK _ _ ⟨_, _, _, _, _, _, _, _, _, _, _, _, _, _, _, _, _, _, _, _, _, rfl, hB.trans (hb.mono hB.size), fun _ => rfl, fun _ => rfl, fun _ => rfl, fun _ => ⟨_, _, _, _, _, _, rfl, hv.keep (KeepsIn.refl _ _) (fun _ _ _ => trivial)⟩, fun h => h4 (getD_was (by decide) h), fun h => h5 (getD_was (by decide) h), fun h => h6 (getD_was (by decide) h), fun h => OutV.below (h7 (getD_was (by decide) h)) hb, fun h => h8 (getD_was (by decide) h), fun h => h9 (getD_was (by decide) h), fun h => h10 (getD_was (by decide) h), fun h => h11 (getD_was (by decide) h), fun h => h12 (getD_was (by decide) h), fun h => h13 (getD_was (by decide) h), fun h => OutV.below (h14 (getD_was (by decide) h)) hb, fun h => h15 (getD_was (by decide) h), fun h => h16 (getD_was (by decide) h), fun h => h17 (getD_was (by decide) h), fun h => h18 (getD_was (by decide) h), fun h => OutV.below (h19 (getD_was (by decide) h)) hb, fun h => h20 (getD_was (by decide) h)⟩
      · have z0 := (HPt2.out.below hB).c 0
        have z1 := (HPt2.out.below hB).c 1
        have z2 := (HPt2.out.below hB).c 2
        have z3 := (HPt2.out.below hB).c 3
        have z4 := (HPt2.out.below hB).c 4
        have zsh := (HPt2.out.below hB).sh
        simp only [partC, List.getElem?_toArray, List.getElem?_cons_zero, List.getElem?_cons_succ] at z0 z1 z2 z3 z4
        refine wpOp_step rfl (fun K hK => ?_)
        go_simp
        exact hK _ _ ⟨_, _, _, _, _, _, _, _, _, _, _, _, _, _, _, _, _, _, _, _, _, rfl, hB, fun h => h0 (getD_was (by decide) h), fun h => h1 (getD_was (by decide) h), fun h => h2 (getD_was (by decide) h), fun h => h3 (getD_was (by decide) h), fun _ => rfl, fun h => h5 (getD_was (by decide) h), fun h => h6 (getD_was (by decide) h), fun h => h7 (getD_was (by decide) h), fun h => h8 (getD_was (by decide) h), fun h => h9 (getD_was (by decide) h), fun h => h10 (getD_was (by decide) h), fun h => h11 (getD_was (by decide) h), fun h => h12 (getD_was (by decide) h), fun h => h13 (getD_was (by decide) h), fun h => h14 (getD_was (by decide) h), fun h => h15 (getD_was (by decide) h), fun h => h16 (getD_was (by decide) h), fun h => h17 (getD_was (by decide) h), fun h => h18 (getD_was (by decide) h), fun h => h19 (getD_was (by decide) h), fun h => h20 (getD_was (by decide) h)⟩
      · refine wpOp_step rfl (fun K hK => ?_)
        go_simp
        exact hK _ _ ⟨_, _, _, _, _, _, _, _, _, _, _, _, _, _, _, _, _, _, _, _, _, rfl, hB, fun h => h0 (getD_was (by decide) h), fun h => h1 (getD_was (by decide) h), fun h => h2 (getD_was (by decide) h), fun h => h3 (getD_was (by decide) h), fun h => h4 (getD_was (by decide) h), fun _ => rfl, fun h => h6 (getD_was (by decide) h), fun h => h7 (getD_was (by decide) h), fun h => h8 (getD_was (by decide) h), fun h => h9 (getD_was (by decide) h), fun h => h10 (getD_was (by decide) h), fun h => h11 (getD_was (by decide) h), fun h => h12 (getD_was (by decide) h), fun h => h13 (getD_was (by decide) h), fun h => h14 (getD_was (by decide) h), fun h => h15 (getD_was (by decide) h), fun h => h16 (getD_was (by decide) h), fun h => h17 (getD_was (by decide) h), fun h => h18 (getD_was (by decide) h), fun h => h19 (getD_was (by decide) h), fun h => h20 (getD_was (by decide) h)⟩
      · refine wpOp_step rfl (fun K hK => ?_)
        go_simp
        exact hK _ _ ⟨_, _, _, _, _, _, _, _, _, _, _, _, _, _, _, _, _, _, _, _, _, rfl, hB, fun h => h0 (getD_was (by decide) h), fun h => h1 (getD_was (by decide) h), fun h => h2 (getD_was (by decide) h), fun h => h3 (getD_was (by decide) h), fun h => h4 (getD_was (by decide) h), fun h => h5 (getD_was (by decide) h), fun _ => rfl, fun h => h7 (getD_was (by decide) h), fun h => h8 (getD_was (by decide) h), fun h => h9 (getD_was (by decide) h), fun h => h10 (getD_was (by decide) h), fun h => h11 (getD_was (by decide) h), fun h => h12 (getD_was (by decide) h), fun h => h13 (getD_was (by decide) h), fun h => h14 (getD_was (by decide) h), fun h => h15 (getD_was (by decide) h), fun h => h16 (getD_was (by decide) h), fun h => h17 (getD_was (by decide) h), fun h => h18 (getD_was (by decide) h), fun h => h19 (getD_was (by decide) h), fun h => h20 (getD_was (by decide) h)⟩
      · have q4 := h4 (ready_dep hr (by kernel_rfl))
        have q5 := h5 (ready_dep hr (by kernel_rfl))
        have q6 := h6 (ready_dep hr (by kernel_rfl))
        subst q4
        subst q5
        subst q6
        refine wpOp_step rfl (fun K hK => ?_)
        go_simp
        refine (dotOf_q l tx nm A ma c en A2 m2 c2 addr inner w' (HArgs.out.keep (Keeps.of_below (HBw.out w' hB))) hl HHa.out HIn.out).mono ?_
        rintro e w'' ⟨B1, b1, d1, B2, b2, d2, rfl, hv, hb⟩
        exact hK _ _ ⟨_, _, _, _, _, _, _, _, _, _, _, _, _, _, _, _, _, _, _, _, _, rfl, hB.trans (hb.mono hB.size), fun h => h0 (getD_was (by decide) h), fun h => h1 (getD_was (by decide) h), fun h => h2 (getD_was (by decide) h), fun h => OutV.below (h3 (getD_was (by decide) h)) hb, fun _ => rfl, fun _ => rfl, fun _ => rfl, fun _ => ⟨_, _, _, _, _, _, rfl, hv.keep (KeepsIn.refl _ _) (fun _ _ _ => trivial)⟩, fun h => h8 (getD_was (by decide) h), fun h => h9 (getD_was (by decide) h), fun h => h10 (getD_was (by decide) h), fun h => h11 (getD_was (by decide) h), fun h => h12 (getD_was (by decide) h), fun h => h13 (getD_was (by decide) h), fun h => OutV.below (h14 (getD_was (by decide) h)) hb, fun h => h15 (getD_was (by decide) h), fun h => h16 (getD_was (by decide) h), fun h => h17 (getD_was (by decide) h), fun h => h18 (getD_was (by decide) h), fun h => OutV.below (h19 (getD_was (by decide) h)) hb, fun h => h20 (getD_was (by decide) h)⟩
      · have q3 := h3 (ready_dep hr (by kernel_rfl))
        have q7 := h7 (ready_dep hr (by kernel_rfl))
        obtain ⟨E3, e3, f3, F3, i3, k3, rfl, hv3⟩ := q3
        obtain ⟨E7, e7, f7, F7, i7, k7, rfl, hv7⟩ := q7
        refine wpOp_step rfl (fun K hK => ?_)
        go_simp
        refine (same_t (hv3) (hv7)).mono ?_
        rintro e w'' ⟨rfl, hb⟩
        exact hK _ _ ⟨_, _, _, _, _, _, _, _, _, _, _, _, _, _, _, _, _, _, _, _, _, rfl, hB.trans (hb.mono hB.size), fun h => h0 (getD_was (by decide) h), fun h => h1 (getD_was (by decide) h), fun h => h2 (getD_was (by decide) h), fun h => OutV.below (h3 (getD_was (by decide) h)) hb, fun h => h4 (getD_was (by decide) h), fun h => h5 (getD_was (by decide) h), fun h => h6 (getD_was (by decide) h), fun h => OutV.below (h7 (getD_was (by decide) h)) hb, fun _ => rfl, fun h => h9 (getD_was (by decide) h), fun h => h10 (getD_was (by decide) h), fun h => h11 (getD_was (by decide) h), fun h => h12 (getD_was (by decide) h), fun h => h13 (getD_was (by decide) h), fun h => OutV.below (h14 (getD_was (by decide) h)) hb, fun h => h15 (getD_was (by decide) h), fun h => h16 (getD_was (by decide) h), fun h => h17 (getD_was (by decide) h), fun h => h18 (getD_was (by decide) h), fun h => OutV.below (h19 (getD_was (by decide) h)) hb, fun h => h20 (getD_was (by decide) h)⟩
      · have q8 := h8 (ready_dep hr (by kernel_rfl))
        subst q8
        refine wpOp_step rfl (fun K hK => ?_)
        go_simp
        exact hK _ _ ⟨_, _, _, _, _, _, _, _, _, _, _, _, _, _, _, _, _, _, _, _, _, rfl, hB, fun h => h0 (getD_was (by decide) h), fun h => h1 (getD_was (by decide) h), fun h => h2 (getD_was (by decide) h), fun h => h3 (getD_was (by decide) h), fun h => h4 (getD_was (by decide) h), fun h => h5 (getD_was (by decide) h), fun h => h6 (getD_was (by decide) h), fun h => h7 (getD_was (by decide) h), fun _ => rfl, fun _ => rfl, fun h => h10 (getD_was (by decide) h), fun h => h11 (getD_was (by decide) h), fun h => h12 (getD_was (by decide) h), fun h => h13 (getD_was (by decide) h), fun h => h14 (getD_was (by decide) h), fun h => h15 (getD_was (by decide) h), fun h => h16 (getD_was (by decide) h), fun h => h17 (getD_was (by decide) h), fun h => h18 (getD_was (by decide) h), fun h => h19 (getD_was (by decide) h), fun h => h20 (getD_was (by decide) h)⟩
      · have q9 := h9 (ready_dep hr (by kernel_rfl))
        subst q9
        have z0 := (HNd2.out.below hB).c 0
        have z1 := (HNd2.out.below hB).c 1
        have z2 := (HNd2.out.below hB).c 2
        have z3 := (HNd2.out.below hB).c 3
        have z4 := (HNd2.out.below hB).c 4
        have z5 := (HNd2.out.below hB).c 5
        have zsh := (HNd2.out.below hB).sh
        simp only [List.getElem?_toArray, List.getElem?_cons_zero, List.getElem?_cons_succ] at z0 z1 z2 z3 z4 z5
        refine wpOp_step rfl (fun K hK => ?_)
        go_simp
        exact hK _ _ ⟨_, _, _, _, _, _, _, _, _, _, _, _, _, _, _, _, _, _, _, _, _, rfl, hB, fun h => h0 (getD_was (by decide) h), fun h => h1 (getD_was (by decide) h), fun h => h2 (getD_was (by decide) h), fun h => h3 (getD_was (by decide) h), fun h => h4 (getD_was (by decide) h), fun h => h5 (getD_was (by decide) h), fun h => h6 (getD_was (by decide) h), fun h => h7 (getD_was (by decide) h), fun h => h8 (getD_was (by decide) h), fun _ => rfl, fun _ => rfl, fun h => h11 (getD_was (by decide) h), fun h => h12 (getD_was (by decide) h), fun h => h13 (getD_was (by decide) h), fun h => h14 (getD_was (by decide) h), fun h => h15 (getD_was (by decide) h), fun h => h16 (getD_was (by decide) h), fun h => h17 (getD_was (by decide) h), fun h => h18 (getD_was (by decide) h), fun h => h19 (getD_was (by decide) h), fun h => h20 (getD_was (by decide) h)⟩
      · have q9 := h9 (ready_dep hr (by kernel_rfl))
        subst q9
        refine wpOp_step rfl (fun K hK => ?_)
        go_simp
        exact hK _ _ ⟨_, _, _, _, _, _, _, _, _, _, _, _, _, _, _, _, _, _, _, _, _, rfl, hB, fun h => h0 (getD_was (by decide) h), fun h => h1 (getD_was (by decide) h), fun h => h2 (getD_was (by decide) h), fun h => h3 (getD_was (by decide) h), fun h => h4 (getD_was (by decide) h), fun h => h5 (getD_was (by decide) h), fun h => h6 (getD_was (by decide) h), fun h => h7 (getD_was (by decide) h), fun h => h8 (getD_was (by decide) h), fun _ => rfl, fun h => h10 (getD_was (by decide) h), fun _ => rfl, fun h => h12 (getD_was (by decide) h), fun h => h13 (getD_was (by decide) h), fun h => h14 (getD_was (by decide) h), fun h => h15 (getD_was (by decide) h), fun h => h16 (getD_was (by decide) h), fun h => h17 (getD_was (by decide) h), fun h => h18 (getD_was (by decide) h), fun h => h19 (getD_was (by decide) h), fun h => h20 (getD_was (by decide) h)⟩
      · have q9 := h9 (ready_dep hr (by kernel_rfl))
        subst q9
        refine wpOp_step rfl (fun K hK => ?_)
        go_simp
        exact hK _ _ ⟨_, _, _, _, _, _, _, _, _, _, _, _, _, _, _, _, _, _, _, _, _, rfl, hB, fun h => h0 (getD_was (by decide) h), fun h => h1 (getD_was (by decide) h), fun h => h2 (getD_was (by decide) h), fun h => h3 (getD_was (by decide) h), fun h => h4 (getD_was (by decide) h), fun h => h5 (getD_was (by decide) h), fun h => h6 (getD_was (by decide) h), fun h => h7 (getD_was (by decide) h), fun h => h8 (getD_was (by decide) h), fun _ => rfl, fun h => h10 (getD_was (by decide) h), fun h => h11 (getD_was (by decide) h), fun _ => rfl, fun h => h13 (getD_was (by decide) h), fun h => h14 (getD_was (by decide) h), fun h => h15 (getD_was (by decide) h), fun h => h16 (getD_was (by decide) h), fun h => h17 (getD_was (by decide) h), fun h => h18 (getD_was (by decide) h), fun h => h19 (getD_was (by decide) h), fun h => h20 (getD_was (by decide) h)⟩
      · have q9 := h9 (ready_dep hr (by kernel_rfl))
        subst q9
        refine wpOp_step rfl (fun K hK => ?_)
        go_simp
        exact hK _ _ ⟨_, _, _, _, _, _, _, _, _, _, _, _, _, _, _, _, _, _, _, _, _, rfl, hB, fun h => h0 (getD_was (by decide) h), fun h => h1 (getD_was (by decide) h), fun h => h2 (getD_was (by decide) h), fun h => h3 (getD_was (by decide) h), fun h => h4 (getD_was (by decide) h), fun h => h5 (getD_was (by decide) h), fun h => h6 (getD_was (by decide) h), fun h => h7 (getD_was (by decide) h), fun h => h8 (getD_was (by decide) h), fun _ => rfl, fun h => h10 (getD_was (by decide) h), fun h => h11 (getD_was (by decide) h), fun h => h12 (getD_was (by decide) h), fun _ => rfl, fun h => h14 (getD_was (by decide) h), fun h => h15 (getD_was (by decide) h), fun h => h16 (getD_was (by decide) h), fun h => h17 (getD_was (by decide) h), fun h => h18 (getD_was (by decide) h), fun h => h19 (getD_was (by decide) h), fun h => h20 (getD_was (by decide) h)⟩
      · have q10 := h10 (ready_dep hr (by kernel_rfl))
        have q11 := h11 (ready_dep hr (by kernel_rfl))
        have q12 := h12 (ready_dep hr (by kernel_rfl))
        have q13 := h13 (ready_dep hr (by kernel_rfl))
        have q9 := h9 (ready_dep hr (by kernel_rfl))
        subst q10
        subst q11
        subst q12
        subst q13
        subst q9
        refine wpOp_step rfl (fun K hK => ?_)
        go_simp
        refine (fields_q nd _ addr id inner z w' (HKids.out.keep (Keeps.of_below (HBw.out w' hB))) hwt (HSp.out.keep (HBw.out w' hB)) HZ.out HI.out HHa.out HId.out HIn.out).mono ?_
        rintro e w'' ⟨B1, b1, d1, B2, b2, d2, rfl, hv, hb⟩
        exact hK _ _ ⟨_, _, _, _, _, _, _, _, _, _, _, _, _, _, _, _, _, _, _, _, _, rfl, hB.trans (hb.mono hB.size), fun h => h0 (getD_was (by decide) h), fun h => h1 (getD_was (by decide) h), fun h => h2 (getD_was (by decide) h), fun h => OutV.below (h3 (getD_was (by decide) h)) hb, fun h => h4 (getD_was (by decide) h), fun h => h5 (getD_was (by decide) h), fun h => h6 (getD_was (by decide) h), fun h => OutV.below (h7 (getD_was (by decide) h)) hb, fun h => h8 (getD_was (by decide) h), fun _ => rfl, fun _ => rfl, fun _ => rfl, fun _ => rfl, fun _ => rfl, fun _ => ⟨_, _, _, _, _, _, rfl, hv.keep (KeepsIn.refl _ _) (fun _ _ _ => trivial)⟩, fun h => h15 (getD_was (by decide) h), fun h => h16 (getD_was (by decide) h), fun h => h17 (getD_was (by decide) h), fun h => h18 (getD_was (by decide) h), fun h => OutV.below (h19 (getD_was (by decide) h)) hb, fun h => h20 (getD_was (by decide) h)⟩
      · have q9 := h9 (ready_dep hr (by kernel_rfl))
        subst q9
        have z0 := (HNd2.out.below hB).c 0
        have z1 := (HNd2.out.below hB).c 1
        have z2 := (HNd2.out.below hB).c 2
        have z3 := (HNd2.out.below hB).c 3
        have z4 := (HNd2.out.below hB).c 4
        have z5 := (HNd2.out.below hB).c 5
        have zsh := (HNd2.out.below hB).sh
        simp only [List.getElem?_toArray, List.getElem?_cons_zero, List.getElem?_cons_succ] at z0 z1 z2 z3 z4 z5
        refine wpOp_step rfl (fun K hK => ?_)
        go_simp
        exact hK _ _ ⟨_, _, _, _, _, _, _, _, _, _, _, _, _, _, _, _, _, _, _, _, _, rfl, hB, fun h => h0 (getD_was (by decide) h), fun h => h1 (getD_was (by decide) h), fun h => h2 (getD_was (by decide) h), fun h => h3 (getD_was (by decide) h), fun h => h4 (getD_was (by decide) h), fun h => h5 (getD_was (by decide) h), fun h => h6 (getD_was (by decide) h), fun h => h7 (getD_was (by decide) h), fun h => h8 (getD_was (by decide) h), fun _ => rfl, fun h => h10 (getD_was (by decide) h), fun h => h11 (getD_was (by decide) h), fun h => h12 (getD_was (by decide) h), fun h => h13 (getD_was (by decide) h), fun h => h14 (getD_was (by decide) h), fun _ => rfl, fun h => h16 (getD_was (by decide) h), fun h => h17 (getD_was (by decide) h), fun h => h18 (getD_was (by decide) h), fun h => h19 (getD_was (by decide) h), fun h => h20 (getD_was (by decide) h)⟩
      · have q9 := h9 (ready_dep hr (by kernel_rfl))
        subst q9
        refine wpOp_step rfl (fun K hK => ?_)
        go_simp
        exact hK _ _ ⟨_, _, _, _, _, _, _, _, _, _, _, _, _, _, _, _, _, _, _, _, _, rfl, hB, fun h => h0 (getD_was (by decide) h), fun h => h1 (getD_was (by decide) h), fun h => h2 (getD_was (by decide) h), fun h => h3 (getD_was (by decide) h), fun h => h4 (getD_was (by decide) h), fun h => h5 (getD_was (by decide) h), fun h => h6 (getD_was (by decide) h), fun h => h7 (getD_was (by decide) h), fun h => h8 (getD_was (by decide) h), fun _ => rfl, fun h => h10 (getD_was (by decide) h), fun h => h11 (getD_was (by decide) h), fun h => h12 (getD_was (by decide) h), fun h => h13 (getD_was (by decide) h), fun h => h14 (getD_was (by decide) h), fun h => h15 (getD_was (by decide) h), fun _ => rfl, fun h => h17 (getD_was (by decide) h), fun h => h18 (getD_was (by decide) h), fun h => h19 (getD_was (by decide) h), fun h => h20 (getD_was (by decide) h)⟩
      · have q9 := h9 (ready_dep hr (by kernel_rfl))
        subst q9
        refine wpOp_step rfl (fun K hK => ?_)
        go_simp
        exact hK _ _ ⟨_, _, _, _, _, _, _, _, _, _, _, _, _, _, _, _, _, _, _, _, _, rfl, hB, fun h => h0 (getD_was (by decide) h), fun h => h1 (getD_was (by decide) h), fun h => h2 (getD_was (by decide) h), fun h => h3 (getD_was (by decide) h), fun h => h4 (getD_was (by decide) h), fun h => h5 (getD_was (by decide) h), fun h => h6 (getD_was (by decide) h), fun h => h7 (getD_was (by decide) h), fun h => h8 (getD_was (by decide) h), fun _ => rfl, fun h => h10 (getD_was (by decide) h), fun h => h11 (getD_was (by decide) h), fun h => h12 (getD_was (by decide) h), fun h => h13 (getD_was (by decide) h), fun h => h14 (getD_was (by decide) h), fun h => h15 (getD_was (by decide) h), fun h => h16 (getD_was (by decide) h), fun _ => rfl, fun h => h18 (getD_was (by decide) h), fun h => h19 (getD_was (by decide) h), fun h => h20 (getD_was (by decide) h)⟩
      · have q9 := h9 (ready_dep hr (by kernel_rfl))
        subst q9
        refine wpOp_step rfl (fun K hK => ?_)
        go_simp
        exact hK _ _ ⟨_, _, _, _, _, _, _, _, _, _, _, _, _, _, _, _, _, _, _, _, _, rfl, hB, fun h => h0 (getD_was (by decide) h), fun h => h1 (getD_was (by decide) h), fun h => h2 (getD_was (by decide) h), fun h => h3 (getD_was (by decide) h), fun h => h4 (getD_was (by decide) h), fun h => h5 (getD_was (by decide) h), fun h => h6 (getD_was (by decide) h), fun h => h7 (getD_was (by decide) h), fun h => h8 (getD_was (by decide) h), fun _ => rfl, fun h => h10 (getD_was (by decide) h), fun h => h11 (getD_was (by decide) h), fun h => h12 (getD_was (by decide) h), fun h => h13 (getD_was (by decide) h), fun h => h14 (getD_was (by decide) h), fun h => h15 (getD_was (by decide) h), fun h => h16 (getD_was (by decide) h), fun h => h17 (getD_was (by decide) h), fun _ => rfl, fun h => h19 (getD_was (by decide) h), fun h => h20 (getD_was (by decide) h)⟩
      · have q15 := h15 (ready_dep hr (by kernel_rfl))
        have q16 := h16 (ready_dep hr (by kernel_rfl))
        have q17 := h17 (ready_dep hr (by kernel_rfl))
        have q18 := h18 (ready_dep hr (by kernel_rfl))
        have q9 := h9 (ready_dep hr (by kernel_rfl))
        subst q15
        subst q16
        subst q17
        subst q18
        subst q9
        refine wpOp_step rfl (fun K hK => ?_)
        go_simp
        refine (fieldsOf_z (HKids.out.keep (Keeps.of_below (HBw.out w' hB))) hwt HKl.out HI.out HHa.out HId.out HIn.out HZ2.out).mono ?_
        rintro e w'' ⟨B1, b1, d1, B2, b2, d2, rfl, hv, hb⟩
        exact hK _ _ ⟨_, _, _, _, _, _, _, _, _, _, _, _, _, _, _, _, _, _, _, _, _, rfl, hB.trans (hb.mono hB.size), fun h => h0 (getD_was (by decide) h), fun h => h1 (getD_was (by decide) h), fun h => h2 (getD_was (by decide) h), fun h => OutV.below (h3 (getD_was (by decide) h)) hb, fun h => h4 (getD_was (by decide) h), fun h => h5 (getD_was (by decide) h), fun h => h6 (getD_was (by decide) h), fun h => OutV.below (h7 (getD_was (by decide) h)) hb, fun h => h8 (getD_was (by decide) h), fun _ => rfl, fun h => h10 (getD_was (by decide) h), fun h => h11 (getD_was (by decide) h), fun h => h12 (getD_was (by decide) h), fun h => h13 (getD_was (by decide) h), fun h => OutV.below (h14 (getD_was (by decide) h)) hb, fun _ => rfl, fun _ => rfl, fun _ => rfl, fun _ => rfl, fun _ => ⟨_, _, _, _, _, _, rfl, hv.keep (KeepsIn.refl _ _) (fun _ _ _ => trivial)⟩, fun h => h20 (getD_was (by decide) h)⟩
      · have q14 := h14 (ready_dep hr (by kernel_rfl))
        have q19 := h19 (ready_dep hr (by kernel_rfl))
        have q9 := h9 (ready_dep hr (by kernel_rfl))
        obtain ⟨E14, e14, f14, F14, i14, k14, rfl, hv14⟩ := q14
        obtain ⟨E19, e19, f19, F19, i19, k19, rfl, hv19⟩ := q19
        subst q9
        refine wpOp_step rfl (fun K hK => ?_)
        go_simp
        refine (same_t (hv14) (hv19)).mono ?_
        rintro e w'' ⟨rfl, hb⟩
        exact hK _ _ ⟨_, _, _, _, _, _, _, _, _, _, _, _, _, _, _, _, _, _, _, _, _, rfl, hB.trans (hb.mono hB.size), fun h => h0 (getD_was (by decide) h), fun h => h1 (getD_was (by decide) h), fun h => h2 (getD_was (by decide) h), fun h => OutV.below (h3 (getD_was (by decide) h)) hb, fun h => h4 (getD_was (by decide) h), fun h => h5 (getD_was (by decide) h), fun h => h6 (getD_was (by decide) h), fun h => OutV.below (h7 (getD_was (by decide) h)) hb, fun h => h8 (getD_was (by decide) h), fun _ => rfl, fun h => h10 (getD_was (by decide) h), fun h => h11 (getD_was (by decide) h), fun h => h12 (getD_was (by decide) h), fun h => h13 (getD_was (by decide) h), fun h => OutV.below (h14 (getD_was (by decide) h)) hb, fun h => h15 (getD_was (by decide) h), fun h => h16 (getD_was (by decide) h), fun h => h17 (getD_was (by decide) h), fun h => h18 (getD_was (by decide) h), fun h => OutV.below (h19 (getD_was (by decide) h)) hb, fun _ => rfl⟩
    case last =>
      intro a' w' hI
      obtain ⟨x0, x1, x2, x3, x4, x5, x6, x7, x8, x9, x10, x11, x12, x13, x14, x15, x16, x17, x18, x19, x20, rfl, hB, h0, h1, h2, h3, h4, h5, h6, h7, h8, h9, h10, h11, h12, h13, h14, h15, h16, h17, h18, h19, h20⟩ := hI
      have q9 := h9 rfl
      have q20 := h20 rfl
      clear h0 h1 h2 h3 h4 h5 h6 h7 h8 h9 h10 h11 h12 h13 h14 h15 h16 h17 h18 h19 h20
      subst q9 q20
      refine wpAny_of_seqA 2 21 rfl (by kernel_rfl) ?_
      simp only [List.drop_succ_cons, List.drop_zero]
      have HF := Lib.hid (HBw.out w' hB)
      go_wp2_with fail
      go_ret
      exact ⟨rfl, HF.out⟩
  · have H1 := Lib.hid h1
    obtain ⟨e1, he1⟩ : ∃ e1, docErr [nd] = e1 := ⟨_, rfl⟩
    have hc := (check_any [nd] _ wa HLa.out HT.out.1)
    rw [he1] at hc h1
    have t1 : (e1 == 0) = false := by simpa using h1
    have t1b : (e1 != 0) = true := by simpa using h1
    clear he1
    by_cases h2 : docErr [Node.mk 2 0 ⟨#[]⟩ ⟨#[]⟩ ⟨#[]⟩ [nd]] = 0
    · have H2 := Lib.hid h2
      go_wp2_with (go_at_call 4; refine hc.mono ?_; rintro e w3 ⟨rfl, hb3⟩; have HB3 := Lib.hid hb3; clear hb3 hc)
      have HLp := Lib.hid (show NodesAt (w3.alloc (.cells #[.int .i64 2, .int .i64 0, .string ⟨#[]⟩, .string ⟨#[]⟩, .string ⟨#[]⟩, .slice (some ⟨n + 1 + 1, 0, none⟩) 1 1] 28)) (.slice (some ⟨w3.heap.size, 0, none⟩) 1 1) [Node.mk 2 0 ⟨#[]⟩ ⟨#[]⟩ ⟨#[]⟩ [nd]] from
        nodes_one (nd := Node.mk 2 0 ⟨#[]⟩ ⟨#[]⟩ ⟨#[]⟩ [nd]) (CB.new _ _ _) ((HLa.out.keep (Keeps.of_below HB3.out)).keep (Keeps.alloc _ _)) ⟨i64_2, i64_0, Nat.zero_le _, Nat.zero_le _, Nat.zero_le _⟩)
      have hc2 := (check_any _ _ _ HLp.out HT.out.2)
      rw [H2.out] at hc2
      refine hc2.mono ?_
      rintro e w4 ⟨rfl, hb4⟩
      have HBx := Lib.hid (HB3.out.trans (((Below.refl w3.heap.size w3).alloc (Nat.le_refl _) (.cells #[.int .i64 2, .int .i64 0, .string ⟨#[]⟩, .string ⟨#[]⟩, .string ⟨#[]⟩, .slice (some ⟨n + 1 + 1, 0, none⟩) 1 1] 28)).trans (hb4.mono (by rw [World.size_alloc]; omega)) |>.mono HB3.out.size))
      clear hb4 hc2 h2
      go_wp2_with fail
      have HPtC := Lib.hid (HPta.out.below HBx.out)
      have HNdC := Lib.hid (HNda.out.below HBx.out)
      have HBC := Lib.hid (HBa.out.trans (HBx.out.mono HBa.out.size))
      have HKl := Lib.hid (fun _ : nd.kind = 1 => heading_kidless (Or.inr H2.out))
      obtain ⟨z, hz⟩ : ∃ z, (⟨(lineL nd.kids).toArray⟩ : ByteArray) = z := ⟨_, rfl⟩
      have HZ2 := Lib.hid (fun h : nd.kind = 1 => (show (⟨(plainL 0 nd.kids).toArray⟩ : ByteArray) = z by rw [← hz, heading_line h (Or.inr H2.out)]))
      have HZ := Lib.hid hz
      clear hz
      refine wp_region_any (by kernel_rfl) ?_
      change wpAny _ _ _ _ _ _ _ (World.drew _)
      obtain ⟨W1, hW1⟩ : ∃ W1, w4 = W1 := ⟨_, rfl⟩
      rw [hW1] at HBC HPtC HNdC
      rw [hW1]
      clear hW1
      obtain ⟨W2, hW2⟩ : ∃ W2, W1.drew = W2 := ⟨_, rfl⟩
      have HB2 := Lib.hid (show Below w.heap.size w W2 by rw [← hW2]; exact HBC.out.drew)
      have HPt2 := Lib.hid (show CB W2 n 25 (partC tx nm A ma c en A2 m2 c2) by rw [← hW2]; exact (HPtC.out).drewD)
      have HNd2 := Lib.hid (show CB W2 (n + 1) 28 #[.int .i64 nd.kind, .int .i64 nd.level, .string nd.text, .string nd.dest, .string nd.title, .slice Ak nd.kids.length ck] by rw [← hW2]; exact (HNdC.out).drewD)
      have HBw := Lib.hid (fun (w' : World) (h : Below W2.heap.size W2 w') => (show Below w.heap.size w w' from HB2.out.trans (h.mono HB2.out.size)))
      rw [hW2]
      clear hW2
      refine wpAny_inv [0, 1, 2, 3, 4, 5, 6, 7, 8, 9, 10, 11, 12, 13, 14, 15, 16, 17, 18, 19, 20] (IDots4 (fun v33 v34 v35 v36 v37 v38 v39 v40 v41 v42 v43 v44 v45 v46 v47 v48 v49 v50 v51 v52 v53 => ⟨#[Value.agg #[Value.string tx, Value.string nm, Value.slice A ma c, Value.bool en, Value.slice A2 m2 c2], Value.agg #[Value.int IntKind.i64 nd.kind, Value.int IntKind.i64 nd.level, Value.string nd.text, Value.string nd.dest, Value.string nd.title, Value.slice Ak nd.kids.length ck], Value.string addr, Value.string id, Value.string inner, Value.pointer (some { block := n, off := 0 }), Value.pointer (some { block := n + 1, off := 0 }), undef, undef, undef, Value.bool false, Value.slice (some { block := n + 1 + 1, off := 0 }) 1 1, Value.agg #[Value.int IntKind.i64 nd.kind, Value.int IntKind.i64 nd.level, Value.string nd.text, Value.string nd.dest, Value.string nd.title, Value.slice Ak nd.kids.length ck], Value.slice (some { block := n + 1 + 1, off := 0 }) 1 1, Value.slice (some { block := n + 1 + 1, off := 0 }) 1 1, Value.int IntKind.i64 e1, Value.bool true, Value.bool true, Value.slice (some { block := n + 1 + 1, off := 0 }) 1 1, Value.agg #[Value.int IntKind.i64 2, Value.int IntKind.i64 0, Value.string { data := #[] }, Value.string { data := #[] }, Value.string { data := #[] }, Value.slice (some { block := n + 1 + 1, off := 0 }) 1 1], Value.slice (some { block := w3.heap.size, off := 0 }) 1 1, Value.int IntKind.i64 0, Value.bool false, Value.bool false, undef, undef, undef, undef, undef, undef, undef, undef, undef, v33, v34, v35, v36, v37, v38, v39, v40, v41, v42, v43, v44, v45, v46, v47, v48, v49, v50, v51, v52, v53, undef], []⟩) l tx nm A ma c en A2 m2 c2 addr inner nd Ak ck id z W2) #[true, true, true, true, true, true, true, true, true, true, true, true, true, true, true, true, true, true, true, true, true, false, false] (g := 2) (by kernel_rfl) (by kernel_rfl) (by kernel_rfl) (IDots4.start undef undef undef undef undef undef undef undef undef undef undef undef undef undef undef undef undef undef undef undef undef rfl) ?step ?last
      case step =>
        intro i hi L a' w' hs hr hI
        obtain ⟨x0, x1, x2, x3, x4, x5, x6, x7, x8, x9, x10, x11, x12, x13, x14, x15, x16, x17, x18, x19, x20, rfl, hB, h0, h1, h2, h3, h4, h5, h6, h7, h8, h9, h10, h11, h12, h13, h14, h15, h16, h17, h18, h19, h20⟩ := hI
        simp only [List.mem_cons, List.not_mem_nil, or_false] at hi
        rcases hi with rfl | rfl | rfl | rfl | rfl | rfl | rfl | rfl | rfl | rfl | rfl | rfl | rfl | rfl | rfl | rfl | rfl | rfl | rfl | rfl | rfl
        · have z0 := (HPt2.out.below hB).c 0
          have z1 := (HPt2.out.below hB).c 1
          have z2 := (HPt2.out.below hB).c 2
          have z3 := (HPt2.out.below hB).c 3
          have z4 := (HPt2.out.below hB).c 4
          have zsh := (HPt2.out.below hB).sh
          simp only [partC, List.getElem?_toArray, List.getElem?_cons_zero, List.getElem?_cons_succ] at z0 z1 z2 z3 z4
          refine wpOp_step rfl (fun K hK => ?_)
          go_simp
          exact hK _ _ ⟨_, _, _, _, _, _, _, _, _, _, _, _, _, _, _, _, _, _, _, _, _, rfl, hB, fun _ => rfl, fun h => h1 (getD_was (by decide) h), fun h => h2 (getD_was (by decide) h), fun h => h3 (getD_was (by decide) h), fun h => h4 (getD_was (by decide) h), fun h => h5 (getD_was (by decide) h), fun h => h6 (getD_was (by decide) h), fun h => h7 (getD_was (by decide) h), fun h => h8 (getD_was (by decide) h), fun h => h9 (getD_was (by decide) h), fun h => h10 (getD_was (by decide) h), fun h => h11 (getD_was (by decide) h), fun h => h12 (getD_was (by decide) h), fun h => h13 (getD_was (by decide) h), fun h => h14 (getD_was (by decide) h), fun h => h15 (getD_was (by decide) h), fun h => h16 (getD_was (by decide) h), fun h => h17 (getD_was (by decide) h), fun h => h18 (getD_was (by decide) h), fun h => h19 (getD_was (by decide) h), fun h => h20 (getD_was (by decide) h)⟩
        · refine wpOp_step rfl (fun K hK => ?_)
          go_simp
          exact hK _ _ ⟨_, _, _, _, _, _, _, _, _, _, _, _, _, _, _, _, _, _, _, _, _, rfl, hB, fun h => h0 (getD_was (by decide) h), fun _ => rfl, fun h => h2 (getD_was (by decide) h), fun h => h3 (getD_was (by decide) h), fun h => h4 (getD_was (by decide) h), fun h => h5 (getD_was (by decide) h), fun h => h6 (getD_was (by decide) h), fun h => h7 (getD_was (by decide) h), fun h => h8 (getD_was (by decide) h), fun h => h9 (getD_was (by decide) h), fun h => h10 (getD_was (by decide) h), fun h => h11 (getD_was (by decide) h), fun h => h12 (getD_was (by decide) h), fun h => h13 (getD_was (by decide) h), fun h => h14 (getD_was (by decide) h), fun h => h15 (getD_was (by decide) h), fun h => h16 (getD_was (by decide) h), fun h => h17 (getD_was (by decide) h), fun h => h18 (getD_was (by decide) h), fun h => h19 (getD_was (by decide) h), fun h => h20 (getD_was (by decide) h)⟩
        · refine wpOp_step rfl (fun K hK => ?_)
          go_simp
          exact hK _ _ ⟨_, _, _, _, _, _, _, _, _, _, _, _, _, _, _, _, _, _, _, _, _, rfl, hB, fun h => h0 (getD_was (by decide) h), fun h => h1 (getD_was (by decide) h), fun _ => rfl, fun h => h3 (getD_was (by decide) h), fun h => h4 (getD_was (by decide) h), fun h => h5 (getD_was (by decide) h), fun h => h6 (getD_was (by decide) h), fun h => h7 (getD_was (by decide) h), fun h => h8 (getD_was (by decide) h), fun h => h9 (getD_was (by decide) h), fun h => h10 (getD_was (by decide) h), fun h => h11 (getD_was (by decide) h), fun h => h12 (getD_was (by decide) h), fun h => h13 (getD_was (by decide) h), fun h => h14 (getD_was (by decide) h), fun h => h15 (getD_was (by decide) h), fun h => h16 (getD_was (by decide) h), fun h => h17 (getD_was (by decide) h), fun h => h18 (getD_was (by decide) h), fun h => h19 (getD_was (by decide) h), fun h => h20 (getD_was (by decide) h)⟩
        · have q0 := h0 (ready_dep hr (by kernel_rfl))
          have q1 := h1 (ready_dep hr (by kernel_rfl))
          have q2 := h2 (ready_dep hr (by kernel_rfl))
          subst q0
          subst q1
          subst q2
          refine wpOp_step rfl (fun K hK => ?_)
          go_simp
          refine (dot_q l tx nm A ma c en A2 m2 c2 addr inner w' (HArgs.out.keep (Keeps.of_below (HBw.out w' hB))) hl (HSp.out.keep (HBw.out w' hB)) HHa.out HIn.out).mono ?_
          rintro e w'' ⟨B1, b1, d1, B2, b2, d2, rfl, hv, hb⟩
          exact hK _ _ ⟨_, _, _, _, _, _, _, _, _, _, _, _, _, _, _, _, _, _, _, _, _, rfl, hB.trans (hb.mono hB.size), fun _ => rfl, fun _ => rfl, fun _ => rfl, fun _ => ⟨_, _, _, _, _, _, rfl, hv.keep (KeepsIn.refl _ _) (fun _ _ _ => trivial)⟩, fun h => h4 (getD_was (by decide) h), fun h => h5 (getD_was (by decide) h), fun h => h6 (getD_was (by decide) h), fun h => OutV.below (h7 (getD_was (by decide) h)) hb, fun h => h8 (getD_was (by decide) h), fun h => h9 (getD_was (by decide) h), fun h => h10 (getD_was (by decide) h), fun h => h11 (getD_was (by decide) h), fun h => h12 (getD_was (by decide) h), fun h => h13 (getD_was (by decide) h), fun h => OutV.below (h14 (getD_was (by decide) h)) hb, fun h => h15 (getD_was (by decide) h), fun h => h16 (getD_was (by decide) h), fun h => h17 (getD_was (by decide) h), fun h => h18 (getD_was (by decide) h), fun h => OutV.below (h19 (getD_was (by decide) h)) hb, fun h => h20 (getD_was (by decide) h)⟩
        · have z0 := (HPt2.out.below hB).c 0
          have z1 := (HPt2.out.below hB).c 1
          have z2 := (HPt2.out.below hB).c 2
          have z3 := (HPt2.out.below hB).c 3
          have z4 := (HPt2.out.below hB).c 4
          have zsh := (HPt2.out.below hB).sh
          simp only [partC, List.getElem?_toArray, List.getElem?_cons_zero, List.getElem?_cons_succ] at z0 z1 z2 z3 z4
          refine wpOp_step rfl (fun K hK => ?_)
          go_simp
          exact hK _ _ ⟨_, _, _, _, _, _, _, _, _, _, _, _, _, _, _, _, _, _, _, _, _, rfl, hB, fun h => h0 (getD_was (by decide) h), fun h => h1 (getD_was (by decide) h), fun h => h2 (getD_was (by decide) h), fun h => h3 (getD_was (by decide) h), fun _ => rfl, fun h => h5 (getD_was (by decide) h), fun h => h6 (getD_was (by decide) h), fun h => h7 (getD_was (by decide) h), fun h => h8 (getD_was (by decide) h), fun h => h9 (getD_was (by decide) h), fun h => h10 (getD_was (by decide) h), fun h => h11 (getD_was (by decide) h), fun h => h12 (getD_was (by decide) h), fun h => h13 (getD_was (by decide) h), fun h => h14 (getD_was (by decide) h), fun h => h15 (getD_was (by decide) h), fun h => h16 (getD_was (by decide) h), fun h => h17 (getD_was (by decide) h), fun h => h18 (getD_was (by decide) h), fun h => h19 (getD_was (by decide) h), fun h => h20 (getD_was (by decide) h)⟩
        · refine wpOp_step rfl (fun K hK => ?_)
          go_simp
          exact hK _ _ ⟨_, _, _, _, _, _, _, _, _, _, _, _, _, _, _, _, _, _, _, _, _, rfl, hB, fun h => h0 (getD_was (by decide) h), fun h => h1 (getD_was (by decide) h), fun h => h2 (getD_was (by decide) h), fun h => h3 (getD_was (by decide) h), fun h => h4 (getD_was (by decide) h), fun _ => rfl, fun h => h6 (getD_was (by decide) h), fun h => h7 (getD_was (by decide) h), fun h => h8 (getD_was (by decide) h), fun h => h9 (getD_was (by decide) h), fun h => h10 (getD_was (by decide) h), fun h => h11 (getD_was (by decide) h), fun h => h12 (getD_was (by decide) h), fun h => h13 (getD_was (by decide) h), fun h => h14 (getD_was (by decide) h), fun h => h15 (getD_was (by decide) h), fun h => h16 (getD_was (by decide) h), fun h => h17 (getD_was (by decide) h), fun h => h18 (getD_was (by decide) h), fun h => h19 (getD_was (by decide) h), fun h => h20 (getD_was (by decide) h)⟩
        · refine wpOp_step rfl (fun K hK => ?_)
          go_simp
          exact hK _ _ ⟨_, _, _, _, _, _, _, _, _, _, _, _, _, _, _, _, _, _, _, _, _, rfl, hB, fun h => h0 (getD_was (by decide) h), fun h => h1 (getD_was (by decide) h), fun h => h2 (getD_was (by decide) h), fun h => h3 (getD_was (by decide) h), fun h => h4 (getD_was (by decide) h), fun h => h5 (getD_was (by decide) h), fun _ => rfl, fun h => h7 (getD_was (by decide) h), fun h => h8 (getD_was (by decide) h), fun h => h9 (getD_was (by decide) h), fun h => h10 (getD_was (by decide) h), fun h => h11 (getD_was (by decide) h), fun h => h12 (getD_was (by decide) h), fun h => h13 (getD_was (by decide) h), fun h => h14 (getD_was (by decide) h), fun h => h15 (getD_was (by decide) h), fun h => h16 (getD_was (by decide) h), fun h => h17 (getD_was (by decide) h), fun h => h18 (getD_was (by decide) h), fun h => h19 (getD_was (by decide) h), fun h => h20 (getD_was (by decide) h)⟩
        · have q4 := h4 (ready_dep hr (by kernel_rfl))
          have q5 := h5 (ready_dep hr (by kernel_rfl))
          have q6 := h6 (ready_dep hr (by kernel_rfl))
          subst q4
          subst q5
          subst q6
          refine wpOp_step rfl (fun K hK => ?_)
          go_simp
          refine (dotOf_q l tx nm A ma c en A2 m2 c2 addr inner w' (HArgs.out.keep (Keeps.of_below (HBw.out w' hB))) hl HHa.out HIn.out).mono ?_
          rintro e w'' ⟨B1, b1, d1, B2, b2, d2, rfl, hv, hb⟩
          exact hK _ _ ⟨_, _, _, _, _, _, _, _, _, _, _, _, _, _, _, _, _, _, _, _, _, rfl, hB.trans (hb.mono hB.size), fun h => h0 (getD_was (by decide) h), fun h => h1 (getD_was (by decide) h), fun h => h2 (getD_was (by decide) h), fun h => OutV.below (h3 (getD_was (by decide) h)) hb, fun _ => rfl, fun _ => rfl, fun _ => rfl, fun _ => ⟨_, _, _, _, _, _, rfl, hv.keep (KeepsIn.refl _ _) (fun _ _ _ => trivial)⟩, fun h => h8 (getD_was (by decide) h), fun h => h9 (getD_was (by decide) h), fun h => h10 (getD_was (by decide) h), fun h => h11 (getD_was (by decide) h), fun h => h12 (getD_was (by decide) h), fun h => h13 (getD_was (by decide) h), fun h => OutV.below (h14 (getD_was (by decide) h)) hb, fun h => h15 (getD_was (by decide) h), fun h => h16 (getD_was (by decide) h), fun h => h17 (getD_was (by decide) h), fun h => h18 (getD_was (by decide) h), fun h => OutV.below (h19 (getD_was (by decide) h)) hb, fun h => h20 (getD_was (by decide) h)⟩
        · have q3 := h3 (ready_dep hr (by kernel_rfl))
          have q7 := h7 (ready_dep hr (by kernel_rfl))
          obtain ⟨E3, e3, f3, F3, i3, k3, rfl, hv3⟩ := q3
          obtain ⟨E7, e7, f7, F7, i7, k7, rfl, hv7⟩ := q7
          refine wpOp_step rfl (fun K hK => ?_)
          go_simp
          refine (same_t (hv3) (hv7)).mono ?_
          rintro e w'' ⟨rfl, hb⟩
          exact hK _ _ ⟨_, _, _, _, _, _, _, _, _, _, _, _, _, _, _, _, _, _, _, _, _, rfl, hB.trans (hb.mono hB.size), fun h => h0 (getD_was (by decide) h), fun h => h1 (getD_was (by decide) h), fun h => h2 (getD_was (by decide) h), fun h => OutV.below (h3 (getD_was (by decide) h)) hb, fun h => h4 (getD_was (by decide) h), fun h => h5 (getD_was (by decide) h), fun h => h6 (getD_was (by decide) h), fun h => OutV.below (h7 (getD_was (by decide) h)) hb, fun _ => rfl, fun h => h9 (getD_was (by decide) h), fun h => h10 (getD_was (by decide) h), fun h => h11 (getD_was (by decide) h), fun h => h12 (getD_was (by decide) h), fun h => h13 (getD_was (by decide) h), fun h => OutV.below (h14 (getD_was (by decide) h)) hb, fun h => h15 (getD_was (by decide) h), fun h => h16 (getD_was (by decide) h), fun h => h17 (getD_was (by decide) h), fun h => h18 (getD_was (by decide) h), fun h => OutV.below (h19 (getD_was (by decide) h)) hb, fun h => h20 (getD_was (by decide) h)⟩
        · have q8 := h8 (ready_dep hr (by kernel_rfl))
          subst q8
          refine wpOp_step rfl (fun K hK => ?_)
          go_simp
          exact hK _ _ ⟨_, _, _, _, _, _, _, _, _, _, _, _, _, _, _, _, _, _, _, _, _, rfl, hB, fun h => h0 (getD_was (by decide) h), fun h => h1 (getD_was (by decide) h), fun h => h2 (getD_was (by decide) h), fun h => h3 (getD_was (by decide) h), fun h => h4 (getD_was (by decide) h), fun h => h5 (getD_was (by decide) h), fun h => h6 (getD_was (by decide) h), fun h => h7 (getD_was (by decide) h), fun _ => rfl, fun _ => rfl, fun h => h10 (getD_was (by decide) h), fun h => h11 (getD_was (by decide) h), fun h => h12 (getD_was (by decide) h), fun h => h13 (getD_was (by decide) h), fun h => h14 (getD_was (by decide) h), fun h => h15 (getD_was (by decide) h), fun h => h16 (getD_was (by decide) h), fun h => h17 (getD_was (by decide) h), fun h => h18 (getD_was (by decide) h), fun h => h19 (getD_was (by decide) h), fun h => h20 (getD_was (by decide) h)⟩
        · have q9 := h9 (ready_dep hr (by kernel_rfl))
          subst q9
          have z0 := (HNd2.out.below hB).c 0
          have z1 := (HNd2.out.below hB).c 1
          have z2 := (HNd2.out.below hB).c 2
          have z3 := (HNd2.out.below hB).c 3
          have z4 := (HNd2.out.below hB).c 4
          have z5 := (HNd2.out.below hB).c 5
          have zsh := (HNd2.out.below hB).sh
          simp only [List.getElem?_toArray, List.getElem?_cons_zero, List.getElem?_cons_succ] at z0 z1 z2 z3 z4 z5
          refine wpOp_step rfl (fun K hK => ?_)
          go_simp
          exact hK _ _ ⟨_, _, _, _, _, _, _, _, _, _, _, _, _, _, _, _, _, _, _, _, _, rfl, hB, fun h => h0 (getD_was (by decide) h), fun h => h1 (getD_was (by decide) h), fun h => h2 (getD_was (by decide) h), fun h => h3 (getD_was (by decide) h), fun h => h4 (getD_was (by decide) h), fun h => h5 (getD_was (by decide) h), fun h => h6 (getD_was (by decide) h), fun h => h7 (getD_was (by decide) h), fun h => h8 (getD_was (by decide) h), fun _ => rfl, fun _ => rfl, fun h => h11 (getD_was (by decide) h), fun h => h12 (getD_was (by decide) h), fun h => h13 (getD_was (by decide) h), fun h => h14 (getD_was (by decide) h), fun h => h15 (getD_was (by decide) h), fun h => h16 (getD_was (by decide) h), fun h => h17 (getD_was (by decide) h), fun h => h18 (getD_was (by decide) h), fun h => h19 (getD_was (by decide) h), fun h => h20 (getD_was (by decide) h)⟩
        · have q9 := h9 (ready_dep hr (by kernel_rfl))
          subst q9
          refine wpOp_step rfl (fun K hK => ?_)
          go_simp
          exact hK _ _ ⟨_, _, _, _, _, _, _, _, _, _, _, _, _, _, _, _, _, _, _, _, _, rfl, hB, fun h => h0 (getD_was (by decide) h), fun h => h1 (getD_was (by decide) h), fun h => h2 (getD_was (by decide) h), fun h => h3 (getD_was (by decide) h), fun h => h4 (getD_was (by decide) h), fun h => h5 (getD_was (by decide) h), fun h => h6 (getD_was (by decide) h), fun h => h7 (getD_was (by decide) h), fun h => h8 (getD_was (by decide) h), fun _ => rfl, fun h => h10 (getD_was (by decide) h), fun _ => rfl, fun h => h12 (getD_was (by decide) h), fun h => h13 (getD_was (by decide) h), fun h => h14 (getD_was (by decide) h), fun h => h15 (getD_was (by decide) h), fun h => h16 (getD_was (by decide) h), fun h => h17 (getD_was (by decide) h), fun h => h18 (getD_was (by decide) h), fun h => h19 (getD_was (by decide) h), fun h => h20 (getD_was (by decide) h)⟩
        · have q9 := h9 (ready_dep hr (by kernel_rfl))
          subst q9
          refine wpOp_step rfl (fun K hK => ?_)
          go_simp
          exact hK _ _ ⟨_, _, _, _, _, _, _, _, _, _, _, _, _, _, _, _, _, _, _, _, _, rfl, hB, fun h => h0 (getD_was (by decide) h), fun h => h1 (getD_was (by decide) h), fun h => h2 (getD_was (by decide) h), fun h => h3 (getD_was (by decide) h), fun h => h4 (getD_was (by decide) h), fun h => h5 (getD_was (by decide) h), fun h => h6 (getD_was (by decide) h), fun h => h7 (getD_was (by decide) h), fun h => h8 (getD_was (by decide) h), fun _ => rfl, fun h => h10 (getD_was (by decide) h), fun h => h11 (getD_was (by decide) h), fun _ => rfl, fun h => h13 (getD_was (by decide) h), fun h => h14 (getD_was (by decide) h), fun h => h15 (getD_was (by decide) h), fun h => h16 (getD_was (by decide) h), fun h => h17 (getD_was (by decide) h), fun h => h18 (getD_was (by decide) h), fun h => h19 (getD_was (by decide) h), fun h => h20 (getD_was (by decide) h)⟩
        · have q9 := h9 (ready_dep hr (by kernel_rfl))
          subst q9
          refine wpOp_step rfl (fun K hK => ?_)
          go_simp
          exact hK _ _ ⟨_, _, _, _, _, _, _, _, _, _, _, _, _, _, _, _, _, _, _, _, _, rfl, hB, fun h => h0 (getD_was (by decide) h), fun h => h1 (getD_was (by decide) h), fun h => h2 (getD_was (by decide) h), fun h => h3 (getD_was (by decide) h), fun h => h4 (getD_was (by decide) h), fun h => h5 (getD_was (by decide) h), fun h => h6 (getD_was (by decide) h), fun h => h7 (getD_was (by decide) h), fun h => h8 (getD_was (by decide) h), fun _ => rfl, fun h => h10 (getD_was (by decide) h), fun h => h11 (getD_was (by decide) h), fun h => h12 (getD_was (by decide) h), fun _ => rfl, fun h => h14 (getD_was (by decide) h), fun h => h15 (getD_was (by decide) h), fun h => h16 (getD_was (by decide) h), fun h => h17 (getD_was (by decide) h), fun h => h18 (getD_was (by decide) h), fun h => h19 (getD_was (by decide) h), fun h => h20 (getD_was (by decide) h)⟩
        · have q10 := h10 (ready_dep hr (by kernel_rfl))
          have q11 := h11 (ready_dep hr (by kernel_rfl))
          have q12 := h12 (ready_dep hr (by kernel_rfl))
          have q13 := h13 (ready_dep hr (by kernel_rfl))
          have q9 := h9 (ready_dep hr (by kernel_rfl))
          subst q10
          subst q11
          subst q12
          subst q13
          subst q9
          refine wpOp_step rfl (fun K hK => ?_)
          go_simp
          refine (fields_q nd _ addr id inner z w' (HKids.out.keep (Keeps.of_below (HBw.out w' hB))) hwt (HSp.out.keep (HBw.out w' hB)) HZ.out HI.out HHa.out HId.out HIn.out).mono ?_
          rintro e w'' ⟨B1, b1, d1, B2, b2, d2, rfl, hv, hb⟩
          exact hK _ _ ⟨_, _, _, _, _, _, _, _, _, _, _, _, _, _, _, _, _, _, _, _, _, rfl, hB.trans (hb.mono hB.size), fun h => h0 (getD_was (by decide) h), fun h => h1 (getD_was (by decide) h), fun h => h2 (getD_was (by decide) h), fun h => OutV.below (h3 (getD_was (by decide) h)) hb, fun h => h4 (getD_was (by decide) h), fun h => h5 (getD_was (by decide) h), fun h => h6 (getD_was (by decide) h), fun h => OutV.below (h7 (getD_was (by decide) h)) hb, fun h => h8 (getD_was (by decide) h), fun _ => rfl, fun _ => rfl, fun _ => rfl, fun _ => rfl, fun _ => rfl, fun _ => ⟨_, _, _, _, _, _, rfl, hv.keep (KeepsIn.refl _ _) (fun _ _ _ => trivial)⟩, fun h => h15 (getD_was (by decide) h), fun h => h16 (getD_was (by decide) h), fun h => h17 (getD_was (by decide) h), fun h => h18 (getD_was (by decide) h), fun h => OutV.below (h19 (getD_was (by decide) h)) hb, fun h => h20 (getD_was (by decide) h)⟩
        · have q9 := h9 (ready_dep hr (by kernel_rfl))
          subst q9
          have z0 := (HNd2.out.below hB).c 0
          have z1 := (HNd2.out.below hB).c 1
          have z2 := (HNd2.out.below hB).c 2
          have z3 := (HNd2.out.below hB).c 3
          have z4 := (HNd2.out.below hB).c 4
          have z5 := (HNd2.out.below hB).c 5
          have zsh := (HNd2.out.below hB).sh
          simp only [List.getElem?_toArray, List.getElem?_cons_zero, List.getElem?_cons_succ] at z0 z1 z2 z3 z4 z5
          refine wpOp_step rfl (fun K hK => ?_)
          go_simp
          exact hK _ _ ⟨_, _, _, _, _, _, _, _, _, _, _, _, _, _, _, _, _, _, _, _, _, rfl, hB, fun h => h0 (getD_was (by decide) h), fun h => h1 (getD_was (by decide) h), fun h => h2 (getD_was (by decide) h), fun h => h3 (getD_was (by decide) h), fun h => h4 (getD_was (by decide) h), fun h => h5 (getD_was (by decide) h), fun h => h6 (getD_was (by decide) h), fun h => h7 (getD_was (by decide) h), fun h => h8 (getD_was (by decide) h), fun _ => rfl, fun h => h10 (getD_was (by decide) h), fun h => h11 (getD_was (by decide) h), fun h => h12 (getD_was (by decide) h), fun h => h13 (getD_was (by decide) h), fun h => h14 (getD_was (by decide) h), fun _ => rfl, fun h => h16 (getD_was (by decide) h), fun h => h17 (getD_was (by decide) h), fun h => h18 (getD_was (by decide) h), fun h => h19 (getD_was (by decide) h), fun h => h20 (getD_was (by decide) h)⟩
        · have q9 := h9 (ready_dep hr (by kernel_rfl))
          subst q9
          refine wpOp_step rfl (fun K hK => ?_)
          go_simp
          exact hK _ _ ⟨_, _, _, _, _, _, _, _, _, _, _, _, _, _, _, _, _, _, _, _, _, rfl, hB, fun h => h0 (getD_was (by decide) h), fun h => h1 (getD_was (by decide) h), fun h => h2 (getD_was (by decide) h), fun h => h3 (getD_was (by decide) h), fun h => h4 (getD_was (by decide) h), fun h => h5 (getD_was (by decide) h), fun h => h6 (getD_was (by decide) h), fun h => h7 (getD_was (by decide) h), fun h => h8 (getD_was (by decide) h), fun _ => rfl, fun h => h10 (getD_was (by decide) h), fun h => h11 (getD_was (by decide) h), fun h => h12 (getD_was (by decide) h), fun h => h13 (getD_was (by decide) h), fun h => h14 (getD_was (by decide) h), fun h => h15 (getD_was (by decide) h), fun _ => rfl, fun h => h17 (getD_was (by decide) h), fun h => h18 (getD_was (by decide) h), fun h => h19 (getD_was (by decide) h), fun h => h20 (getD_was (by decide) h)⟩
        · have q9 := h9 (ready_dep hr (by kernel_rfl))
          subst q9
          refine wpOp_step rfl (fun K hK => ?_)
          go_simp
          exact hK _ _ ⟨_, _, _, _, _, _, _, _, _, _, _, _, _, _, _, _, _, _, _, _, _, rfl, hB, fun h => h0 (getD_was (by decide) h), fun h => h1 (getD_was (by decide) h), fun h => h2 (getD_was (by decide) h), fun h => h3 (getD_was (by decide) h), fun h => h4 (getD_was (by decide) h), fun h => h5 (getD_was (by decide) h), fun h => h6 (getD_was (by decide) h), fun h => h7 (getD_was (by decide) h), fun h => h8 (getD_was (by decide) h), fun _ => rfl, fun h => h10 (getD_was (by decide) h), fun h => h11 (getD_was (by decide) h), fun h => h12 (getD_was (by decide) h), fun h => h13 (getD_was (by decide) h), fun h => h14 (getD_was (by decide) h), fun h => h15 (getD_was (by decide) h), fun h => h16 (getD_was (by decide) h), fun _ => rfl, fun h => h18 (getD_was (by decide) h), fun h => h19 (getD_was (by decide) h), fun h => h20 (getD_was (by decide) h)⟩
        · have q9 := h9 (ready_dep hr (by kernel_rfl))
          subst q9
          refine wpOp_step rfl (fun K hK => ?_)
          go_simp
          exact hK _ _ ⟨_, _, _, _, _, _, _, _, _, _, _, _, _, _, _, _, _, _, _, _, _, rfl, hB, fun h => h0 (getD_was (by decide) h), fun h => h1 (getD_was (by decide) h), fun h => h2 (getD_was (by decide) h), fun h => h3 (getD_was (by decide) h), fun h => h4 (getD_was (by decide) h), fun h => h5 (getD_was (by decide) h), fun h => h6 (getD_was (by decide) h), fun h => h7 (getD_was (by decide) h), fun h => h8 (getD_was (by decide) h), fun _ => rfl, fun h => h10 (getD_was (by decide) h), fun h => h11 (getD_was (by decide) h), fun h => h12 (getD_was (by decide) h), fun h => h13 (getD_was (by decide) h), fun h => h14 (getD_was (by decide) h), fun h => h15 (getD_was (by decide) h), fun h => h16 (getD_was (by decide) h), fun h => h17 (getD_was (by decide) h), fun _ => rfl, fun h => h19 (getD_was (by decide) h), fun h => h20 (getD_was (by decide) h)⟩
        · have q15 := h15 (ready_dep hr (by kernel_rfl))
          have q16 := h16 (ready_dep hr (by kernel_rfl))
          have q17 := h17 (ready_dep hr (by kernel_rfl))
          have q18 := h18 (ready_dep hr (by kernel_rfl))
          have q9 := h9 (ready_dep hr (by kernel_rfl))
          subst q15
          subst q16
          subst q17
          subst q18
          subst q9
          refine wpOp_step rfl (fun K hK => ?_)
          go_simp
          refine (fieldsOf_z (HKids.out.keep (Keeps.of_below (HBw.out w' hB))) hwt HKl.out HI.out HHa.out HId.out HIn.out HZ2.out).mono ?_
          rintro e w'' ⟨B1, b1, d1, B2, b2, d2, rfl, hv, hb⟩
          exact hK _ _ ⟨_, _, _, _, _, _, _, _, _, _, _, _, _, _, _, _, _, _, _, _, _, rfl, hB.trans (hb.mono hB.size), fun h => h0 (getD_was (by decide) h), fun h => h1 (getD_was (by decide) h), fun h => h2 (getD_was (by decide) h), fun h => OutV.below (h3 (getD_was (by decide) h)) hb, fun h => h4 (getD_was (by decide) h), fun h => h5 (getD_was (by decide) h), fun h => h6 (getD_was (by decide) h), fun h => OutV.below (h7 (getD_was (by decide) h)) hb, fun h => h8 (getD_was (by decide) h), fun _ => rfl, fun h => h10 (getD_was (by decide) h), fun h => h11 (getD_was (by decide) h), fun h => h12 (getD_was (by decide) h), fun h => h13 (getD_was (by decide) h), fun h => OutV.below (h14 (getD_was (by decide) h)) hb, fun _ => rfl, fun _ => rfl, fun _ => rfl, fun _ => rfl, fun _ => ⟨_, _, _, _, _, _, rfl, hv.keep (KeepsIn.refl _ _) (fun _ _ _ => trivial)⟩, fun h => h20 (getD_was (by decide) h)⟩
        · have q14 := h14 (ready_dep hr (by kernel_rfl))
          have q19 := h19 (ready_dep hr (by kernel_rfl))
          have q9 := h9 (ready_dep hr (by kernel_rfl))
          obtain ⟨E14, e14, f14, F14, i14, k14, rfl, hv14⟩ := q14
          obtain ⟨E19, e19, f19, F19, i19, k19, rfl, hv19⟩ := q19
          subst q9
          refine wpOp_step rfl (fun K hK => ?_)
          go_simp
          refine (same_t (hv14) (hv19)).mono ?_
          rintro e w'' ⟨rfl, hb⟩
          exact hK _ _ ⟨_, _, _, _, _, _, _, _, _, _, _, _, _, _, _, _, _, _, _, _, _, rfl, hB.trans (hb.mono hB.size), fun h => h0 (getD_was (by decide) h), fun h => h1 (getD_was (by decide) h), fun h => h2 (getD_was (by decide) h), fun h => OutV.below (h3 (getD_was (by decide) h)) hb, fun h => h4 (getD_was (by decide) h), fun h => h5 (getD_was (by decide) h), fun h => h6 (getD_was (by decide) h), fun h => OutV.below (h7 (getD_was (by decide) h)) hb, fun h => h8 (getD_was (by decide) h), fun _ => rfl, fun h => h10 (getD_was (by decide) h), fun h => h11 (getD_was (by decide) h), fun h => h12 (getD_was (by decide) h), fun h => h13 (getD_was (by decide) h), fun h => OutV.below (h14 (getD_was (by decide) h)) hb, fun h => h15 (getD_was (by decide) h), fun h => h16 (getD_was (by decide) h), fun h => h17 (getD_was (by decide) h), fun h => h18 (getD_was (by decide) h), fun h => OutV.below (h19 (getD_was (by decide) h)) hb, fun _ => rfl⟩
      case last =>
        intro a' w' hI
        obtain ⟨x0, x1, x2, x3, x4, x5, x6, x7, x8, x9, x10, x11, x12, x13, x14, x15, x16, x17, x18, x19, x20, rfl, hB, h0, h1, h2, h3, h4, h5, h6, h7, h8, h9, h10, h11, h12, h13, h14, h15, h16, h17, h18, h19, h20⟩ := hI
        have q9 := h9 rfl
        have q20 := h20 rfl
        clear h0 h1 h2 h3 h4 h5 h6 h7 h8 h9 h10 h11 h12 h13 h14 h15 h16 h17 h18 h19 h20
        subst q9 q20
        refine wpAny_of_seqA 2 21 rfl (by kernel_rfl) ?_
        simp only [List.drop_succ_cons, List.drop_zero]
        have HF := Lib.hid (HBw.out w' hB)
        go_wp2_with fail
        go_ret
        exact ⟨rfl, HF.out⟩
    · have H2 := Lib.hid h2
      obtain ⟨e2, he2⟩ : ∃ e2, docErr [Node.mk 2 0 ⟨#[]⟩ ⟨#[]⟩ ⟨#[]⟩ [nd]] = e2 := ⟨_, rfl⟩
      rw [he2] at h2
      have t2 : (e2 == 0) = false := by simpa using h2
      have t2b : (e2 != 0) = true := by simpa using h2
      go_wp2_with (go_at_call 4; refine hc.mono ?_; rintro e w3 ⟨rfl, hb3⟩; have HB3 := Lib.hid hb3; clear hb3 hc)
      have HLp := Lib.hid (show NodesAt (w3.alloc (.cells #[.int .i64 2, .int .i64 0, .string ⟨#[]⟩, .string ⟨#[]⟩, .string ⟨#[]⟩, .slice (some ⟨n + 1 + 1, 0, none⟩) 1 1] 28)) (.slice (some ⟨w3.heap.size, 0, none⟩) 1 1) [Node.mk 2 0 ⟨#[]⟩ ⟨#[]⟩ ⟨#[]⟩ [nd]] from
        nodes_one (nd := Node.mk 2 0 ⟨#[]⟩ ⟨#[]⟩ ⟨#[]⟩ [nd]) (CB.new _ _ _) ((HLa.out.keep (Keeps.of_below HB3.out)).keep (Keeps.alloc _ _)) ⟨i64_2, i64_0, Nat.zero_le _, Nat.zero_le _, Nat.zero_le _⟩)
      have hc2 := (check_any _ _ _ HLp.out HT.out.2)
      rw [he2] at hc2
      clear he2
      refine hc2.mono ?_
      rintro e w4 ⟨rfl, hb4⟩
      have HBx := Lib.hid (HB3.out.trans (((Below.refl w3.heap.size w3).alloc (Nat.le_refl _) (.cells #[.int .i64 2, .int .i64 0, .string ⟨#[]⟩, .string ⟨#[]⟩, .string ⟨#[]⟩, .slice (some ⟨n + 1 + 1, 0, none⟩) 1 1] 28)).trans (hb4.mono (by rw [World.size_alloc]; omega)) |>.mono HB3.out.size))
      clear hb4 hc2
      go_wp2_with fail
      have HPtC := Lib.hid (HPta.out.below HBx.out)
      have HNdC := Lib.hid (HNda.out.below HBx.out)
      have HBC := Lib.hid (HBa.out.trans (HBx.out.mono HBa.out.size))
      refine wp_region_any (by kernel_rfl) ?_
      change wpAny _ _ _ _ _ _ _ (World.drew _)
      obtain ⟨W1, hW1⟩ : ∃ W1, w4 = W1 := ⟨_, rfl⟩
      rw [hW1] at HBC HPtC HNdC
      rw [hW1]
      clear hW1
      obtain ⟨W2, hW2⟩ : ∃ W2, W1.drew = W2 := ⟨_, rfl⟩
      have HB2 := Lib.hid (show Below w.heap.size w W2 by rw [← hW2]; exact HBC.out.drew)
      have HPt2 := Lib.hid (show CB W2 n 25 (partC tx nm A ma c en A2 m2 c2) by rw [← hW2]; exact (HPtC.out).drewD)
      have HNd2 := Lib.hid (show CB W2 (n + 1) 28 #[.int .i64 nd.kind, .int .i64 nd.level, .string nd.text, .string nd.dest, .string nd.title, .slice Ak nd.kids.length ck] by rw [← hW2]; exact (HNdC.out).drewD)
      have HBw := Lib.hid (fun (w' : World) (h : Below W2.heap.size W2 w') => (show Below w.heap.size w w' from HB2.out.trans (h.mono HB2.out.size)))
      rw [hW2]
      clear hW2
      refine wpAny_inv [0, 1, 2, 3, 4, 5, 6, 7, 8] (IDots3 (fun v24 v25 v26 v27 v28 v29 v30 v31 v32 => ⟨#[Value.agg #[Value.string tx, Value.string nm, Value.slice A ma c, Value.bool en, Value.slice A2 m2 c2], Value.agg #[Value.int IntKind.i64 nd.kind, Value.int IntKind.i64 nd.level, Value.string nd.text, Value.string nd.dest, Value.string nd.title, Value.slice Ak nd.kids.length ck], Value.string addr, Value.string id, Value.string inner, Value.pointer (some { block := n, off := 0 }), Value.pointer (some { block := n + 1, off := 0 }), undef, undef, undef, Value.bool false, Value.slice (some { block := n + 1 + 1, off := 0 }) 1 1, Value.agg #[Value.int IntKind.i64 nd.kind, Value.int IntKind.i64 nd.level, Value.string nd.text, Value.string nd.dest, Value.string nd.title, Value.slice Ak nd.kids.length ck], Value.slice (some { block := n + 1 + 1, off := 0 }) 1 1, Value.slice (some { block := n + 1 + 1, off := 0 }) 1 1, Value.int IntKind.i64 e1, Value.bool true, Value.bool true, Value.slice (some { block := n + 1 + 1, off := 0 }) 1 1, Value.agg #[Value.int IntKind.i64 2, Value.int IntKind.i64 0, Value.string { data := #[] }, Value.string { data := #[] }, Value.string { data := #[] }, Value.slice (some { block := n + 1 + 1, off := 0 }) 1 1], Value.slice (some { block := w3.heap.size, off := 0 }) 1 1, Value.int IntKind.i64 e2, Value.bool true, Value.bool true, v24, v25, v26, v27, v28, v29, v30, v31, v32, undef, undef, undef, undef, undef, undef, undef, undef, undef, undef, undef, undef, undef, undef, undef, undef, undef, undef, undef, undef, undef, undef], []⟩) l tx nm A ma c en A2 m2 c2 addr inner W2) #[true, true, true, true, true, true, true, true, true, false] (g := 1) (by kernel_rfl) (by kernel_rfl) (by kernel_rfl) (IDots3.start undef undef undef undef undef undef undef undef undef rfl) ?step ?last
      case step =>
        intro i hi L a' w' hs hr hI
        obtain ⟨x0, x1, x2, x3, x4, x5, x6, x7, x8, rfl, hB, h0, h1, h2, h3, h4, h5, h6, h7, h8⟩ := hI
        simp only [List.mem_cons, List.not_mem_nil, or_false] at hi
        rcases hi with rfl | rfl | rfl | rfl | rfl | rfl | rfl | rfl | rfl
        · have z0 := (HPt2.out.below hB).c 0
          have z1 := (HPt2.out.below hB).c 1
          have z2 := (HPt2.out.below hB).c 2
          have z3 := (HPt2.out.below hB).c 3
          have z4 := (HPt2.out.below hB).c 4
          have zsh := (HPt2.out.below hB).sh
          simp only [partC, List.getElem?_toArray, List.getElem?_cons_zero, List.getElem?_cons_succ] at z0 z1 z2 z3 z4
          refine wpOp_step rfl (fun K hK => ?_)
          go_simp
          exact hK _ _ ⟨_, _, _, _, _, _, _, _, _, rfl, hB, fun _ => rfl, fun h => h1 (getD_was (by decide) h), fun h => h2 (getD_was (by decide) h), fun h => h3 (getD_was (by decide) h), fun h => h4 (getD_was (by decide) h), fun h => h5 (getD_was (by decide) h), fun h => h6 (getD_was (by decide) h), fun h => h7 (getD_was (by decide) h), fun h => h8 (getD_was (by decide) h)⟩
        · refine wpOp_step rfl (fun K hK => ?_)
          go_simp
          exact hK _ _ ⟨_, _, _, _, _, _, _, _, _, rfl, hB, fun h => h0 (getD_was (by decide) h), fun _ => rfl, fun h => h2 (getD_was (by decide) h), fun h => h3 (getD_was (by decide) h), fun h => h4 (getD_was (by decide) h), fun h => h5 (getD_was (by decide) h), fun h => h6 (getD_was (by decide) h), fun h => h7 (getD_was (by decide) h), fun h => h8 (getD_was (by decide) h)⟩
        · refine wpOp_step rfl (fun K hK => ?_)
          go_simp
          exact hK _ _ ⟨_, _, _, _, _, _, _, _, _, rfl, hB, fun h => h0 (getD_was (by decide) h), fun h => h1 (getD_was (by decide) h), fun _ => rfl, fun h => h3 (getD_was (by decide) h), fun h => h4 (getD_was (by decide) h), fun h => h5 (getD_was (by decide) h), fun h => h6 (getD_was (by decide) h), fun h => h7 (getD_was (by decide) h), fun h => h8 (getD_was (by decide) h)⟩
        · have q0 := h0 (ready_dep hr (by kernel_rfl))
          have q1 := h1 (ready_dep hr (by kernel_rfl))
          have q2 := h2 (ready_dep hr (by kernel_rfl))
          subst q0
          subst q1
          subst q2
          refine wpOp_step rfl (fun K hK => ?_)
          go_simp
          refine (dot_q l tx nm A ma c en A2 m2 c2 addr inner w' (HArgs.out.keep (Keeps.of_below (HBw.out w' hB))) hl (HSp.out.keep (HBw.out w' hB)) HHa.out HIn.out).mono ?_
          rintro e w'' ⟨B1, b1, d1, B2, b2, d2, rfl, hv, hb⟩
          exact hK _ _ ⟨_, _, _, _, _, _, _, _, _, rfl, hB.trans (hb.mono hB.size), fun _ => rfl, fun _ => rfl, fun _ => rfl, fun _ => ⟨_, _, _, _, _, _, rfl, hv.keep (KeepsIn.refl _ _) (fun _ _ _ => trivial)⟩, fun h => h4 (getD_was (by decide) h), fun h => h5 (getD_was (by decide) h), fun h => h6 (getD_was (by decide) h), fun h => OutV.below (h7 (getD_was (by decide) h)) hb, fun h => h8 (getD_was (by decide) h)⟩
        · have z0 := (HPt2.out.below hB).c 0
          have z1 := (HPt2.out.below hB).c 1
          have z2 := (HPt2.out.below hB).c 2
          have z3 := (HPt2.out.below hB).c 3
          have z4 := (HPt2.out.below hB).c 4
          have zsh := (HPt2.out.below hB).sh
          simp only [partC, List.getElem?_toArray, List.getElem?_cons_zero, List.getElem?_cons_succ] at z0 z1 z2 z3 z4
          refine wpOp_step rfl (fun K hK => ?_)
          go_simp
          exact hK _ _ ⟨_, _, _, _, _, _, _, _, _, rfl, hB, fun h => h0 (getD_was (by decide) h), fun h => h1 (getD_was (by decide) h), fun h => h2 (getD_was (by decide) h), fun h => h3 (getD_was (by decide) h), fun _ => rfl, fun h => h5 (getD_was (by decide) h), fun h => h6 (getD_was (by decide) h), fun h => h7 (getD_was (by decide) h), fun h => h8 (getD_was (by decide) h)⟩
        · refine wpOp_step rfl (fun K hK => ?_)
          go_simp
          exact hK _ _ ⟨_, _, _, _, _, _, _, _, _, rfl, hB, fun h => h0 (getD_was (by decide) h), fun h => h1 (getD_was (by decide) h), fun h => h2 (getD_was (by decide) h), fun h => h3 (getD_was (by decide) h), fun h => h4 (getD_was (by decide) h), fun _ => rfl, fun h => h6 (getD_was (by decide) h), fun h => h7 (getD_was (by decide) h), fun h => h8 (getD_was (by decide) h)⟩
        · refine wpOp_step rfl (fun K hK => ?_)
          go_simp
          exact hK _ _ ⟨_, _, _, _, _, _, _, _, _, rfl, hB, fun h => h0 (getD_was (by decide) h), fun h => h1 (getD_was (by decide) h), fun h => h2 (getD_was (by decide) h), fun h => h3 (getD_was (by decide) h), fun h => h4 (getD_was (by decide) h), fun h => h5 (getD_was (by decide) h), fun _ => rfl, fun h => h7 (getD_was (by decide) h), fun h => h8 (getD_was (by decide) h)⟩
        · have q4 := h4 (ready_dep hr (by kernel_rfl))
          have q5 := h5 (ready_dep hr (by kernel_rfl))
          have q6 := h6 (ready_dep hr (by kernel_rfl))
          subst q4
          subst q5
          subst q6
          refine wpOp_step rfl (fun K hK => ?_)
          go_simp
          refine (dotOf_q l tx nm A ma c en A2 m2 c2 addr inner w' (HArgs.out.keep (Keeps.of_below (HBw.out w' hB))) hl HHa.out HIn.out).mono ?_
          rintro e w'' ⟨B1, b1, d1, B2, b2, d2, rfl, hv, hb⟩
          exact hK _ _ ⟨_, _, _, _, _, _, _, _, _, rfl, hB.trans (hb.mono hB.size), fun h => h0 (getD_was (by decide) h), fun h => h1 (getD_was (by decide) h), fun h => h2 (getD_was (by decide) h), fun h => OutV.below (h3 (getD_was (by decide) h)) hb, fun _ => rfl, fun _ => rfl, fun _ => rfl, fun _ => ⟨_, _, _, _, _, _, rfl, hv.keep (KeepsIn.refl _ _) (fun _ _ _ => trivial)⟩, fun h => h8 (getD_was (by decide) h)⟩
        · have q3 := h3 (ready_dep hr (by kernel_rfl))
          have q7 := h7 (ready_dep hr (by kernel_rfl))
          obtain ⟨E3, e3, f3, F3, i3, k3, rfl, hv3⟩ := q3
          obtain ⟨E7, e7, f7, F7, i7, k7, rfl, hv7⟩ := q7
          refine wpOp_step rfl (fun K hK => ?_)
          go_simp
          refine (same_t (hv3) (hv7)).mono ?_
          rintro e w'' ⟨rfl, hb⟩
          exact hK _ _ ⟨_, _, _, _, _, _, _, _, _, rfl, hB.trans (hb.mono hB.size), fun h => h0 (getD_was (by decide) h), fun h => h1 (getD_was (by decide) h), fun h => h2 (getD_was (by decide) h), fun h => OutV.below (h3 (getD_was (by decide) h)) hb, fun h => h4 (getD_was (by decide) h), fun h => h5 (getD_was (by decide) h), fun h => h6 (getD_was (by decide) h), fun h => OutV.below (h7 (getD_was (by decide) h)) hb, fun _ => rfl⟩
      case last =>
        intro a' w' hI
        obtain ⟨x0, x1, x2, x3, x4, x5, x6, x7, x8, rfl, hB, h0, h1, h2, h3, h4, h5, h6, h7, h8⟩ := hI
        have q8 := h8 rfl
        clear h0 h1 h2 h3 h4 h5 h6 h7 h8
        subst q8
        refine wpAny_of_seqA 1 9 rfl (by kernel_rfl) ?_
        simp only [List.drop_succ_cons, List.drop_zero]
        have HF := Lib.hid (HBw.out w' hB)
        go_wp2_with fail
        go_ret
        exact ⟨rfl, HF.out⟩


end Go.Proofs.YtphmhhonbkcajaaDoor
