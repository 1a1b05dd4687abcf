/-
  The reference's HTML of blocks.
-/
import Derived.Test.YtikijmjcmpkkdaaGreatDoorHtmlInl
import Derived.Test.YtikijmjcmpkkdaaGreatDoorPlainOf
import Derived.RegionTactic
import Derived.Test.YtikijmjcmpkkdaaGreatDoorRegInv
import Derived.Test.YtikijmjcmpkkdaaGreatDoorHtmlDoc
namespace Go.Proofs.YtikijmjcmpkkdaaGreatDoor
open Go.RowKit Go.Deep

theorem strRes_is {f : FuncId} {args : Array Value} {w : World} {bs : List UInt8} {z : ByteArray} (h : Calls Tryz.prog f args w (StrRes w bs)) (hz : (⟨bs.toArray⟩ : ByteArray) = z) : Calls Tryz.prog f args w fun e w' => e = .returned (.string z) ∧ Below w.heap.size w w' :=
  h.mono fun e w' ⟨s2, h1, h2, h3⟩ => ⟨by rw [h1, bytes_ext (show s2.data.toList = z.data.toList by rw [h2, ← hz])], h3⟩
theorem titl_size (s z : ByteArray) (h : (⟨(titlH s.data.toList).toArray⟩ : ByteArray) = z) : z.size ≤ 6 * s.size + 9 := by
  subst h
  have := titlH_le s.data.toList
  rw [size_toList] at this
  exact this
theorem destz_size (s z : ByteArray) (h : (⟨(destH s.data.toList).toArray⟩ : ByteArray) = z) : z.size ≤ 6 * s.size + 1 := by
  subst h
  have := destH_le s.data.toList
  rw [size_toList] at this
  exact this


def InvL (fr : Value → Value → Value → Value → Value → Value → Value → Value → Value → Value → Value → Value → Value → Value → Value → Value → Value → Value → Act) (s zd zi ik : ByteArray) (n : Node) (p A3 : Option Addr) (c3 g : Nat) (W1 : World) (L : Array Bool) (a : Act) (w : World) : Prop :=
  ∃ x0 x1 x2 x3 x4 x5 x6 x7 x8 x9 x10 x11 x12 x13 x14 x15 x16 x17 : Value, a = fr x0 x1 x2 x3 x4 x5 x6 x7 x8 x9 x10 x11 x12 x13 x14 x15 x16 x17 ∧ Below W1.heap.size W1 w ∧ (L.getD 0 false = true → x0 = .string s) ∧ (L.getD 1 false = true → x1 = .pointer (some ⟨g, 3, none⟩)) ∧ (L.getD 2 false = true → x2 = .string n.dest) ∧ (L.getD 3 false = true → x3 = .string zd) ∧ (L.getD 4 false = true → x4 = .string ((⟨#[60, 97, 32, 104, 114, 101, 102, 61, 34]⟩ : ByteArray) ++ zd)) ∧ (L.getD 5 false = true → x5 = .string ((⟨#[60, 97, 32, 104, 114, 101, 102, 61, 34]⟩ : ByteArray) ++ zd ++ (⟨#[34]⟩ : ByteArray))) ∧ (L.getD 6 false = true → x6 = .pointer (some ⟨g, 4, none⟩)) ∧ (L.getD 7 false = true → x7 = .string n.title) ∧ (L.getD 8 false = true → x8 = .string zi) ∧ (L.getD 9 false = true → x9 = .string ((⟨#[60, 97, 32, 104, 114, 101, 102, 61, 34]⟩ : ByteArray) ++ zd ++ (⟨#[34]⟩ : ByteArray) ++ zi)) ∧ (L.getD 10 false = true → x10 = .string ((⟨#[60, 97, 32, 104, 114, 101, 102, 61, 34]⟩ : ByteArray) ++ zd ++ (⟨#[34]⟩ : ByteArray) ++ zi ++ (⟨#[62]⟩ : ByteArray))) ∧ (L.getD 11 false = true → x11 = .pointer p) ∧ (L.getD 12 false = true → x12 = .pointer (some ⟨g, 5, none⟩)) ∧ (L.getD 13 false = true → x13 = .slice A3 n.kids.length c3) ∧ (L.getD 14 false = true → x14 = .string ik) ∧ (L.getD 15 false = true → x15 = .string ((⟨#[60, 97, 32, 104, 114, 101, 102, 61, 34]⟩ : ByteArray) ++ zd ++ (⟨#[34]⟩ : ByteArray) ++ zi ++ (⟨#[62]⟩ : ByteArray) ++ ik)) ∧ (L.getD 16 false = true → x16 = .string ((⟨#[60, 97, 32, 104, 114, 101, 102, 61, 34]⟩ : ByteArray) ++ zd ++ (⟨#[34]⟩ : ByteArray) ++ zi ++ (⟨#[62]⟩ : ByteArray) ++ ik ++ (⟨#[60, 47, 97, 62]⟩ : ByteArray))) ∧ (L.getD 17 false = true → x17 = .string (s ++ ((⟨#[60, 97, 32, 104, 114, 101, 102, 61, 34]⟩ : ByteArray) ++ zd ++ (⟨#[34]⟩ : ByteArray) ++ zi ++ (⟨#[62]⟩ : ByteArray) ++ ik ++ (⟨#[60, 47, 97, 62]⟩ : ByteArray))))
theorem InvL.start {m : Nat} {fr : Value → Value → Value → Value → Value → Value → Value → Value → Value → Value → Value → Value → Value → Value → Value → Value → Value → Value → Act} {s zd zi ik : ByteArray} {n : Node} {p A3 : Option Addr} {c3 g : Nat} {W1 : World} {a : Act} (x0 x1 x2 x3 x4 x5 x6 x7 x8 x9 x10 x11 x12 x13 x14 x15 x16 x17 : Value) (h : a = fr x0 x1 x2 x3 x4 x5 x6 x7 x8 x9 x10 x11 x12 x13 x14 x15 x16 x17) : InvL fr s zd zi ik n p A3 c3 g W1 (Array.replicate m false) a W1 :=
  ⟨x0, x1, x2, x3, x4, x5, x6, x7, x8, x9, x10, x11, x12, x13, x14, x15, x16, x17, h, Below.refl _ _, (fun h => by rw [getD_replicate_false] at h; cases h), (fun h => by rw [getD_replicate_false] at h; cases h), (fun h => by rw [getD_replicate_false] at h; cases h), (fun h => by rw [getD_replicate_false] at h; cases h), (fun h => by rw [getD_replicate_false] at h; cases h), (fun h => by rw [getD_replicate_false] at h; cases h), (fun h => by rw [getD_replicate_false] at h; cases h), (fun h => by rw [getD_replicate_false] at h; cases h), (fun h => by rw [getD_replicate_false] at h; cases h), (fun h => by rw [getD_replicate_false] at h; cases h), (fun h => by rw [getD_replicate_false] at h; cases h), (fun h => by rw [getD_replicate_false] at h; cases h), (fun h => by rw [getD_replicate_false] at h; cases h), (fun h => by rw [getD_replicate_false] at h; cases h), (fun h => by rw [getD_replicate_false] at h; cases h), (fun h => by rw [getD_replicate_false] at h; cases h), (fun h => by rw [getD_replicate_false] at h; cases h), (fun h => by rw [getD_replicate_false] at h; cases h)⟩

def InvI (fr : Value → Value → Value → Value → Value → Value → Value → Value → Value → Value → Value → Value → Value → Value → Value → Value → Value → Act) (s zd zi zt : ByteArray) (n : Node) (g : Nat) (W1 : World) (L : Array Bool) (a : Act) (w : World) : Prop :=
  ∃ x0 x1 x2 x3 x4 x5 x6 x7 x8 x9 x10 x11 x12 x13 x14 x15 x16 : Value, a = fr x0 x1 x2 x3 x4 x5 x6 x7 x8 x9 x10 x11 x12 x13 x14 x15 x16 ∧ Below W1.heap.size W1 w ∧ (L.getD 0 false = true → x0 = .string s) ∧ (L.getD 1 false = true → x1 = .pointer (some ⟨g, 3, none⟩)) ∧ (L.getD 2 false = true → x2 = .string n.dest) ∧ (L.getD 3 false = true → x3 = .string zd) ∧ (L.getD 4 false = true → x4 = .string ((⟨#[60, 105, 109, 103, 32, 115, 114, 99, 61, 34]⟩ : ByteArray) ++ zd)) ∧ (L.getD 5 false = true → x5 = .string ((⟨#[60, 105, 109, 103, 32, 115, 114, 99, 61, 34]⟩ : ByteArray) ++ zd ++ (⟨#[34, 32, 97, 108, 116, 61, 34]⟩ : ByteArray))) ∧ (L.getD 6 false = true → x6 = .pointer (some ⟨g, 2, none⟩)) ∧ (L.getD 7 false = true → x7 = .string n.text) ∧ (L.getD 8 false = true → x8 = .string zt) ∧ (L.getD 9 false = true → x9 = .string ((⟨#[60, 105, 109, 103, 32, 115, 114, 99, 61, 34]⟩ : ByteArray) ++ zd ++ (⟨#[34, 32, 97, 108, 116, 61, 34]⟩ : ByteArray) ++ zt)) ∧ (L.getD 10 false = true → x10 = .string ((⟨#[60, 105, 109, 103, 32, 115, 114, 99, 61, 34]⟩ : ByteArray) ++ zd ++ (⟨#[34, 32, 97, 108, 116, 61, 34]⟩ : ByteArray) ++ zt ++ (⟨#[34]⟩ : ByteArray))) ∧ (L.getD 11 false = true → x11 = .pointer (some ⟨g, 4, none⟩)) ∧ (L.getD 12 false = true → x12 = .string n.title) ∧ (L.getD 13 false = true → x13 = .string zi) ∧ (L.getD 14 false = true → x14 = .string ((⟨#[60, 105, 109, 103, 32, 115, 114, 99, 61, 34]⟩ : ByteArray) ++ zd ++ (⟨#[34, 32, 97, 108, 116, 61, 34]⟩ : ByteArray) ++ zt ++ (⟨#[34]⟩ : ByteArray) ++ zi)) ∧ (L.getD 15 false = true → x15 = .string ((⟨#[60, 105, 109, 103, 32, 115, 114, 99, 61, 34]⟩ : ByteArray) ++ zd ++ (⟨#[34, 32, 97, 108, 116, 61, 34]⟩ : ByteArray) ++ zt ++ (⟨#[34]⟩ : ByteArray) ++ zi ++ (⟨#[62]⟩ : ByteArray))) ∧ (L.getD 16 false = true → x16 = .string (s ++ ((⟨#[60, 105, 109, 103, 32, 115, 114, 99, 61, 34]⟩ : ByteArray) ++ zd ++ (⟨#[34, 32, 97, 108, 116, 61, 34]⟩ : ByteArray) ++ zt ++ (⟨#[34]⟩ : ByteArray) ++ zi ++ (⟨#[62]⟩ : ByteArray))))
theorem InvI.start {m : Nat} {fr : Value → Value → Value → Value → Value → Value → Value → Value → Value → Value → Value → Value → Value → Value → Value → Value → Value → Act} {s zd zi zt : ByteArray} {n : Node} {g : Nat} {W1 : World} {a : Act} (x0 x1 x2 x3 x4 x5 x6 x7 x8 x9 x10 x11 x12 x13 x14 x15 x16 : Value) (h : a = fr x0 x1 x2 x3 x4 x5 x6 x7 x8 x9 x10 x11 x12 x13 x14 x15 x16) : InvI fr s zd zi zt n g W1 (Array.replicate m false) a W1 :=
  ⟨x0, x1, x2, x3, x4, x5, x6, x7, x8, x9, x10, x11, x12, x13, x14, x15, x16, h, Below.refl _ _, (fun h => by rw [getD_replicate_false] at h; cases h), (fun h => by rw [getD_replicate_false] at h; cases h), (fun h => by rw [getD_replicate_false] at h; cases h), (fun h => by rw [getD_replicate_false] at h; cases h), (fun h => by rw [getD_replicate_false] at h; cases h), (fun h => by rw [getD_replicate_false] at h; cases h), (fun h => by rw [getD_replicate_false] at h; cases h), (fun h => by rw [getD_replicate_false] at h; cases h), (fun h => by rw [getD_replicate_false] at h; cases h), (fun h => by rw [getD_replicate_false] at h; cases h), (fun h => by rw [getD_replicate_false] at h; cases h), (fun h => by rw [getD_replicate_false] at h; cases h), (fun h => by rw [getD_replicate_false] at h; cases h), (fun h => by rw [getD_replicate_false] at h; cases h), (fun h => by rw [getD_replicate_false] at h; cases h), (fun h => by rw [getD_replicate_false] at h; cases h), (fun h => by rw [getD_replicate_false] at h; cases h)⟩


set_option maxRecDepth 100000 in
set_option maxHeartbeats 8000000 in
theorem rinl_any (p : Option Addr) (N : Nat) : ∀ (l : List Node) (v : Value) (w : World), SizeOf.sizeOf l ≤ N → NodesAt w v l → weight l ≤ 1048576 →
    Calls Tryz.prog 79 #[.pointer p, v] w (StrRes w (inlL l)) := by
  induction N with
  | zero =>
    intro l v w hN
    cases l <;> simp at hN
  | succ N ih =>
    intro l v w hN h ht
    obtain ⟨An, c, bl, o, kv, rfl, hlc, hc, hA, hcell, hkid⟩ := h.inv
    unfold maxLen at hc
    have HCell := Lib.hid hcell; clear hcell
    have HKid := Lib.hid hkid; clear hkid
    have HN := Lib.hid hN; clear hN
    have HI := Lib.hid ih; clear ih
    clear h
    go_enter Tryz.func79, Tryz.ntmps79
    go_wp2_with fail
    go_loopw [5, 10] (fun t0 t wr => ∃ (k : Nat) (s : ByteArray), k ≤ l.length ∧ t = .int .i64 k ∧ t0 = .string s ∧ Hid (s.data.toList = inlL (l.take k)) ∧ Hid (Below w.heap.size w wr)) (fun _ t _ => l.length - (intOf t).toNat)
    case atStart => exact ⟨0, ⟨#[]⟩, Nat.zero_le _, rfl, rfl, (show _ = _ by rw [List.take_zero, inlL_nil]), Below.refl _ _⟩
    case round =>
      obtain ⟨k, s, hk, rfl, rfl, hcs, hbel⟩ := hrel
      by_cases hlt : k < l.length
      · have hA' := hA (by rintro rfl; simp at hlt)
        subst hA'
        obtain ⟨n, hn⟩ : ∃ n, l[k]? = some n := ⟨_, List.getElem?_eq_getElem hlt⟩
        obtain ⟨p0, p1, p2, p3, p4, p5, _, _, _, _, _⟩ := (HCell.out k n hn).keep (Keeps.of_below hbel.out)
        have bb := World.block_lt_of_cell? _ _ p5
        simp only at bb
        have hkid := HKid.out k n hn
        obtain ⟨A3, c3, b3, o3, k3, e3, _, _, _, _, _⟩ := hkid.inv
        rw [e3] at hkid p5
        have HKd := Lib.hid ((hkid.keep (Keeps.of_below hbel.out)).keep (Keeps.alloc _ (nodeBox n (.slice A3 n.kids.length c3)))); clear hkid
        have HSz := Lib.hid (size_at HN.out hn)
        have hwt := weight_take hn
        have hsl : s.size ≤ 64 * weight (l.take k) := by rw [← size_toList, hcs.out]; exact inl_len _
        have hss : s.size ≤ 67108864 := by omega
        have hwk : weight n.kids ≤ 1048576 := by omega
        have hts : n.text.size ≤ 1048576 := by omega
        have hds : n.dest.size ≤ 1048576 := by omega
        have his : n.title.size ≤ 1048576 := by omega
        have HTk := Lib.hid (show inlL (l.take (k + 1)) = s.data.toList ++ inl1 n by rw [inlL_take hn, ← hcs.out])
        have hB := hbel.out.size
        have hil := inl_len n.kids
        have hil2 : (inlL n.kids).length ≤ 67108864 := by omega
        have HIl := Lib.hid hil2
        clear hn hA e3 hwt hsl hil hil2
        have HB0 := Lib.hid (hbel.out.alloc hB (nodeBox n (.slice A3 n.kids.length c3)))
        have C0 := Lib.hid (show CB (wr.alloc (nodeBox n (.slice A3 n.kids.length c3))) wr.heap.size 45 (nodeC n (.slice A3 n.kids.length c3)) from CB.new _ _ _)
        obtain ⟨zt, hzt⟩ : ∃ z : ByteArray, (⟨(escL n.text.data.toList).toArray⟩ : ByteArray) = z := ⟨_, rfl⟩
        have hzts := esc_size n.text zt hzt
        have HZt := Lib.hid (show escL n.text.data.toList = zt.data.toList by rw [← hzt])
        have HEt := Lib.hid (fun w => escaped_q2 n.text zt w hzt (by omega))
        obtain ⟨zd, hzd⟩ : ∃ z : ByteArray, (⟨(destH n.dest.data.toList).toArray⟩ : ByteArray) = z := ⟨_, rfl⟩
        have hzds := destz_size n.dest zd hzd
        have HZd := Lib.hid (show destH n.dest.data.toList = zd.data.toList by rw [← hzd])
        have HEd := Lib.hid (fun w => safeDest_q n.dest zd w hds hzd)
        obtain ⟨zi, hzi⟩ : ∃ z : ByteArray, (⟨(titlH n.title.data.toList).toArray⟩ : ByteArray) = z := ⟨_, rfl⟩
        have hzis := titl_size n.title zi hzi
        have HZi := Lib.hid (show titlH n.title.data.toList = zi.data.toList by rw [← hzi])
        have HEi := Lib.hid (fun w => titled_q n.title zi w his hzi)
        clear hzt hzd hzi
        have hx : n.kind = 11 ∨ n.kind = 12 ∨ n.kind = 13 ∨ n.kind = 14 ∨ n.kind = 15 ∨ n.kind = 16 ∨ n.kind = 17 ∨ n.kind = 18 ∨ (n.kind ≠ 11 ∧ n.kind ≠ 12 ∧ n.kind ≠ 13 ∧ n.kind ≠ 14 ∧ n.kind ≠ 15 ∧ n.kind ≠ 16 ∧ n.kind ≠ 17 ∧ n.kind ≠ 18) := by omega
        rcases hx with hx | hx | hx | hx | hx | hx | hx | hx | hx
        · have HPN := Lib.hid (show inl1 n = _ from inl_11 hx)
          have t11 : (n.kind == 11) = true := by simp; omega
          have t12 : (n.kind == 12) = false := by simp; omega
          have t13 : (n.kind == 13) = false := by simp; omega
          have t14 : (n.kind == 14) = false := by simp; omega
          have t15 : (n.kind == 15) = false := by simp; omega
          have t16 : (n.kind == 16) = false := by simp; omega
          have t17 : (n.kind == 17) = false := by simp; omega
          have t18 : (n.kind == 18) = false := by simp; omega
          clear hx
          go_wp2_with (go_at_call 78; go_must (refine (HEt.out _).mono ?_); rintro e w2 ⟨rfl, hw2⟩; obtain rfl := hw2)
          go_roundw
          case rel => exact ⟨k + 1, _, by omega, by go_num, rfl, (by show _ = _; rw [HTk.out, HPN.out]; simp [HZt.out]), HB0⟩
          case measure => simp [intOf]; omega
        · have HPN := Lib.hid (show inl1 n = _ from inl_12 hx)
          have t11 : (n.kind == 11) = false := by simp; omega
          have t12 : (n.kind == 12) = true := by simp; omega
          have t13 : (n.kind == 13) = false := by simp; omega
          have t14 : (n.kind == 14) = false := by simp; omega
          have t15 : (n.kind == 15) = false := by simp; omega
          have t16 : (n.kind == 16) = false := by simp; omega
          have t17 : (n.kind == 17) = false := by simp; omega
          have t18 : (n.kind == 18) = false := by simp; omega
          clear hx
          go_wp2_with fail
          go_roundw
          case rel => exact ⟨k + 1, _, by omega, by go_num, rfl, (by show _ = _; rw [HTk.out, HPN.out]; simp [hNl]), HB0⟩
          case measure => simp [intOf]; omega
        · have HPN := Lib.hid (show inl1 n = _ from inl_13 hx)
          have t11 : (n.kind == 11) = false := by simp; omega
          have t12 : (n.kind == 12) = false := by simp; omega
          have t13 : (n.kind == 13) = true := by simp; omega
          have t14 : (n.kind == 14) = false := by simp; omega
          have t15 : (n.kind == 15) = false := by simp; omega
          have t16 : (n.kind == 16) = false := by simp; omega
          have t17 : (n.kind == 17) = false := by simp; omega
          have t18 : (n.kind == 18) = false := by simp; omega
          clear hx
          go_wp2_with fail
          go_roundw
          case rel => exact ⟨k + 1, _, by omega, by go_num, rfl, (by show _ = _; rw [HTk.out, HPN.out]; simp [hBr]), HB0⟩
          case measure => simp [intOf]; omega
        · have HPN := Lib.hid (show inl1 n = _ from inl_14 hx)
          have t11 : (n.kind == 11) = false := by simp; omega
          have t12 : (n.kind == 12) = false := by simp; omega
          have t13 : (n.kind == 13) = false := by simp; omega
          have t14 : (n.kind == 14) = true := by simp; omega
          have t15 : (n.kind == 15) = false := by simp; omega
          have t16 : (n.kind == 16) = false := by simp; omega
          have t17 : (n.kind == 17) = false := by simp; omega
          have t18 : (n.kind == 18) = false := by simp; omega
          clear hx
          go_wp2_with fail
          go_must (refine (HI.out n.kids _ _ HSz.out HKd.out hwk).mono ?_)
          rintro e w2 ⟨s2, rfl, hs2, hb2⟩
          have hsz2 : s2.size ≤ 67108864 := by rw [← size_toList, hs2]; exact HIl.out
          have HS2 := Lib.hid hs2; clear hs2
          have HB2 := Lib.hid (HB0.out.trans (hb2.mono HB0.out.size)); clear hb2
          go_wp2_with fail
          go_roundw
          case rel => exact ⟨k + 1, _, by omega, by go_num, rfl, (by show _ = _; rw [HTk.out, HPN.out]; simp [hEm1, hEm2, HS2.out]), HB2⟩
          case measure => simp [intOf]; omega
        · have HPN := Lib.hid (show inl1 n = _ from inl_15 hx)
          have t11 : (n.kind == 11) = false := by simp; omega
          have t12 : (n.kind == 12) = false := by simp; omega
          have t13 : (n.kind == 13) = false := by simp; omega
          have t14 : (n.kind == 14) = false := by simp; omega
          have t15 : (n.kind == 15) = true := by simp; omega
          have t16 : (n.kind == 16) = false := by simp; omega
          have t17 : (n.kind == 17) = false := by simp; omega
          have t18 : (n.kind == 18) = false := by simp; omega
          clear hx
          go_wp2_with fail
          go_must (refine (HI.out n.kids _ _ HSz.out HKd.out hwk).mono ?_)
          rintro e w2 ⟨s2, rfl, hs2, hb2⟩
          have hsz2 : s2.size ≤ 67108864 := by rw [← size_toList, hs2]; exact HIl.out
          have HS2 := Lib.hid hs2; clear hs2
          have HB2 := Lib.hid (HB0.out.trans (hb2.mono HB0.out.size)); clear hb2
          go_wp2_with fail
          go_roundw
          case rel => exact ⟨k + 1, _, by omega, by go_num, rfl, (by show _ = _; rw [HTk.out, HPN.out]; simp [hSt1, hSt2, HS2.out]), HB2⟩
          case measure => simp [intOf]; omega
        · have HPN := Lib.hid (show inl1 n = _ from inl_16 hx)
          have t11 : (n.kind == 11) = false := by simp; omega
          have t12 : (n.kind == 12) = false := by simp; omega
          have t13 : (n.kind == 13) = false := by simp; omega
          have t14 : (n.kind == 14) = false := by simp; omega
          have t15 : (n.kind == 15) = false := by simp; omega
          have t16 : (n.kind == 16) = true := by simp; omega
          have t17 : (n.kind == 17) = false := by simp; omega
          have t18 : (n.kind == 18) = false := by simp; omega
          clear hx
          go_wp2_with (go_at_call 78; go_must (refine (HEt.out _).mono ?_); rintro e w2 ⟨rfl, hw2⟩; obtain rfl := hw2)
          go_roundw
          case rel => exact ⟨k + 1, _, by omega, by go_num, rfl, (by show _ = _; rw [HTk.out, HPN.out]; simp [hCo1, hCo2, HZt.out]), HB0⟩
          case measure => simp [intOf]; omega
        · have HPN := Lib.hid (show inl1 n = _ from inl_17 hx)
          have t11 : (n.kind == 11) = false := by simp; omega
          have t12 : (n.kind == 12) = false := by simp; omega
          have t13 : (n.kind == 13) = false := by simp; omega
          have t14 : (n.kind == 14) = false := by simp; omega
          have t15 : (n.kind == 15) = false := by simp; omega
          have t16 : (n.kind == 16) = false := by simp; omega
          have t17 : (n.kind == 17) = true := by simp; omega
          have t18 : (n.kind == 18) = false := by simp; omega
          clear hx
          go_wp2_with fail
          obtain ⟨ik, hik⟩ : ∃ z : ByteArray, (⟨(inlL n.kids).toArray⟩ : ByteArray) = z := ⟨_, rfl⟩
          have hiks : ik.size ≤ 67108864 := by rw [← hik]; exact HIl.out
          have HIkl := Lib.hid (show inlL n.kids = ik.data.toList by rw [← hik])
          have HIk := Lib.hid (fun (w : World) (h : NodesAt w (.slice A3 n.kids.length c3) n.kids) => strRes_is (HI.out n.kids _ w HSz.out h hwk) hik)
          clear hik
          refine wp_region_any (by kernel_rfl) ?_
          change wpAny _ _ _ _ _ _ _ (wr.alloc (nodeBox n (.slice A3 n.kids.length c3))).drew
          obtain ⟨g, hg⟩ : ∃ g, wr.heap.size = g := ⟨_, rfl⟩
          obtain ⟨W2, hW2⟩ : ∃ W2, (wr.alloc (nodeBox n (.slice A3 n.kids.length c3))).drew = W2 := ⟨_, rfl⟩
          have C2 := Lib.hid (show CB W2 g 45 (nodeC n (.slice A3 n.kids.length c3)) by rw [← hW2, ← hg]; exact C0.out.drew)
          have HKd2 := Lib.hid (show NodesAt W2 (.slice A3 n.kids.length c3) n.kids by rw [← hW2]; exact HKd.out.keep (Keeps.of_below (Below.refl _ _).drew))
          have HBW := Lib.hid (show Below w.heap.size w W2 by rw [← hW2]; exact HB0.out.drew)
          rw [hW2, hg]
          clear hW2 hg C0 HKd p0 p1 p2 p3 p4 p5 bb
          refine wpAny_inv [0, 1, 2, 3, 4, 5, 6, 7, 8, 9, 10, 11, 12, 13, 14, 15, 16, 17] (InvL (fun v62 v63 v64 v65 v66 v67 v68 v69 v70 v71 v72 v73 v74 v75 v76 v77 v78 v79 => ⟨#[.pointer p, .slice (some ⟨bl, o, none⟩) l.length c, undef, undef, .string ⟨#[]⟩, .string s, undef, .pointer (some ⟨g, 0, none⟩), .slice (some ⟨bl, o, none⟩) l.length c, .int .i64 ↑l.length, .int .i64 ↑k, .bool true, .pointer (some ⟨bl, o + k * 6, none⟩), .agg #[.int .i64 n.kind, .int .i64 n.level, .string n.text, .string n.dest, .string n.title, .slice A3 n.kids.length c3], .pointer (some ⟨g, 0, none⟩), .int .i64 n.kind, .bool false, .bool false, u18, u19, u20, u21, u22, .bool false, .bool false, u25, u26, .bool false, .bool false, u29, u30, .bool false, .bool false, u33, u34, u35, u36, u37, u38, u39, u40, .bool false, .bool false, u43, u44, u45, u46, u47, u48, u49, u50, .bool false, .bool false, u53, u54, u55, u56, u57, u58, u59, .bool true, .bool true, v62, v63, v64, v65, v66, v67, v68, v69, v70, v71, v72, v73, v74, v75, v76, v77, v78, v79, u80, u81, u82, u83, u84, u85, u86, u87, u88, u89, u90, u91, u92, u93, u94, u95, u96, u97, u98, u99, undef], []⟩) s zd zi ik n p A3 c3 g W2) #[true, true, true, true, true, true, true, true, true, true, true, true, true, true, true, true, true, true, false] (g := 1) (by kernel_rfl) (by kernel_rfl) (by kernel_rfl) (InvL.start u62 u63 u64 u65 u66 u67 u68 u69 u70 u71 u72 u73 u74 u75 u76 u77 u78 u79 rfl) ?step ?last
          case step =>
            intro i hi L a' w' hs hr hI
            obtain ⟨x0, x1, x2, x3, x4, x5, x6, x7, x8, x9, x10, x11, x12, x13, x14, x15, x16, x17, rfl, hB, h0, h1, h2, h3, h4, h5, h6, h7, h8, h9, h10, h11, h12, h13, h14, h15, h16, h17⟩ := hI
            simp only [List.mem_cons, List.not_mem_nil, or_false] at hi
            rcases hi with rfl | rfl | rfl | rfl | rfl | rfl | rfl | rfl | rfl | rfl | rfl | rfl | rfl | rfl | rfl | rfl | rfl | rfl
            · refine wpOp_step rfl (fun K hK => ?_)
              go_simp
              exact hK _ _ ⟨_, _, _, _, _, _, _, _, _, _, _, _, _, _, _, _, _, _, rfl, hB, fun _ => rfl, fun h => h1 (getD_was (by decide) h), fun h => h2 (getD_was (by decide) h), fun h => h3 (getD_was (by decide) h), fun h => h4 (getD_was (by decide) h), fun h => h5 (getD_was (by decide) h), fun h => h6 (getD_was (by decide) h), fun h => h7 (getD_was (by decide) h), fun h => h8 (getD_was (by decide) h), fun h => h9 (getD_was (by decide) h), fun h => h10 (getD_was (by decide) h), fun h => h11 (getD_was (by decide) h), fun h => h12 (getD_was (by decide) h), fun h => h13 (getD_was (by decide) h), fun h => h14 (getD_was (by decide) h), fun h => h15 (getD_was (by decide) h), fun h => h16 (getD_was (by decide) h), fun h => h17 (getD_was (by decide) h)⟩
            · refine wpOp_step rfl (fun K hK => ?_)
              go_simp
              exact hK _ _ ⟨_, _, _, _, _, _, _, _, _, _, _, _, _, _, _, _, _, _, rfl, hB, fun h => h0 (getD_was (by decide) h), fun _ => rfl, fun h => h2 (getD_was (by decide) h), fun h => h3 (getD_was (by decide) h), fun h => h4 (getD_was (by decide) h), fun h => h5 (getD_was (by decide) h), fun h => h6 (getD_was (by decide) h), fun h => h7 (getD_was (by decide) h), fun h => h8 (getD_was (by decide) h), fun h => h9 (getD_was (by decide) h), fun h => h10 (getD_was (by decide) h), fun h => h11 (getD_was (by decide) h), fun h => h12 (getD_was (by decide) h), fun h => h13 (getD_was (by decide) h), fun h => h14 (getD_was (by decide) h), fun h => h15 (getD_was (by decide) h), fun h => h16 (getD_was (by decide) h), fun h => h17 (getD_was (by decide) h)⟩
            · have q1 := h1 (ready_dep hr (by kernel_rfl))
              subst q1
              have z := (C2.out.below hB).six.2.2.2.1
              refine wpOp_step rfl (fun K hK => ?_)
              go_simp
              exact hK _ _ ⟨_, _, _, _, _, _, _, _, _, _, _, _, _, _, _, _, _, _, rfl, hB, fun h => h0 (getD_was (by decide) h), fun _ => rfl, fun _ => rfl, fun h => h3 (getD_was (by decide) h), fun h => h4 (getD_was (by decide) h), fun h => h5 (getD_was (by decide) h), fun h => h6 (getD_was (by decide) h), fun h => h7 (getD_was (by decide) h), fun h => h8 (getD_was (by decide) h), fun h => h9 (getD_was (by decide) h), fun h => h10 (getD_was (by decide) h), fun h => h11 (getD_was (by decide) h), fun h => h12 (getD_was (by decide) h), fun h => h13 (getD_was (by decide) h), fun h => h14 (getD_was (by decide) h), fun h => h15 (getD_was (by decide) h), fun h => h16 (getD_was (by decide) h), fun h => h17 (getD_was (by decide) h)⟩
            · have q2 := h2 (ready_dep hr (by kernel_rfl))
              subst q2
              refine wpOp_step rfl (fun K hK => ?_)
              go_simp
              refine (HEd.out _).mono ?_
              rintro e w'' ⟨rfl, hb⟩
              exact hK _ _ ⟨_, _, _, _, _, _, _, _, _, _, _, _, _, _, _, _, _, _, rfl, hB.trans (hb.mono hB.size), fun h => h0 (getD_was (by decide) h), fun h => h1 (getD_was (by decide) h), fun _ => rfl, fun _ => rfl, fun h => h4 (getD_was (by decide) h), fun h => h5 (getD_was (by decide) h), fun h => h6 (getD_was (by decide) h), fun h => h7 (getD_was (by decide) h), fun h => h8 (getD_was (by decide) h), fun h => h9 (getD_was (by decide) h), fun h => h10 (getD_was (by decide) h), fun h => h11 (getD_was (by decide) h), fun h => h12 (getD_was (by decide) h), fun h => h13 (getD_was (by decide) h), fun h => h14 (getD_was (by decide) h), fun h => h15 (getD_was (by decide) h), fun h => h16 (getD_was (by decide) h), fun h => h17 (getD_was (by decide) h)⟩
            · have q3 := h3 (ready_dep hr (by kernel_rfl))
              subst q3
              refine wpOp_step rfl (fun K hK => ?_)
              go_simp
              rw [if_neg (by first | omega | (simp only [ByteArray.size_append]; omega) | (simp; omega))]
              go_simp
              exact hK _ _ ⟨_, _, _, _, _, _, _, _, _, _, _, _, _, _, _, _, _, _, rfl, hB, fun h => h0 (getD_was (by decide) h), fun h => h1 (getD_was (by decide) h), fun h => h2 (getD_was (by decide) h), fun _ => rfl, fun _ => rfl, fun h => h5 (getD_was (by decide) h), fun h => h6 (getD_was (by decide) h), fun h => h7 (getD_was (by decide) h), fun h => h8 (getD_was (by decide) h), fun h => h9 (getD_was (by decide) h), fun h => h10 (getD_was (by decide) h), fun h => h11 (getD_was (by decide) h), fun h => h12 (getD_was (by decide) h), fun h => h13 (getD_was (by decide) h), fun h => h14 (getD_was (by decide) h), fun h => h15 (getD_was (by decide) h), fun h => h16 (getD_was (by decide) h), fun h => h17 (getD_was (by decide) h)⟩
            · have q4 := h4 (ready_dep hr (by kernel_rfl))
              subst q4
              refine wpOp_step rfl (fun K hK => ?_)
              go_simp
              rw [if_neg (by first | omega | (simp only [ByteArray.size_append]; omega) | (simp; omega))]
              go_simp
              exact hK _ _ ⟨_, _, _, _, _, _, _, _, _, _, _, _, _, _, _, _, _, _, rfl, hB, fun h => h0 (getD_was (by decide) h), fun h => h1 (getD_was (by decide) h), fun h => h2 (getD_was (by decide) h), fun h => h3 (getD_was (by decide) h), fun _ => rfl, fun _ => rfl, fun h => h6 (getD_was (by decide) h), fun h => h7 (getD_was (by decide) h), fun h => h8 (getD_was (by decide) h), fun h => h9 (getD_was (by decide) h), fun h => h10 (getD_was (by decide) h), fun h => h11 (getD_was (by decide) h), fun h => h12 (getD_was (by decide) h), fun h => h13 (getD_was (by decide) h), fun h => h14 (getD_was (by decide) h), fun h => h15 (getD_was (by decide) h), fun h => h16 (getD_was (by decide) h), fun h => h17 (getD_was (by decide) h)⟩
            · refine wpOp_step rfl (fun K hK => ?_)
              go_simp
              exact hK _ _ ⟨_, _, _, _, _, _, _, _, _, _, _, _, _, _, _, _, _, _, rfl, hB, fun h => h0 (getD_was (by decide) h), fun h => h1 (getD_was (by decide) h), fun h => h2 (getD_was (by decide) h), fun h => h3 (getD_was (by decide) h), fun h => h4 (getD_was (by decide) h), fun h => h5 (getD_was (by decide) h), fun _ => rfl, fun h => h7 (getD_was (by decide) h), fun h => h8 (getD_was (by decide) h), fun h => h9 (getD_was (by decide) h), fun h => h10 (getD_was (by decide) h), fun h => h11 (getD_was (by decide) h), fun h => h12 (getD_was (by decide) h), fun h => h13 (getD_was (by decide) h), fun h => h14 (getD_was (by decide) h), fun h => h15 (getD_was (by decide) h), fun h => h16 (getD_was (by decide) h), fun h => h17 (getD_was (by decide) h)⟩
            · have q6 := h6 (ready_dep hr (by kernel_rfl))
              subst q6
              have z := (C2.out.below hB).six.2.2.2.2.1
              refine wpOp_step rfl (fun K hK => ?_)
              go_simp
              exact hK _ _ ⟨_, _, _, _, _, _, _, _, _, _, _, _, _, _, _, _, _, _, rfl, hB, fun h => h0 (getD_was (by decide) h), fun h => h1 (getD_was (by decide) h), fun h => h2 (getD_was (by decide) h), fun h => h3 (getD_was (by decide) h), fun h => h4 (getD_was (by decide) h), fun h => h5 (getD_was (by decide) h), fun _ => rfl, fun _ => rfl, fun h => h8 (getD_was (by decide) h), fun h => h9 (getD_was (by decide) h), fun h => h10 (getD_was (by decide) h), fun h => h11 (getD_was (by decide) h), fun h => h12 (getD_was (by decide) h), fun h => h13 (getD_was (by decide) h), fun h => h14 (getD_was (by decide) h), fun h => h15 (getD_was (by decide) h), fun h => h16 (getD_was (by decide) h), fun h => h17 (getD_was (by decide) h)⟩
            · have q7 := h7 (ready_dep hr (by kernel_rfl))
              subst q7
              refine wpOp_step rfl (fun K hK => ?_)
              go_simp
              refine (HEi.out _).mono ?_
              rintro e w'' ⟨rfl, hw4⟩; obtain rfl := hw4
              exact hK _ _ ⟨_, _, _, _, _, _, _, _, _, _, _, _, _, _, _, _, _, _, rfl, hB, fun h => h0 (getD_was (by decide) h), fun h => h1 (getD_was (by decide) h), fun h => h2 (getD_was (by decide) h), fun h => h3 (getD_was (by decide) h), fun h => h4 (getD_was (by decide) h), fun h => h5 (getD_was (by decide) h), fun h => h6 (getD_was (by decide) h), fun _ => rfl, fun _ => rfl, fun h => h9 (getD_was (by decide) h), fun h => h10 (getD_was (by decide) h), fun h => h11 (getD_was (by decide) h), fun h => h12 (getD_was (by decide) h), fun h => h13 (getD_was (by decide) h), fun h => h14 (getD_was (by decide) h), fun h => h15 (getD_was (by decide) h), fun h => h16 (getD_was (by decide) h), fun h => h17 (getD_was (by decide) h)⟩
            · have q5 := h5 (ready_dep hr (by kernel_rfl))
              have q8 := h8 (ready_dep hr (by kernel_rfl))
              subst q5
              subst q8
              refine wpOp_step rfl (fun K hK => ?_)
              go_simp
              rw [if_neg (by first | omega | (simp only [ByteArray.size_append]; omega) | (simp; omega))]
              go_simp
              exact hK _ _ ⟨_, _, _, _, _, _, _, _, _, _, _, _, _, _, _, _, _, _, rfl, hB, fun h => h0 (getD_was (by decide) h), fun h => h1 (getD_was (by decide) h), fun h => h2 (getD_was (by decide) h), fun h => h3 (getD_was (by decide) h), fun h => h4 (getD_was (by decide) h), fun _ => rfl, fun h => h6 (getD_was (by decide) h), fun h => h7 (getD_was (by decide) h), fun _ => rfl, fun _ => rfl, fun h => h10 (getD_was (by decide) h), fun h => h11 (getD_was (by decide) h), fun h => h12 (getD_was (by decide) h), fun h => h13 (getD_was (by decide) h), fun h => h14 (getD_was (by decide) h), fun h => h15 (getD_was (by decide) h), fun h => h16 (getD_was (by decide) h), fun h => h17 (getD_was (by decide) h)⟩
            · have q9 := h9 (ready_dep hr (by kernel_rfl))
              subst q9
              refine wpOp_step rfl (fun K hK => ?_)
              go_simp
              rw [if_neg (by first | omega | (simp only [ByteArray.size_append]; omega) | (simp; omega))]
              go_simp
              exact hK _ _ ⟨_, _, _, _, _, _, _, _, _, _, _, _, _, _, _, _, _, _, rfl, hB, fun h => h0 (getD_was (by decide) h), fun h => h1 (getD_was (by decide) h), fun h => h2 (getD_was (by decide) h), fun h => h3 (getD_was (by decide) h), fun h => h4 (getD_was (by decide) h), fun h => h5 (getD_was (by decide) h), fun h => h6 (getD_was (by decide) h), fun h => h7 (getD_was (by decide) h), fun h => h8 (getD_was (by decide) h), fun _ => rfl, fun _ => rfl, fun h => h11 (getD_was (by decide) h), fun h => h12 (getD_was (by decide) h), fun h => h13 (getD_was (by decide) h), fun h => h14 (getD_was (by decide) h), fun h => h15 (getD_was (by decide) h), fun h => h16 (getD_was (by decide) h), fun h => h17 (getD_was (by decide) h)⟩
            · refine wpOp_step rfl (fun K hK => ?_)
              go_simp
              exact hK _ _ ⟨_, _, _, _, _, _, _, _, _, _, _, _, _, _, _, _, _, _, rfl, hB, fun h => h0 (getD_was (by decide) h), fun h => h1 (getD_was (by decide) h), fun h => h2 (getD_was (by decide) h), fun h => h3 (getD_was (by decide) h), fun h => h4 (getD_was (by decide) h), fun h => h5 (getD_was (by decide) h), fun h => h6 (getD_was (by decide) h), fun h => h7 (getD_was (by decide) h), fun h => h8 (getD_was (by decide) h), fun h => h9 (getD_was (by decide) h), fun h => h10 (getD_was (by decide) h), fun _ => rfl, fun h => h12 (getD_was (by decide) h), fun h => h13 (getD_was (by decide) h), fun h => h14 (getD_was (by decide) h), fun h => h15 (getD_was (by decide) h), fun h => h16 (getD_was (by decide) h), fun h => h17 (getD_was (by decide) h)⟩
            · refine wpOp_step rfl (fun K hK => ?_)
              go_simp
              exact hK _ _ ⟨_, _, _, _, _, _, _, _, _, _, _, _, _, _, _, _, _, _, rfl, hB, fun h => h0 (getD_was (by decide) h), fun h => h1 (getD_was (by decide) h), fun h => h2 (getD_was (by decide) h), fun h => h3 (getD_was (by decide) h), fun h => h4 (getD_was (by decide) h), fun h => h5 (getD_was (by decide) h), fun h => h6 (getD_was (by decide) h), fun h => h7 (getD_was (by decide) h), fun h => h8 (getD_was (by decide) h), fun h => h9 (getD_was (by decide) h), fun h => h10 (getD_was (by decide) h), fun h => h11 (getD_was (by decide) h), fun _ => rfl, fun h => h13 (getD_was (by decide) h), fun h => h14 (getD_was (by decide) h), fun h => h15 (getD_was (by decide) h), fun h => h16 (getD_was (by decide) h), fun h => h17 (getD_was (by decide) h)⟩
            · have q12 := h12 (ready_dep hr (by kernel_rfl))
              subst q12
              have z := (C2.out.below hB).six.2.2.2.2.2
              refine wpOp_step rfl (fun K hK => ?_)
              go_simp
              exact hK _ _ ⟨_, _, _, _, _, _, _, _, _, _, _, _, _, _, _, _, _, _, rfl, hB, fun h => h0 (getD_was (by decide) h), fun h => h1 (getD_was (by decide) h), fun h => h2 (getD_was (by decide) h), fun h => h3 (getD_was (by decide) h), fun h => h4 (getD_was (by decide) h), fun h => h5 (getD_was (by decide) h), fun h => h6 (getD_was (by decide) h), fun h => h7 (getD_was (by decide) h), fun h => h8 (getD_was (by decide) h), fun h => h9 (getD_was (by decide) h), fun h => h10 (getD_was (by decide) h), fun h => h11 (getD_was (by decide) h), fun _ => rfl, fun _ => rfl, fun h => h14 (getD_was (by decide) h), fun h => h15 (getD_was (by decide) h), fun h => h16 (getD_was (by decide) h), fun h => h17 (getD_was (by decide) h)⟩
            · have q11 := h11 (ready_dep hr (by kernel_rfl))
              have q13 := h13 (ready_dep hr (by kernel_rfl))
              subst q11
              subst q13
              refine wpOp_step rfl (fun K hK => ?_)
              go_simp
              refine (HIk.out _ (HKd2.out.keep (Keeps.of_below hB))).mono ?_
              rintro e w'' ⟨rfl, hb⟩
              exact hK _ _ ⟨_, _, _, _, _, _, _, _, _, _, _, _, _, _, _, _, _, _, rfl, hB.trans (hb.mono hB.size), fun h => h0 (getD_was (by decide) h), fun h => h1 (getD_was (by decide) h), fun h => h2 (getD_was (by decide) h), fun h => h3 (getD_was (by decide) h), fun h => h4 (getD_was (by decide) h), fun h => h5 (getD_was (by decide) h), fun h => h6 (getD_was (by decide) h), fun h => h7 (getD_was (by decide) h), fun h => h8 (getD_was (by decide) h), fun h => h9 (getD_was (by decide) h), fun h => h10 (getD_was (by decide) h), fun _ => rfl, fun h => h12 (getD_was (by decide) h), fun _ => rfl, fun _ => rfl, fun h => h15 (getD_was (by decide) h), fun h => h16 (getD_was (by decide) h), fun h => h17 (getD_was (by decide) h)⟩
            · have q10 := h10 (ready_dep hr (by kernel_rfl))
              have q14 := h14 (ready_dep hr (by kernel_rfl))
              subst q10
              subst q14
              refine wpOp_step rfl (fun K hK => ?_)
              go_simp
              rw [if_neg (by first | omega | (simp only [ByteArray.size_append]; omega) | (simp; omega))]
              go_simp
              exact hK _ _ ⟨_, _, _, _, _, _, _, _, _, _, _, _, _, _, _, _, _, _, rfl, hB, fun h => h0 (getD_was (by decide) h), fun h => h1 (getD_was (by decide) h), fun h => h2 (getD_was (by decide) h), fun h => h3 (getD_was (by decide) h), fun h => h4 (getD_was (by decide) h), fun h => h5 (getD_was (by decide) h), fun h => h6 (getD_was (by decide) h), fun h => h7 (getD_was (by decide) h), fun h => h8 (getD_was (by decide) h), fun h => h9 (getD_was (by decide) h), fun _ => rfl, fun h => h11 (getD_was (by decide) h), fun h => h12 (getD_was (by decide) h), fun h => h13 (getD_was (by decide) h), fun _ => rfl, fun _ => rfl, fun h => h16 (getD_was (by decide) h), fun h => h17 (getD_was (by decide) h)⟩
            · have q15 := h15 (ready_dep hr (by kernel_rfl))
              subst q15
              refine wpOp_step rfl (fun K hK => ?_)
              go_simp
              rw [if_neg (by first | omega | (simp only [ByteArray.size_append]; omega) | (simp; omega))]
              go_simp
              exact hK _ _ ⟨_, _, _, _, _, _, _, _, _, _, _, _, _, _, _, _, _, _, rfl, hB, fun h => h0 (getD_was (by decide) h), fun h => h1 (getD_was (by decide) h), fun h => h2 (getD_was (by decide) h), fun h => h3 (getD_was (by decide) h), fun h => h4 (getD_was (by decide) h), fun h => h5 (getD_was (by decide) h), fun h => h6 (getD_was (by decide) h), fun h => h7 (getD_was (by decide) h), fun h => h8 (getD_was (by decide) h), fun h => h9 (getD_was (by decide) h), fun h => h10 (getD_was (by decide) h), fun h => h11 (getD_was (by decide) h), fun h => h12 (getD_was (by decide) h), fun h => h13 (getD_was (by decide) h), fun h => h14 (getD_was (by decide) h), fun _ => rfl, fun _ => rfl, fun h => h17 (getD_was (by decide) h)⟩
            · have q0 := h0 (ready_dep hr (by kernel_rfl))
              have q16 := h16 (ready_dep hr (by kernel_rfl))
              subst q0
              subst q16
              refine wpOp_step rfl (fun K hK => ?_)
              go_simp
              rw [if_neg (by first | omega | (simp only [ByteArray.size_append]; omega) | (simp; omega))]
              go_simp
              exact hK _ _ ⟨_, _, _, _, _, _, _, _, _, _, _, _, _, _, _, _, _, _, rfl, hB, fun _ => rfl, fun h => h1 (getD_was (by decide) h), fun h => h2 (getD_was (by decide) h), fun h => h3 (getD_was (by decide) h), fun h => h4 (getD_was (by decide) h), fun h => h5 (getD_was (by decide) h), fun h => h6 (getD_was (by decide) h), fun h => h7 (getD_was (by decide) h), fun h => h8 (getD_was (by decide) h), fun h => h9 (getD_was (by decide) h), fun h => h10 (getD_was (by decide) h), fun h => h11 (getD_was (by decide) h), fun h => h12 (getD_was (by decide) h), fun h => h13 (getD_was (by decide) h), fun h => h14 (getD_was (by decide) h), fun h => h15 (getD_was (by decide) h), fun _ => rfl, fun _ => rfl⟩
          case last =>
            intro a' w' hI
            obtain ⟨x0, x1, x2, x3, x4, x5, x6, x7, x8, x9, x10, x11, x12, x13, x14, x15, x16, x17, rfl, hB, h0, h1, h2, h3, h4, h5, h6, h7, h8, h9, h10, h11, h12, h13, h14, h15, h16, h17⟩ := hI
            have q17 := h17 rfl
            clear h0 h1 h2 h3 h4 h5 h6 h7 h8 h9 h10 h11 h12 h13 h14 h15 h16 h17
            subst q17
            refine wpAny_of_seqA 1 18 rfl (by kernel_rfl) ?_
            simp only [List.drop_succ_cons, List.drop_zero]
            have HB9 := Lib.hid (HBW.out.trans (hB.mono HBW.out.size))
            go_wp2_with fail
            go_roundw
            case rel => exact ⟨k + 1, _, by omega, by go_num, rfl, (by show _ = _; rw [HTk.out, HPN.out]; simp [hA1, hQ, hGt, hA2, HZd.out, HZi.out, HIkl.out]), HB9⟩
            case measure => simp [intOf]; omega
        · have HPN := Lib.hid (show inl1 n = _ from inl_18 hx)
          have t11 : (n.kind == 11) = false := by simp; omega
          have t12 : (n.kind == 12) = false := by simp; omega
          have t13 : (n.kind == 13) = false := by simp; omega
          have t14 : (n.kind == 14) = false := by simp; omega
          have t15 : (n.kind == 15) = false := by simp; omega
          have t16 : (n.kind == 16) = false := by simp; omega
          have t17 : (n.kind == 17) = false := by simp; omega
          have t18 : (n.kind == 18) = true := by simp; omega
          clear hx
          go_wp2_with fail
          refine wp_region_any (by kernel_rfl) ?_
          change wpAny _ _ _ _ _ _ _ (wr.alloc (nodeBox n (.slice A3 n.kids.length c3))).drew
          obtain ⟨g, hg⟩ : ∃ g, wr.heap.size = g := ⟨_, rfl⟩
          obtain ⟨W2, hW2⟩ : ∃ W2, (wr.alloc (nodeBox n (.slice A3 n.kids.length c3))).drew = W2 := ⟨_, rfl⟩
          have C2 := Lib.hid (show CB W2 g 45 (nodeC n (.slice A3 n.kids.length c3)) by rw [← hW2, ← hg]; exact C0.out.drew)
          have HKd2 := Lib.hid (show NodesAt W2 (.slice A3 n.kids.length c3) n.kids by rw [← hW2]; exact HKd.out.keep (Keeps.of_below (Below.refl _ _).drew))
          have HBW := Lib.hid (show Below w.heap.size w W2 by rw [← hW2]; exact HB0.out.drew)
          rw [hW2, hg]
          clear hW2 hg C0 HKd p0 p1 p2 p3 p4 p5 bb
          refine wpAny_inv [0, 1, 2, 3, 4, 5, 6, 7, 8, 9, 10, 11, 12, 13, 14, 15, 16] (InvI (fun v82 v83 v84 v85 v86 v87 v88 v89 v90 v91 v92 v93 v94 v95 v96 v97 v98 => ⟨#[.pointer p, .slice (some ⟨bl, o, none⟩) l.length c, undef, undef, .string ⟨#[]⟩, .string s, undef, .pointer (some ⟨g, 0, none⟩), .slice (some ⟨bl, o, none⟩) l.length c, .int .i64 ↑l.length, .int .i64 ↑k, .bool true, .pointer (some ⟨bl, o + k * 6, none⟩), .agg #[.int .i64 n.kind, .int .i64 n.level, .string n.text, .string n.dest, .string n.title, .slice A3 n.kids.length c3], .pointer (some ⟨g, 0, none⟩), .int .i64 n.kind, .bool false, .bool false, u18, u19, u20, u21, u22, .bool false, .bool false, u25, u26, .bool false, .bool false, u29, u30, .bool false, .bool false, u33, u34, u35, u36, u37, u38, u39, u40, .bool false, .bool false, u43, u44, u45, u46, u47, u48, u49, u50, .bool false, .bool false, u53, u54, u55, u56, u57, u58, u59, .bool false, .bool false, u62, u63, u64, u65, u66, u67, u68, u69, u70, u71, u72, u73, u74, u75, u76, u77, u78, u79, .bool true, .bool true, v82, v83, v84, v85, v86, v87, v88, v89, v90, v91, v92, v93, v94, v95, v96, v97, v98, u99, undef], []⟩) s zd zi zt n g W2) #[true, true, true, true, true, true, true, true, true, true, true, true, true, true, true, true, true, false] (g := 1) (by kernel_rfl) (by kernel_rfl) (by kernel_rfl) (InvI.start u82 u83 u84 u85 u86 u87 u88 u89 u90 u91 u92 u93 u94 u95 u96 u97 u98 rfl) ?step ?last
          case step =>
            intro i hi L a' w' hs hr hI
            obtain ⟨x0, x1, x2, x3, x4, x5, x6, x7, x8, x9, x10, x11, x12, x13, x14, x15, x16, rfl, hB, h0, h1, h2, h3, h4, h5, h6, h7, h8, h9, h10, h11, h12, h13, h14, h15, h16⟩ := hI
            simp only [List.mem_cons, List.not_mem_nil, or_false] at hi
            rcases hi with rfl | rfl | rfl | rfl | rfl | rfl | rfl | rfl | rfl | rfl | rfl | rfl | rfl | rfl | rfl | rfl | rfl
            · refine wpOp_step rfl (fun K hK => ?_)
              go_simp
              exact hK _ _ ⟨_, _, _, _, _, _, _, _, _, _, _, _, _, _, _, _, _, rfl, hB, fun _ => rfl, fun h => h1 (getD_was (by decide) h), fun h => h2 (getD_was (by decide) h), fun h => h3 (getD_was (by decide) h), fun h => h4 (getD_was (by decide) h), fun h => h5 (getD_was (by decide) h), fun h => h6 (getD_was (by decide) h), fun h => h7 (getD_was (by decide) h), fun h => h8 (getD_was (by decide) h), fun h => h9 (getD_was (by decide) h), fun h => h10 (getD_was (by decide) h), fun h => h11 (getD_was (by decide) h), fun h => h12 (getD_was (by decide) h), fun h => h13 (getD_was (by decide) h), fun h => h14 (getD_was (by decide) h), fun h => h15 (getD_was (by decide) h), fun h => h16 (getD_was (by decide) h)⟩
            · refine wpOp_step rfl (fun K hK => ?_)
              go_simp
              exact hK _ _ ⟨_, _, _, _, _, _, _, _, _, _, _, _, _, _, _, _, _, rfl, hB, fun h => h0 (getD_was (by decide) h), fun _ => rfl, fun h => h2 (getD_was (by decide) h), fun h => h3 (getD_was (by decide) h), fun h => h4 (getD_was (by decide) h), fun h => h5 (getD_was (by decide) h), fun h => h6 (getD_was (by decide) h), fun h => h7 (getD_was (by decide) h), fun h => h8 (getD_was (by decide) h), fun h => h9 (getD_was (by decide) h), fun h => h10 (getD_was (by decide) h), fun h => h11 (getD_was (by decide) h), fun h => h12 (getD_was (by decide) h), fun h => h13 (getD_was (by decide) h), fun h => h14 (getD_was (by decide) h), fun h => h15 (getD_was (by decide) h), fun h => h16 (getD_was (by decide) h)⟩
            · have q1 := h1 (ready_dep hr (by kernel_rfl))
              subst q1
              have z := (C2.out.below hB).six.2.2.2.1
              refine wpOp_step rfl (fun K hK => ?_)
              go_simp
              exact hK _ _ ⟨_, _, _, _, _, _, _, _, _, _, _, _, _, _, _, _, _, rfl, hB, fun h => h0 (getD_was (by decide) h), fun _ => rfl, fun _ => rfl, fun h => h3 (getD_was (by decide) h), fun h => h4 (getD_was (by decide) h), fun h => h5 (getD_was (by decide) h), fun h => h6 (getD_was (by decide) h), fun h => h7 (getD_was (by decide) h), fun h => h8 (getD_was (by decide) h), fun h => h9 (getD_was (by decide) h), fun h => h10 (getD_was (by decide) h), fun h => h11 (getD_was (by decide) h), fun h => h12 (getD_was (by decide) h), fun h => h13 (getD_was (by decide) h), fun h => h14 (getD_was (by decide) h), fun h => h15 (getD_was (by decide) h), fun h => h16 (getD_was (by decide) h)⟩
            · have q2 := h2 (ready_dep hr (by kernel_rfl))
              subst q2
              refine wpOp_step rfl (fun K hK => ?_)
              go_simp
              refine (HEd.out _).mono ?_
              rintro e w'' ⟨rfl, hb⟩
              exact hK _ _ ⟨_, _, _, _, _, _, _, _, _, _, _, _, _, _, _, _, _, rfl, hB.trans (hb.mono hB.size), fun h => h0 (getD_was (by decide) h), fun h => h1 (getD_was (by decide) h), fun _ => rfl, fun _ => rfl, fun h => h4 (getD_was (by decide) h), fun h => h5 (getD_was (by decide) h), fun h => h6 (getD_was (by decide) h), fun h => h7 (getD_was (by decide) h), fun h => h8 (getD_was (by decide) h), fun h => h9 (getD_was (by decide) h), fun h => h10 (getD_was (by decide) h), fun h => h11 (getD_was (by decide) h), fun h => h12 (getD_was (by decide) h), fun h => h13 (getD_was (by decide) h), fun h => h14 (getD_was (by decide) h), fun h => h15 (getD_was (by decide) h), fun h => h16 (getD_was (by decide) h)⟩
            · have q3 := h3 (ready_dep hr (by kernel_rfl))
              subst q3
              refine wpOp_step rfl (fun K hK => ?_)
              go_simp
              rw [if_neg (by first | omega | (simp only [ByteArray.size_append]; omega) | (simp; omega))]
              go_simp
              exact hK _ _ ⟨_, _, _, _, _, _, _, _, _, _, _, _, _, _, _, _, _, rfl, hB, fun h => h0 (getD_was (by decide) h), fun h => h1 (getD_was (by decide) h), fun h => h2 (getD_was (by decide) h), fun _ => rfl, fun _ => rfl, fun h => h5 (getD_was (by decide) h), fun h => h6 (getD_was (by decide) h), fun h => h7 (getD_was (by decide) h), fun h => h8 (getD_was (by decide) h), fun h => h9 (getD_was (by decide) h), fun h => h10 (getD_was (by decide) h), fun h => h11 (getD_was (by decide) h), fun h => h12 (getD_was (by decide) h), fun h => h13 (getD_was (by decide) h), fun h => h14 (getD_was (by decide) h), fun h => h15 (getD_was (by decide) h), fun h => h16 (getD_was (by decide) h)⟩
            · have q4 := h4 (ready_dep hr (by kernel_rfl))
              subst q4
              refine wpOp_step rfl (fun K hK => ?_)
              go_simp
              rw [if_neg (by first | omega | (simp only [ByteArray.size_append]; omega) | (simp; omega))]
              go_simp
              exact hK _ _ ⟨_, _, _, _, _, _, _, _, _, _, _, _, _, _, _, _, _, rfl, hB, fun h => h0 (getD_was (by decide) h), fun h => h1 (getD_was (by decide) h), fun h => h2 (getD_was (by decide) h), fun h => h3 (getD_was (by decide) h), fun _ => rfl, fun _ => rfl, fun h => h6 (getD_was (by decide) h), fun h => h7 (getD_was (by decide) h), fun h => h8 (getD_was (by decide) h), fun h => h9 (getD_was (by decide) h), fun h => h10 (getD_was (by decide) h), fun h => h11 (getD_was (by decide) h), fun h => h12 (getD_was (by decide) h), fun h => h13 (getD_was (by decide) h), fun h => h14 (getD_was (by decide) h), fun h => h15 (getD_was (by decide) h), fun h => h16 (getD_was (by decide) h)⟩
            · refine wpOp_step rfl (fun K hK => ?_)
              go_simp
              exact hK _ _ ⟨_, _, _, _, _, _, _, _, _, _, _, _, _, _, _, _, _, rfl, hB, fun h => h0 (getD_was (by decide) h), fun h => h1 (getD_was (by decide) h), fun h => h2 (getD_was (by decide) h), fun h => h3 (getD_was (by decide) h), fun h => h4 (getD_was (by decide) h), fun h => h5 (getD_was (by decide) h), fun _ => rfl, fun h => h7 (getD_was (by decide) h), fun h => h8 (getD_was (by decide) h), fun h => h9 (getD_was (by decide) h), fun h => h10 (getD_was (by decide) h), fun h => h11 (getD_was (by decide) h), fun h => h12 (getD_was (by decide) h), fun h => h13 (getD_was (by decide) h), fun h => h14 (getD_was (by decide) h), fun h => h15 (getD_was (by decide) h), fun h => h16 (getD_was (by decide) h)⟩
            · have q6 := h6 (ready_dep hr (by kernel_rfl))
              subst q6
              have z := (C2.out.below hB).six.2.2.1
              refine wpOp_step rfl (fun K hK => ?_)
              go_simp
              exact hK _ _ ⟨_, _, _, _, _, _, _, _, _, _, _, _, _, _, _, _, _, rfl, hB, fun h => h0 (getD_was (by decide) h), fun h => h1 (getD_was (by decide) h), fun h => h2 (getD_was (by decide) h), fun h => h3 (getD_was (by decide) h), fun h => h4 (getD_was (by decide) h), fun h => h5 (getD_was (by decide) h), fun _ => rfl, fun _ => rfl, fun h => h8 (getD_was (by decide) h), fun h => h9 (getD_was (by decide) h), fun h => h10 (getD_was (by decide) h), fun h => h11 (getD_was (by decide) h), fun h => h12 (getD_was (by decide) h), fun h => h13 (getD_was (by decide) h), fun h => h14 (getD_was (by decide) h), fun h => h15 (getD_was (by decide) h), fun h => h16 (getD_was (by decide) h)⟩
            · have q7 := h7 (ready_dep hr (by kernel_rfl))
              subst q7
              refine wpOp_step rfl (fun K hK => ?_)
              go_simp
              refine (HEt.out _).mono ?_
              rintro e w'' ⟨rfl, hw4⟩; obtain rfl := hw4
              exact hK _ _ ⟨_, _, _, _, _, _, _, _, _, _, _, _, _, _, _, _, _, rfl, hB, fun h => h0 (getD_was (by decide) h), fun h => h1 (getD_was (by decide) h), fun h => h2 (getD_was (by decide) h), fun h => h3 (getD_was (by decide) h), fun h => h4 (getD_was (by decide) h), fun h => h5 (getD_was (by decide) h), fun h => h6 (getD_was (by decide) h), fun _ => rfl, fun _ => rfl, fun h => h9 (getD_was (by decide) h), fun h => h10 (getD_was (by decide) h), fun h => h11 (getD_was (by decide) h), fun h => h12 (getD_was (by decide) h), fun h => h13 (getD_was (by decide) h), fun h => h14 (getD_was (by decide) h), fun h => h15 (getD_was (by decide) h), fun h => h16 (getD_was (by decide) h)⟩
            · have q5 := h5 (ready_dep hr (by kernel_rfl))
              have q8 := h8 (ready_dep hr (by kernel_rfl))
              subst q5
              subst q8
              refine wpOp_step rfl (fun K hK => ?_)
              go_simp
              rw [if_neg (by first | omega | (simp only [ByteArray.size_append]; omega) | (simp; omega))]
              go_simp
              exact hK _ _ ⟨_, _, _, _, _, _, _, _, _, _, _, _, _, _, _, _, _, rfl, hB, fun h => h0 (getD_was (by decide) h), fun h => h1 (getD_was (by decide) h), fun h => h2 (getD_was (by decide) h), fun h => h3 (getD_was (by decide) h), fun h => h4 (getD_was (by decide) h), fun _ => rfl, fun h => h6 (getD_was (by decide) h), fun h => h7 (getD_was (by decide) h), fun _ => rfl, fun _ => rfl, fun h => h10 (getD_was (by decide) h), fun h => h11 (getD_was (by decide) h), fun h => h12 (getD_was (by decide) h), fun h => h13 (getD_was (by decide) h), fun h => h14 (getD_was (by decide) h), fun h => h15 (getD_was (by decide) h), fun h => h16 (getD_was (by decide) h)⟩
            · have q9 := h9 (ready_dep hr (by kernel_rfl))
              subst q9
              refine wpOp_step rfl (fun K hK => ?_)
              go_simp
              rw [if_neg (by first | omega | (simp only [ByteArray.size_append]; omega) | (simp; omega))]
              go_simp
              exact hK _ _ ⟨_, _, _, _, _, _, _, _, _, _, _, _, _, _, _, _, _, rfl, hB, fun h => h0 (getD_was (by decide) h), fun h => h1 (getD_was (by decide) h), fun h => h2 (getD_was (by decide) h), fun h => h3 (getD_was (by decide) h), fun h => h4 (getD_was (by decide) h), fun h => h5 (getD_was (by decide) h), fun h => h6 (getD_was (by decide) h), fun h => h7 (getD_was (by decide) h), fun h => h8 (getD_was (by decide) h), fun _ => rfl, fun _ => rfl, fun h => h11 (getD_was (by decide) h), fun h => h12 (getD_was (by decide) h), fun h => h13 (getD_was (by decide) h), fun h => h14 (getD_was (by decide) h), fun h => h15 (getD_was (by decide) h), fun h => h16 (getD_was (by decide) h)⟩
            · refine wpOp_step rfl (fun K hK => ?_)
              go_simp
              exact hK _ _ ⟨_, _, _, _, _, _, _, _, _, _, _, _, _, _, _, _, _, rfl, hB, fun h => h0 (getD_was (by decide) h), fun h => h1 (getD_was (by decide) h), fun h => h2 (getD_was (by decide) h), fun h => h3 (getD_was (by decide) h), fun h => h4 (getD_was (by decide) h), fun h => h5 (getD_was (by decide) h), fun h => h6 (getD_was (by decide) h), fun h => h7 (getD_was (by decide) h), fun h => h8 (getD_was (by decide) h), fun h => h9 (getD_was (by decide) h), fun h => h10 (getD_was (by decide) h), fun _ => rfl, fun h => h12 (getD_was (by decide) h), fun h => h13 (getD_was (by decide) h), fun h => h14 (getD_was (by decide) h), fun h => h15 (getD_was (by decide) h), fun h => h16 (getD_was (by decide) h)⟩
            · have q11 := h11 (ready_dep hr (by kernel_rfl))
              subst q11
              have z := (C2.out.below hB).six.2.2.2.2.1
              refine wpOp_step rfl (fun K hK => ?_)
              go_simp
              exact hK _ _ ⟨_, _, _, _, _, _, _, _, _, _, _, _, _, _, _, _, _, rfl, hB, fun h => h0 (getD_was (by decide) h), fun h => h1 (getD_was (by decide) h), fun h => h2 (getD_was (by decide) h), fun h => h3 (getD_was (by decide) h), fun h => h4 (getD_was (by decide) h), fun h => h5 (getD_was (by decide) h), fun h => h6 (getD_was (by decide) h), fun h => h7 (getD_was (by decide) h), fun h => h8 (getD_was (by decide) h), fun h => h9 (getD_was (by decide) h), fun h => h10 (getD_was (by decide) h), fun _ => rfl, fun _ => rfl, fun h => h13 (getD_was (by decide) h), fun h => h14 (getD_was (by decide) h), fun h => h15 (getD_was (by decide) h), fun h => h16 (getD_was (by decide) h)⟩
            · have q12 := h12 (ready_dep hr (by kernel_rfl))
              subst q12
              refine wpOp_step rfl (fun K hK => ?_)
              go_simp
              refine (HEi.out _).mono ?_
              rintro e w'' ⟨rfl, hw4⟩; obtain rfl := hw4
              exact hK _ _ ⟨_, _, _, _, _, _, _, _, _, _, _, _, _, _, _, _, _, rfl, hB, fun h => h0 (getD_was (by decide) h), fun h => h1 (getD_was (by decide) h), fun h => h2 (getD_was (by decide) h), fun h => h3 (getD_was (by decide) h), fun h => h4 (getD_was (by decide) h), fun h => h5 (getD_was (by decide) h), fun h => h6 (getD_was (by decide) h), fun h => h7 (getD_was (by decide) h), fun h => h8 (getD_was (by decide) h), fun h => h9 (getD_was (by decide) h), fun h => h10 (getD_was (by decide) h), fun h => h11 (getD_was (by decide) h), fun _ => rfl, fun _ => rfl, fun h => h14 (getD_was (by decide) h), fun h => h15 (getD_was (by decide) h), fun h => h16 (getD_was (by decide) h)⟩
            · have q10 := h10 (ready_dep hr (by kernel_rfl))
              have q13 := h13 (ready_dep hr (by kernel_rfl))
              subst q10
              subst q13
              refine wpOp_step rfl (fun K hK => ?_)
              go_simp
              rw [if_neg (by first | omega | (simp only [ByteArray.size_append]; omega) | (simp; omega))]
              go_simp
              exact hK _ _ ⟨_, _, _, _, _, _, _, _, _, _, _, _, _, _, _, _, _, rfl, hB, fun h => h0 (getD_was (by decide) h), fun h => h1 (getD_was (by decide) h), fun h => h2 (getD_was (by decide) h), fun h => h3 (getD_was (by decide) h), fun h => h4 (getD_was (by decide) h), fun h => h5 (getD_was (by decide) h), fun h => h6 (getD_was (by decide) h), fun h => h7 (getD_was (by decide) h), fun h => h8 (getD_was (by decide) h), fun h => h9 (getD_was (by decide) h), fun _ => rfl, fun h => h11 (getD_was (by decide) h), fun h => h12 (getD_was (by decide) h), fun _ => rfl, fun _ => rfl, fun h => h15 (getD_was (by decide) h), fun h => h16 (getD_was (by decide) h)⟩
            · have q14 := h14 (ready_dep hr (by kernel_rfl))
              subst q14
              refine wpOp_step rfl (fun K hK => ?_)
              go_simp
              rw [if_neg (by first | omega | (simp only [ByteArray.size_append]; omega) | (simp; omega))]
              go_simp
              exact hK _ _ ⟨_, _, _, _, _, _, _, _, _, _, _, _, _, _, _, _, _, rfl, hB, fun h => h0 (getD_was (by decide) h), fun h => h1 (getD_was (by decide) h), fun h => h2 (getD_was (by decide) h), fun h => h3 (getD_was (by decide) h), fun h => h4 (getD_was (by decide) h), fun h => h5 (getD_was (by decide) h), fun h => h6 (getD_was (by decide) h), fun h => h7 (getD_was (by decide) h), fun h => h8 (getD_was (by decide) h), fun h => h9 (getD_was (by decide) h), fun h => h10 (getD_was (by decide) h), fun h => h11 (getD_was (by decide) h), fun h => h12 (getD_was (by decide) h), fun h => h13 (getD_was (by decide) h), fun _ => rfl, fun _ => rfl, fun h => h16 (getD_was (by decide) h)⟩
            · have q0 := h0 (ready_dep hr (by kernel_rfl))
              have q15 := h15 (ready_dep hr (by kernel_rfl))
              subst q0
              subst q15
              refine wpOp_step rfl (fun K hK => ?_)
              go_simp
              rw [if_neg (by first | omega | (simp only [ByteArray.size_append]; omega) | (simp; omega))]
              go_simp
              exact hK _ _ ⟨_, _, _, _, _, _, _, _, _, _, _, _, _, _, _, _, _, rfl, hB, fun _ => rfl, fun h => h1 (getD_was (by decide) h), fun h => h2 (getD_was (by decide) h), fun h => h3 (getD_was (by decide) h), fun h => h4 (getD_was (by decide) h), fun h => h5 (getD_was (by decide) h), fun h => h6 (getD_was (by decide) h), fun h => h7 (getD_was (by decide) h), fun h => h8 (getD_was (by decide) h), fun h => h9 (getD_was (by decide) h), fun h => h10 (getD_was (by decide) h), fun h => h11 (getD_was (by decide) h), fun h => h12 (getD_was (by decide) h), fun h => h13 (getD_was (by decide) h), fun h => h14 (getD_was (by decide) h), fun _ => rfl, fun _ => rfl⟩
          case last =>
            intro a' w' hI
            obtain ⟨x0, x1, x2, x3, x4, x5, x6, x7, x8, x9, x10, x11, x12, x13, x14, x15, x16, rfl, hB, h0, h1, h2, h3, h4, h5, h6, h7, h8, h9, h10, h11, h12, h13, h14, h15, h16⟩ := hI
            have q16 := h16 rfl
            clear h0 h1 h2 h3 h4 h5 h6 h7 h8 h9 h10 h11 h12 h13 h14 h15 h16
            subst q16
            refine wpAny_of_seqA 1 17 rfl (by kernel_rfl) ?_
            simp only [List.drop_succ_cons, List.drop_zero]
            have HB9 := Lib.hid (HBW.out.trans (hB.mono HBW.out.size))
            go_wp2_with fail
            go_roundw
            case rel => exact ⟨k + 1, _, by omega, by go_num, rfl, (by show _ = _; rw [HTk.out, HPN.out]; simp [hI1, hI2, hQ, hGt, HZd.out, HZt.out, HZi.out]), HB9⟩
            case measure => simp [intOf]; omega
        · have HPN := Lib.hid (show inl1 n = _ from inl_no hx)
          have t11 : (n.kind == 11) = false := by simp; omega
          have t12 : (n.kind == 12) = false := by simp; omega
          have t13 : (n.kind == 13) = false := by simp; omega
          have t14 : (n.kind == 14) = false := by simp; omega
          have t15 : (n.kind == 15) = false := by simp; omega
          have t16 : (n.kind == 16) = false := by simp; omega
          have t17 : (n.kind == 17) = false := by simp; omega
          have t18 : (n.kind == 18) = false := by simp; omega
          clear hx
          go_wp2_with fail
          go_roundw
          case rel => exact ⟨k + 1, _, by omega, by go_num, rfl, (by show _ = _; rw [HTk.out, HPN.out]; simp), HB0⟩
          case measure => simp [intOf]; omega
      · have hke : k = l.length := by omega
        subst hke
        rw [List.take_length] at hcs
        go_wp2_with fail
        go_ret
        exact ⟨s, rfl, hcs.out, hbel.out⟩

end Go.Proofs.YtikijmjcmpkkdaaGreatDoor

namespace Go.Proofs.YtikijmjcmpkkdaaGreatDoor
open Go.RowKit Go.Deep

/-- the renderer's box: the ids that are left -/
structure RW (w0 : World) (R : Nat) (ids : List (List UInt8)) (w : World) : Prop where
  below : Below w0.heap.size w0 w
  ge : w0.heap.size ≤ R
  box : ∃ iv, OnesAt w0 iv (strCells ids) ∧ CB w R 71 #[iv]
theorem RW.more {w0 : World} {R : Nat} {ids : List (List UInt8)} {w w' : World} (h : RW w0 R ids w) (hb : Below w.heap.size w w') : RW w0 R ids w' := by
  obtain ⟨iv, h1, h2⟩ := h.box
  exact ⟨h.below.trans (hb.mono h.below.size), h.ge, iv, h1, h2.below hb⟩
theorem RW.keeps {w0 : World} {R : Nat} {ids : List (List UInt8)} {w : World} (h : RW w0 R ids w) : Keeps w0 w := Keeps.of_below h.below
theorem RW.lt {w0 : World} {R : Nat} {ids : List (List UInt8)} {w : World} (h : RW w0 R ids w) : R < w.heap.size := by
  obtain ⟨iv, h1, h2⟩ := h.box; exact h2.lt
theorem RW.alloc {w0 : World} {R : Nat} {ids : List (List UInt8)} {w : World} (h : RW w0 R ids w) (o : Obj) : RW w0 R ids (w.alloc o) := h.more ((Below.refl _ _).alloc (Nat.le_refl _) o)
theorem RW.eq {w0 : World} {R : Nat} {ids ids' : List (List UInt8)} {w : World} (h : RW w0 R ids w) (e : ids = ids') : RW w0 R ids' w := e ▸ h

theorem bcell_keep2 {w0 w : World} (h : Below w0.heap.size w0 w) {a : Addr} {v : Value} (hc : w0.cell? a = some v) : w.cell? a = some v := Keeps.of_below h _ _ hc
theorem leveled_take : ∀ {l : List Node} (_ : Leveled l) (k : Nat), Leveled (l.take k)
  | [], _, k => by rw [List.take_nil]; simp only [Leveled]
  | n :: r, h, 0 => by rw [List.take_zero]; simp only [Leveled]
  | .mk a b c d e ks :: r, h, k + 1 => by
    rw [List.take_succ_cons]
    simp only [Leveled] at h ⊢
    exact ⟨h.1, h.2.1, h.2.2.1, leveled_take h.2.2.2 k⟩
theorem info_size (s z : ByteArray) (h : (⟨(infoH s.data.toList).toArray⟩ : ByteArray) = z) : z.size ≤ 6 * s.size + 40 := by
  subst h
  have := infoH_le s.data.toList
  rw [size_toList] at this
  exact this

set_option maxRecDepth 100000 in
set_option maxHeartbeats 1000000 in
/-- the next id is taken; blocks but the renderer's box stay -/
theorem id_q {w0 : World} {R : Nat} {x : List UInt8} {r : List (List UInt8)} (xs : ByteArray) (w : World) (h : RW w0 R (x :: r) w) (hx : (⟨x.toArray⟩ : ByteArray) = xs) :
    Calls Tryz.prog 77 #[.pointer (some ⟨R, 0, none⟩)] w fun e w' => e = .returned (.string xs) ∧ RW w0 R r w' ∧ (∀ n t cs, CB w n t cs → n ≠ R → CB w' n t cs) ∧ w.heap.size ≤ w'.heap.size := by
  obtain ⟨iv, h1, h2⟩ := h.box
  obtain ⟨b, o, n, c, rfl, hn1, hnc, hcm, hci, hdr⟩ := ids_inv h1
  rw [hx] at hci
  have c0 := h2.c 0
  have f0 := h2.f 0
  have e0 := bcell_keep2 h.below hci
  unfold maxLen at hcm
  simp only [List.getElem?_toArray, List.getElem?_cons_zero] at c0
  have HX := Lib.hid (fun jv (hj : OnesAt w0 jv (strCells r)) => (⟨h.below.setCell (p := ⟨R, 0, none⟩) h.ge _, h.ge, jv, hj, h2.put 0 jv⟩ : RW w0 R r (w.setCell ⟨R, 0, none⟩ jv)))
  have HK := Lib.hid (fun (jv : Value) (n : Nat) (t : TypeId) (cs : Array Value) (hc : CB w n t cs) (hne : n ≠ R) => hc.set_other (m := R) (o := 0) hne jv)
  have HDr := Lib.hid hdr
  clear h h1 h2 hci hdr
  by_cases hc1 : c = 1
  · subst hc1
    have hnj : n = 1 := by omega
    subst hnj
    have HW9 := Lib.hid (show RW w0 R r (w.setCell ⟨R, 0, none⟩ (.slice (some ⟨b, o, none⟩) 0 0)) from by have h9 := HX.out _ HDr.out; rw [if_pos rfl] at h9; exact h9)
    clear HDr HX
    go_enter Tryz.func77, Tryz.ntmps77
    go_wp2_with fail
    go_ret
    exact ⟨rfl, HW9.out, fun n t cs hc hne => HK.out _ n t cs hc hne, by simp⟩
  · have HW9 := Lib.hid (show RW w0 R r (w.setCell ⟨R, 0, none⟩ (.slice (some ⟨b, o + 1, none⟩) (n - 1) (c - 1))) from by have h9 := HX.out _ HDr.out; rw [if_neg hc1] at h9; exact h9)
    clear HDr HX
    go_enter Tryz.func77, Tryz.ntmps77
    go_wp2_with fail
    go_ret
    exact ⟨rfl, HW9.out, fun n t cs hc hne => HK.out _ n t cs hc hne, by simp⟩

/-- a list of blocks, items or rows as HTML -/
def RBPost (w0 : World) (R : Nat) (bs : List UInt8) (ids : List (List UInt8)) (_w : World) (e : Ending) (w' : World) : Prop := ∃ s, e = .returned (.string s) ∧ s.data.toList = bs ∧ RW w0 R ids w'
theorem bn_6 {n : Node} {i : Nat} {t d : List UInt8} {ids : List (List UInt8)} {ks : List Node} {bk : List UInt8} (h : n.kind = 6) : blkN i n.kind n.level t d ids ks bk = hLi1 ++ bk ++ hLi2 := by rw [h]; simp [blkN]
theorem bn_9 {n : Node} {i : Nat} {t d : List UInt8} {ids : List (List UInt8)} {ks : List Node} {bk : List UInt8} (h : n.kind = 9) : blkN i n.kind n.level t d ids ks bk = hTr1 ++ cellsH (tdH i) ks ++ hTr2 := by rw [h]; simp [blkN]
theorem bn_x {n : Node} {i : Nat} {t d : List UInt8} {ids : List (List UInt8)} {ks : List Node} {bk : List UInt8} (h6 : n.kind ≠ 6) (h9 : n.kind ≠ 9) : blkN i n.kind n.level t d ids ks bk = blkC n.kind n.level t d ids ks bk ++ hNl := by unfold blkN; rw [if_neg h6, if_neg h9]
theorem any_kind {n : Node} {p : Int} (h : nodeErr n p = 0) (hp : p = 0 ∨ p = 4 ∨ p = 6 ∨ p = 5 ∨ p = 8) : n.kind = 1 ∨ n.kind = 2 ∨ n.kind = 3 ∨ n.kind = 4 ∨ n.kind = 5 ∨ n.kind = 6 ∨ n.kind = 7 ∨ n.kind = 8 ∨ n.kind = 9 := by
  rcases hp with hp | hp | hp | hp | hp
  · have := blk_kind h (Or.inl hp); omega
  · have := blk_kind h (Or.inr (Or.inl hp)); omega
  · have := blk_kind h (Or.inr (Or.inr hp)); omega
  · subst hp; have := item_kind h; omega
  · subst hp; have := row_kind h; omega
theorem weight_take_le (l : List Node) (q : Nat) : weight (l.take q) ≤ weight l := by
  have h1 : l = l.take q ++ l.drop q := (List.take_append_drop q l).symm
  have h2 : ∀ a b : List Node, weight (a ++ b) = weight a + weight b := by
    intro a b
    rw [weight_sum, weight_sum, weight_sum, sumBy_append]
  have h3 := congrArg weight h1
  rw [h2] at h3
  omega
theorem size_of_list {s : ByteArray} {l : List UInt8} (h : s.data.toList = l) : s.size = l.length := by rw [← size_toList, h]

def InvH (fr : Value → Value → Value → Value → Value → Value → Value → Value → Value → Value → Value → Value → Value → Value → Value → Value → Value → Value → Act) (s sk xs zi ik : ByteArray) (n : Node) (A3 : Option Addr) (R c3 g : Nat) (W1 : World) (L : Array Bool) (a : Act) (w : World) : Prop :=
  ∃ x0 x1 x2 x3 x4 x5 x6 x7 x8 x9 x10 x11 x12 x13 x14 x15 x16 x17 : Value, a = fr x0 x1 x2 x3 x4 x5 x6 x7 x8 x9 x10 x11 x12 x13 x14 x15 x16 x17 ∧ Below W1.heap.size W1 w ∧ (L.getD 0 false = true → x0 = .string s) ∧ (L.getD 1 false = true → x1 = .string sk) ∧ (L.getD 2 false = true → x2 = .string ((⟨#[60, 104]⟩ : ByteArray) ++ sk)) ∧ (L.getD 3 false = true → x3 = .string ((⟨#[60, 104]⟩ : ByteArray) ++ sk ++ (⟨#[32, 105, 100, 61, 34]⟩ : ByteArray))) ∧ (L.getD 4 false = true → x4 = .string xs) ∧ (L.getD 5 false = true → x5 = .string zi) ∧ (L.getD 6 false = true → x6 = .string ((⟨#[60, 104]⟩ : ByteArray) ++ sk ++ (⟨#[32, 105, 100, 61, 34]⟩ : ByteArray) ++ zi)) ∧ (L.getD 7 false = true → x7 = .string ((⟨#[60, 104]⟩ : ByteArray) ++ sk ++ (⟨#[32, 105, 100, 61, 34]⟩ : ByteArray) ++ zi ++ (⟨#[34, 62]⟩ : ByteArray))) ∧ (L.getD 8 false = true → x8 = .pointer (some ⟨R, 0, none⟩)) ∧ (L.getD 9 false = true → x9 = .pointer (some ⟨g, 5, none⟩)) ∧ (L.getD 10 false = true → x10 = .slice A3 n.kids.length c3) ∧ (L.getD 11 false = true → x11 = .string ik) ∧ (L.getD 12 false = true → x12 = .string ((⟨#[60, 104]⟩ : ByteArray) ++ sk ++ (⟨#[32, 105, 100, 61, 34]⟩ : ByteArray) ++ zi ++ (⟨#[34, 62]⟩ : ByteArray) ++ ik)) ∧ (L.getD 13 false = true → x13 = .string ((⟨#[60, 104]⟩ : ByteArray) ++ sk ++ (⟨#[32, 105, 100, 61, 34]⟩ : ByteArray) ++ zi ++ (⟨#[34, 62]⟩ : ByteArray) ++ ik ++ (⟨#[60, 47, 104]⟩ : ByteArray))) ∧ (L.getD 14 false = true → x14 = .string sk) ∧ (L.getD 15 false = true → x15 = .string ((⟨#[60, 104]⟩ : ByteArray) ++ sk ++ (⟨#[32, 105, 100, 61, 34]⟩ : ByteArray) ++ zi ++ (⟨#[34, 62]⟩ : ByteArray) ++ ik ++ (⟨#[60, 47, 104]⟩ : ByteArray) ++ sk)) ∧ (L.getD 16 false = true → x16 = .string ((⟨#[60, 104]⟩ : ByteArray) ++ sk ++ (⟨#[32, 105, 100, 61, 34]⟩ : ByteArray) ++ zi ++ (⟨#[34, 62]⟩ : ByteArray) ++ ik ++ (⟨#[60, 47, 104]⟩ : ByteArray) ++ sk ++ (⟨#[62, 10]⟩ : ByteArray))) ∧ (L.getD 17 false = true → x17 = .string (s ++ ((⟨#[60, 104]⟩ : ByteArray) ++ sk ++ (⟨#[32, 105, 100, 61, 34]⟩ : ByteArray) ++ zi ++ (⟨#[34, 62]⟩ : ByteArray) ++ ik ++ (⟨#[60, 47, 104]⟩ : ByteArray) ++ sk ++ (⟨#[62, 10]⟩ : ByteArray))))
theorem InvH.start {m : Nat} {fr : Value → Value → Value → Value → Value → Value → Value → Value → Value → Value → Value → Value → Value → Value → Value → Value → Value → Value → Act} {s sk xs zi ik : ByteArray} {n : Node} {A3 : Option Addr} {R c3 g : Nat} {W1 : World} {a : Act} (x0 x1 x2 x3 x4 x5 x6 x7 x8 x9 x10 x11 x12 x13 x14 x15 x16 x17 : Value) (h : a = fr x0 x1 x2 x3 x4 x5 x6 x7 x8 x9 x10 x11 x12 x13 x14 x15 x16 x17) : InvH fr s sk xs zi ik n A3 R c3 g W1 (Array.replicate m false) a W1 :=
  ⟨x0, x1, x2, x3, x4, x5, x6, x7, x8, x9, x10, x11, x12, x13, x14, x15, x16, x17, h, Below.refl _ _, (fun h => by rw [getD_replicate_false] at h; cases h), (fun h => by rw [getD_replicate_false] at h; cases h), (fun h => by rw [getD_replicate_false] at h; cases h), (fun h => by rw [getD_replicate_false] at h; cases h), (fun h => by rw [getD_replicate_false] at h; cases h), (fun h => by rw [getD_replicate_false] at h; cases h), (fun h => by rw [getD_replicate_false] at h; cases h), (fun h => by rw [getD_replicate_false] at h; cases h), (fun h => by rw [getD_replicate_false] at h; cases h), (fun h => by rw [getD_replicate_false] at h; cases h), (fun h => by rw [getD_replicate_false] at h; cases h), (fun h => by rw [getD_replicate_false] at h; cases h), (fun h => by rw [getD_replicate_false] at h; cases h), (fun h => by rw [getD_replicate_false] at h; cases h), (fun h => by rw [getD_replicate_false] at h; cases h), (fun h => by rw [getD_replicate_false] at h; cases h), (fun h => by rw [getD_replicate_false] at h; cases h), (fun h => by rw [getD_replicate_false] at h; cases h)⟩

def InvF (fr : Value → Value → Value → Value → Value → Value → Value → Value → Value → Value → Act) (s zf zt : ByteArray) (n : Node) (g : Nat) (W1 : World) (L : Array Bool) (a : Act) (w : World) : Prop :=
  ∃ x0 x1 x2 x3 x4 x5 x6 x7 x8 x9 : Value, a = fr x0 x1 x2 x3 x4 x5 x6 x7 x8 x9 ∧ Below W1.heap.size W1 w ∧ (L.getD 0 false = true → x0 = .string s) ∧ (L.getD 1 false = true → x1 = .pointer (some ⟨g, 3, none⟩)) ∧ (L.getD 2 false = true → x2 = .string n.dest) ∧ (L.getD 3 false = true → x3 = .string zf) ∧ (L.getD 4 false = true → x4 = .pointer (some ⟨g, 2, none⟩)) ∧ (L.getD 5 false = true → x5 = .string n.text) ∧ (L.getD 6 false = true → x6 = .string zt) ∧ (L.getD 7 false = true → x7 = .string (zf ++ zt)) ∧ (L.getD 8 false = true → x8 = .string (zf ++ zt ++ (⟨#[60, 47, 99, 111, 100, 101, 62, 60, 47, 112, 114, 101, 62, 10]⟩ : ByteArray))) ∧ (L.getD 9 false = true → x9 = .string (s ++ (zf ++ zt ++ (⟨#[60, 47, 99, 111, 100, 101, 62, 60, 47, 112, 114, 101, 62, 10]⟩ : ByteArray))))
theorem InvF.start {m : Nat} {fr : Value → Value → Value → Value → Value → Value → Value → Value → Value → Value → Act} {s zf zt : ByteArray} {n : Node} {g : Nat} {W1 : World} {a : Act} (x0 x1 x2 x3 x4 x5 x6 x7 x8 x9 : Value) (h : a = fr x0 x1 x2 x3 x4 x5 x6 x7 x8 x9) : InvF fr s zf zt n g W1 (Array.replicate m false) a W1 :=
  ⟨x0, x1, x2, x3, x4, x5, x6, x7, x8, x9, h, Below.refl _ _, (fun h => by rw [getD_replicate_false] at h; cases h), (fun h => by rw [getD_replicate_false] at h; cases h), (fun h => by rw [getD_replicate_false] at h; cases h), (fun h => by rw [getD_replicate_false] at h; cases h), (fun h => by rw [getD_replicate_false] at h; cases h), (fun h => by rw [getD_replicate_false] at h; cases h), (fun h => by rw [getD_replicate_false] at h; cases h), (fun h => by rw [getD_replicate_false] at h; cases h), (fun h => by rw [getD_replicate_false] at h; cases h), (fun h => by rw [getD_replicate_false] at h; cases h)⟩


set_option maxRecDepth 100000 in
set_option maxHeartbeats 8000000 in
theorem rblk_any (w0 : World) (R : Nat) (htab : TabOk w0) (N : Nat) : ∀ (l : List Node) (v : Value) (ids : List (List UInt8)) (w : World) (p : Int), SizeOf.sizeOf l ≤ N → NodesAt w0 v l → weight l ≤ 1048576 → nodesErr l p = 0 → (p = 0 ∨ p = 4 ∨ p = 6 ∨ p = 5 ∨ p = 8) → Leveled l →
    (headsL l).length ≤ ids.length → (∀ x ∈ ids, x.length ≤ 1048700) → RW w0 R ids w →
    Calls Tryz.prog 47 #[.pointer (some ⟨R, 0, none⟩), v] w (RBPost w0 R (blkL 0 l ids) (ids.drop (headsL l).length) w) := by
  induction N with
  | zero =>
    intro l v ids w p hN
    cases l <;> simp at hN
  | succ N ih =>
    intro l v ids w p hN h ht he hp hll hid hib hW0
    obtain ⟨An, c, bl, o, kv, rfl, hlc, hc, hA, hcell, hkid⟩ := h.inv
    unfold maxLen at hc
    have HCell := Lib.hid hcell; clear hcell
    have HKid := Lib.hid hkid; clear hkid
    have HN := Lib.hid hN; clear hN
    have HI := Lib.hid ih; clear ih
    have H00 := Lib.hid hW0; clear hW0
    have HE := Lib.hid he
    have HP := Lib.hid hp
    have HLv := Lib.hid hll
    have HId := Lib.hid hid
    have HIb := Lib.hid hib
    have HTab := Lib.hid htab
    have HLen := Lib.hid (fun k => blk_len (l := l.take k) (i := 0) (ids := ids) (leveled_take hll k) hib)
    clear h he hp hll hid hib htab
    go_enter Tryz.func47, Tryz.ntmps47
    go_wp2_with fail
    go_loopw [5, 15] (fun t0 t wr => ∃ (k : Nat) (s : ByteArray), k ≤ l.length ∧ t = .int .i64 k ∧ t0 = .string s ∧ Hid (s.data.toList = blkL 0 (l.take k) ids) ∧ Hid (RW w0 R (ids.drop (headsL (l.take k)).length) wr)) (fun _ t _ => l.length - (intOf t).toNat)
    case atStart => exact ⟨0, ⟨#[]⟩, Nat.zero_le _, rfl, rfl, (show _ = _ by rw [List.take_zero, blkL_nil]), by rw [List.take_zero, headsL_nil]; exact H00.out⟩
    case round =>
      obtain ⟨k, s, hk, rfl, rfl, hcs, hW⟩ := hrel
      by_cases hlt : k < l.length
      · have hA' := hA (by rintro rfl; simp at hlt)
        subst hA'
        obtain ⟨n, hn⟩ : ∃ n, l[k]? = some n := ⟨_, List.getElem?_eq_getElem hlt⟩
        obtain ⟨p0, p1, p2, p3, p4, p5, _, _, _, _, _⟩ := (HCell.out k n hn).keep hW.out.keeps
        have bb := World.block_lt_of_cell? _ _ p5
        simp only at bb
        have hkid := HKid.out k n hn
        obtain ⟨A3, c3, b3, o3, k3, e3, _, _, _, _, _⟩ := hkid.inv
        rw [e3] at hkid p5
        have HKd := Lib.hid hkid; clear hkid
        have HSz := Lib.hid (size_at HN.out hn)
        have hwt := weight_take hn
        have hsl : s.size ≤ 6292500 * weight (l.take k) := by rw [size_of_list hcs.out]; exact HLen.out k
        have hss : s.size ≤ 6598164480000 := by omega
        have hwk : weight n.kids ≤ 1048576 := by omega
        have hts : n.text.size ≤ 1048576 := by omega
        have hds : n.dest.size ≤ 1048576 := by omega
        obtain ⟨e1, e2⟩ := nodesErr_mem HE.out hn
        obtain ⟨l1, _, l3⟩ := HLv.out.at_ hn
        have hct := hc_take hn
        have hcl := heads_take_le l (k + 1)
        obtain ⟨ids1, hids1⟩ : ∃ z, ids.drop (headsL (l.take k)).length = z := ⟨_, rfl⟩
        have hdl : hcN n ≤ ids1.length := by rw [← hids1, List.length_drop]; have := HId.out; omega
        have HDb := Lib.hid (show ∀ y ∈ ids1, y.length ≤ 1048700 from fun y hy => HIb.out y (List.mem_of_mem_drop (hids1 ▸ hy)))
        have HDr := Lib.hid (show ids1.drop (hcN n) = ids.drop (headsL (l.take (k + 1))).length by rw [← hids1, List.drop_drop, hct])
        have HTk := Lib.hid (show blkL 0 (l.take (k + 1)) ids = s.data.toList ++ blkN k n.kind n.level n.text.data.toList n.dest.data.toList ids1 n.kids (blkL 0 n.kids ids1) by rw [blkL_take ids hn, ← hcs.out, hids1]; rfl)
        rw [hids1] at hW
        have H0 := Lib.hid (hW.out.alloc (nodeBox n (.slice A3 n.kids.length c3)))
        have C0 := Lib.hid (show CB (wr.alloc (nodeBox n (.slice A3 n.kids.length c3))) wr.heap.size 45 (nodeC n (.slice A3 n.kids.length c3)) from CB.new _ _ _)
        have hgne : wr.heap.size ≠ R := by have := hW.out.lt; omega
        have HG := Lib.hid hgne
        have HLv3 := Lib.hid l3
        have HE2 := Lib.hid e2
        have HLl := Lib.hid l1
        have HHd := Lib.hid hdl
        have hx := any_kind e1 HP.out
        obtain ⟨sk, hsk⟩ : ∃ z : ByteArray, (⟨(Lib.itoa n.level).toArray⟩ : ByteArray) = z := ⟨_, rfl⟩
        have hsks : sk.size ≤ 21 := by rw [← hsk]; exact lvB_le l1
        have HSk := Lib.hid (show lvB n.level = sk.data.toList by rw [← hsk]; rfl)
        have HIt := Lib.hid (fun w ht => itoa_w n.level sk w ⟨by omega, by omega⟩ hsk ht)
        have hil := inl_len n.kids
        have hil2 : (inlL n.kids).length ≤ 67108864 := by omega
        obtain ⟨ik, hik⟩ : ∃ z : ByteArray, (⟨(inlL n.kids).toArray⟩ : ByteArray) = z := ⟨_, rfl⟩
        have hiks : ik.size ≤ 67108864 := by rw [← hik]; exact hil2
        have HIkl := Lib.hid (show inlL n.kids = ik.data.toList by rw [← hik])
        have HIk := Lib.hid (fun (w : World) (h : NodesAt w (.slice A3 n.kids.length c3) n.kids) => strRes_is (rinl_any (some ⟨R, 0, none⟩) _ n.kids _ w (Nat.le_refl _) h hwk) hik)
        have hbl := blk_len (l := n.kids) (i := 0) (ids := ids1) l3 HDb.out
        have hbl2 : (blkL 0 n.kids ids1).length ≤ 6598164480000 := by omega
        have HBl := Lib.hid hbl2
        obtain ⟨zt, hzt⟩ : ∃ z : ByteArray, (⟨(escL n.text.data.toList).toArray⟩ : ByteArray) = z := ⟨_, rfl⟩
        have hzts := esc_size n.text zt hzt
        have HZt := Lib.hid (show escL n.text.data.toList = zt.data.toList by rw [← hzt])
        have HEt := Lib.hid (fun w => escaped_q2 n.text zt w hzt (by omega))
        obtain ⟨zf, hzf⟩ : ∃ z : ByteArray, (⟨(infoH n.dest.data.toList).toArray⟩ : ByteArray) = z := ⟨_, rfl⟩
        have hzfs := info_size n.dest zf hzf
        have HZf := Lib.hid (show infoH n.dest.data.toList = zf.data.toList by rw [← hzf])
        have HEf := Lib.hid (fun w => info_q n.dest zf w hds hzf)
        have HTb := Lib.hid (fun (w : World) (h : RW w0 R ids1 w) => HTab.out.keep h.below)
        have HBk := Lib.hid (fun (w : World) (h : RW w0 R ids1 w) (p : Int) (hp : p = 0 ∨ p = 4 ∨ p = 6 ∨ p = 5 ∨ p = 8) (he : nodesErr n.kids p = 0) (hh : (headsL n.kids).length ≤ ids1.length) => HI.out n.kids _ ids1 w p HSz.out HKd.out hwk he hp HLv3.out hh HDb.out h)
        clear hn hA e3 hwt hsl e1 e2 l1 l3 hct hcl hdl hids1 hsk hik hil hil2 hbl hbl2 hzt hzf hgne
        go_wp2_with fail
        go_must (refine (HIt.out _ (HTb.out _ H0.out)).mono ?_)
        rintro e w1 ⟨rfl, hb⟩
        have H1 := Lib.hid (H0.out.more hb)
        have C1 := Lib.hid (C0.out.below hb)
        obtain ⟨b10, b11, b12, b13, b14, b15⟩ := C1.out.six
        clear hb H0 C0
        rcases hx with hx | hx | hx | hx | hx | hx | hx | hx | hx
        · have HPN := Lib.hid ((bn_x (i := k) (t := n.text.data.toList) (d := n.dest.data.toList) (ids := ids1) (ks := n.kids) (bk := blkL 0 n.kids ids1) (by omega) (by omega)).trans (congrArg (· ++ hNl) (blk_1 hx)))
          have t1 : (n.kind == 1) = true := by simp; omega
          have t2 : (n.kind == 2) = false := by simp; omega
          have t3 : (n.kind == 3) = false := by simp; omega
          have t4 : (n.kind == 4) = false := by simp; omega
          have t5 : (n.kind == 5) = false := by simp; omega
          have t6 : (n.kind == 6) = false := by simp; omega
          have t7 : (n.kind == 7) = false := by simp; omega
          have t8 : (n.kind == 8) = false := by simp; omega
          have t9 : (n.kind == 9) = false := by simp; omega
          have HHc := Lib.hid (hc_head HE2.out hx)
          clear hx
          have hne : 1 ≤ ids1.length := by have := HHd.out; rw [HHc.out] at this; exact this
          obtain ⟨x, r, rfl⟩ : ∃ x r, ids1 = x :: r := by
            cases ids1 with
            | nil => simp at hne
            | cons x r => exact ⟨x, r, rfl⟩
          have hxs := HDb.out x (by simp)
          obtain ⟨xs, hxs2⟩ : ∃ z : ByteArray, (⟨x.toArray⟩ : ByteArray) = z := ⟨_, rfl⟩
          have hxl : xs.data.toList = x := by rw [← hxs2]
          have hxz : xs.size ≤ 1048700 := by rw [← size_toList, hxl]; exact hxs
          obtain ⟨zi, hzi⟩ : ∃ z : ByteArray, (⟨(escL xs.data.toList).toArray⟩ : ByteArray) = z := ⟨_, rfl⟩
          have hzis := esc_size xs zi hzi
          have HZi := Lib.hid (show escL (headId (x :: r)) = zi.data.toList by rw [← hzi, hxl]; rfl)
          have HEi := Lib.hid (fun w => escaped_q2 xs zi w hzi (by omega))
          have HDrp := Lib.hid (show (x :: r).drop 1 = r from rfl)
          clear hzi hxs hxl hne
          go_wp2_with fail
          go_must (refine (id_q xs _ H1.out hxs2).mono ?_)
          rintro e w2 ⟨rfl, hr, hkeep, hsz⟩
          have C3 := Lib.hid (hkeep _ _ _ C1.out HG.out)
          have H3 := Lib.hid hr
          clear hr hkeep hxs2 hsz H1 C1 b10 b11 b12 b13 b14 b15
          have H1 := H3
          have C1 := C3
          clear H3 C3
          obtain ⟨b10, b11, b12, b13, b14, b15⟩ := C1.out.six
          go_wp2_with fail
          refine wp_region_any (by kernel_rfl) ?_
          change wpAny _ _ _ _ _ _ _ (w2).drew
          obtain ⟨g, hg⟩ : ∃ g, wr.heap.size = g := ⟨_, rfl⟩
          obtain ⟨W2, hW2⟩ : ∃ W2, (w2).drew = W2 := ⟨_, rfl⟩
          have C2 := Lib.hid (show CB W2 g 45 (nodeC n (.slice A3 n.kids.length c3)) by rw [← hW2, ← hg]; exact C1.out.drew)
          have HKd2 := Lib.hid (show NodesAt W2 (.slice A3 n.kids.length c3) n.kids by rw [← hW2]; exact HKd.out.keep (RW.keeps (H1.out.more (Below.refl _ _).drew)))
          have HR2 := Lib.hid (show RW w0 R r W2 by rw [← hW2]; exact H1.out.more (Below.refl _ _).drew)
          rw [hW2, hg]
          clear hW2 C1 HKd p0 p1 p2 p3 p4 p5 bb HG
          refine wpAny_inv [0, 1, 2, 3, 4, 5, 6, 7, 8, 9, 10, 11, 12, 13, 14, 15, 16, 17] (InvH (fun v29 v30 v31 v32 v33 v34 v35 v36 v37 v38 v39 v40 v41 v42 v43 v44 v45 v46 => ⟨#[.pointer (some ⟨R, 0, none⟩), .slice (some ⟨bl, o, none⟩) l.length c, undef, undef, .string ⟨#[]⟩, .string s, .int .i64 ↑k, .pointer (some ⟨g, 0, none⟩), .string sk, .string xs, u10, undef, u12, .slice (some ⟨bl, o, none⟩) l.length c, .int .i64 ↑l.length, .int .i64 ↑k, .bool true, .int .i64 ↑k, .pointer (some ⟨bl, o + k * 6, none⟩), .agg #[.int .i64 n.kind, .int .i64 n.level, .string n.text, .string n.dest, .string n.title, .slice A3 n.kids.length c3], .pointer (some ⟨g, 1, none⟩), .int .i64 n.level, .string sk, .pointer (some ⟨g, 0, none⟩), .int .i64 n.kind, .bool true, .bool true, .pointer (some ⟨R, 0, none⟩), .string xs, v29, v30, v31, v32, v33, v34, v35, v36, v37, v38, v39, v40, v41, v42, v43, v44, v45, v46, u47, u48, u49, u50, u51, u52, u53, u54, u55, u56, u57, u58, u59, u60, u61, u62, u63, u64, u65, u66, u67, u68, u69, u70, u71, u72, u73, u74, u75, u76, u77, u78, u79, u80, u81, u82, u83, u84, u85, u86, u87, u88, u89, u90, u91, u92, u93, u94, u95, u96, u97, u98, u99, u100, u101, u102, u103, u104, u105, u106, u107, u108, u109, u110, u111, u112, u113, u114, u115, u116, u117, u118, u119, u120, u121, u122, u123, u124, u125, u126, u127, u128, u129, u130, u131, u132, u133, u134, u135, u136, u137, u138, u139, u140, u141, u142, u143, u144, u145, u146, u147, u148, u149, u150, u151, u152, u153, u154, u155, u156, u157, u158, u159, u160, u161, u162, u163, u164, u165, u166, u167, u168, u169, u170, undef], []⟩) s sk xs zi ik n A3 R c3 g W2) #[true, true, true, true, true, true, true, true, true, true, true, true, true, true, true, true, true, true, false] (g := 1) (by kernel_rfl) (by kernel_rfl) (by kernel_rfl) (InvH.start u29 u30 u31 u32 u33 u34 u35 u36 u37 u38 u39 u40 u41 u42 u43 u44 u45 u46 rfl) ?step ?last
          case step =>
            intro i hi L a' w' hs hr hI
            obtain ⟨x0, x1, x2, x3, x4, x5, x6, x7, x8, x9, x10, x11, x12, x13, x14, x15, x16, x17, rfl, hB, h0, h1, h2, h3, h4, h5, h6, h7, h8, h9, h10, h11, h12, h13, h14, h15, h16, h17⟩ := hI
            simp only [List.mem_cons, List.not_mem_nil, or_false] at hi
            rcases hi with rfl | rfl | rfl | rfl | rfl | rfl | rfl | rfl | rfl | rfl | rfl | rfl | rfl | rfl | rfl | rfl | rfl | rfl
            · refine wpOp_step rfl (fun K hK => ?_)
              go_simp
              exact hK _ _ ⟨_, _, _, _, _, _, _, _, _, _, _, _, _, _, _, _, _, _, rfl, hB, fun _ => rfl, fun h => h1 (getD_was (by decide) h), fun h => h2 (getD_was (by decide) h), fun h => h3 (getD_was (by decide) h), fun h => h4 (getD_was (by decide) h), fun h => h5 (getD_was (by decide) h), fun h => h6 (getD_was (by decide) h), fun h => h7 (getD_was (by decide) h), fun h => h8 (getD_was (by decide) h), fun h => h9 (getD_was (by decide) h), fun h => h10 (getD_was (by decide) h), fun h => h11 (getD_was (by decide) h), fun h => h12 (getD_was (by decide) h), fun h => h13 (getD_was (by decide) h), fun h => h14 (getD_was (by decide) h), fun h => h15 (getD_was (by decide) h), fun h => h16 (getD_was (by decide) h), fun h => h17 (getD_was (by decide) h)⟩
            · refine wpOp_step rfl (fun K hK => ?_)
              go_simp
              exact hK _ _ ⟨_, _, _, _, _, _, _, _, _, _, _, _, _, _, _, _, _, _, rfl, hB, fun h => h0 (getD_was (by decide) h), fun _ => rfl, fun h => h2 (getD_was (by decide) h), fun h => h3 (getD_was (by decide) h), fun h => h4 (getD_was (by decide) h), fun h => h5 (getD_was (by decide) h), fun h => h6 (getD_was (by decide) h), fun h => h7 (getD_was (by decide) h), fun h => h8 (getD_was (by decide) h), fun h => h9 (getD_was (by decide) h), fun h => h10 (getD_was (by decide) h), fun h => h11 (getD_was (by decide) h), fun h => h12 (getD_was (by decide) h), fun h => h13 (getD_was (by decide) h), fun h => h14 (getD_was (by decide) h), fun h => h15 (getD_was (by decide) h), fun h => h16 (getD_was (by decide) h), fun h => h17 (getD_was (by decide) h)⟩
            · have q1 := h1 (ready_dep hr (by kernel_rfl))
              subst q1
              refine wpOp_step rfl (fun K hK => ?_)
              go_simp
              rw [if_neg (by first | omega | (simp only [ByteArray.size_append]; omega) | (simp; omega))]
              go_simp
              exact hK _ _ ⟨_, _, _, _, _, _, _, _, _, _, _, _, _, _, _, _, _, _, rfl, hB, fun h => h0 (getD_was (by decide) h), fun _ => rfl, fun _ => rfl, fun h => h3 (getD_was (by decide) h), fun h => h4 (getD_was (by decide) h), fun h => h5 (getD_was (by decide) h), fun h => h6 (getD_was (by decide) h), fun h => h7 (getD_was (by decide) h), fun h => h8 (getD_was (by decide) h), fun h => h9 (getD_was (by decide) h), fun h => h10 (getD_was (by decide) h), fun h => h11 (getD_was (by decide) h), fun h => h12 (getD_was (by decide) h), fun h => h13 (getD_was (by decide) h), fun h => h14 (getD_was (by decide) h), fun h => h15 (getD_was (by decide) h), fun h => h16 (getD_was (by decide) h), fun h => h17 (getD_was (by decide) h)⟩
            · have q2 := h2 (ready_dep hr (by kernel_rfl))
              subst q2
              refine wpOp_step rfl (fun K hK => ?_)
              go_simp
              rw [if_neg (by first | omega | (simp only [ByteArray.size_append]; omega) | (simp; omega))]
              go_simp
              exact hK _ _ ⟨_, _, _, _, _, _, _, _, _, _, _, _, _, _, _, _, _, _, rfl, hB, fun h => h0 (getD_was (by decide) h), fun h => h1 (getD_was (by decide) h), fun _ => rfl, fun _ => rfl, fun h => h4 (getD_was (by decide) h), fun h => h5 (getD_was (by decide) h), fun h => h6 (getD_was (by decide) h), fun h => h7 (getD_was (by decide) h), fun h => h8 (getD_was (by decide) h), fun h => h9 (getD_was (by decide) h), fun h => h10 (getD_was (by decide) h), fun h => h11 (getD_was (by decide) h), fun h => h12 (getD_was (by decide) h), fun h => h13 (getD_was (by decide) h), fun h => h14 (getD_was (by decide) h), fun h => h15 (getD_was (by decide) h), fun h => h16 (getD_was (by decide) h), fun h => h17 (getD_was (by decide) h)⟩
            · refine wpOp_step rfl (fun K hK => ?_)
              go_simp
              exact hK _ _ ⟨_, _, _, _, _, _, _, _, _, _, _, _, _, _, _, _, _, _, rfl, hB, fun h => h0 (getD_was (by decide) h), fun h => h1 (getD_was (by decide) h), fun h => h2 (getD_was (by decide) h), fun h => h3 (getD_was (by decide) h), fun _ => rfl, fun h => h5 (getD_was (by decide) h), fun h => h6 (getD_was (by decide) h), fun h => h7 (getD_was (by decide) h), fun h => h8 (getD_was (by decide) h), fun h => h9 (getD_was (by decide) h), fun h => h10 (getD_was (by decide) h), fun h => h11 (getD_was (by decide) h), fun h => h12 (getD_was (by decide) h), fun h => h13 (getD_was (by decide) h), fun h => h14 (getD_was (by decide) h), fun h => h15 (getD_was (by decide) h), fun h => h16 (getD_was (by decide) h), fun h => h17 (getD_was (by decide) h)⟩
            · have q4 := h4 (ready_dep hr (by kernel_rfl))
              subst q4
              refine wpOp_step rfl (fun K hK => ?_)
              go_simp
              refine (HEi.out _).mono ?_
              rintro e w'' ⟨rfl, hw4⟩; obtain rfl := hw4
              exact hK _ _ ⟨_, _, _, _, _, _, _, _, _, _, _, _, _, _, _, _, _, _, rfl, hB, fun h => h0 (getD_was (by decide) h), fun h => h1 (getD_was (by decide) h), fun h => h2 (getD_was (by decide) h), fun h => h3 (getD_was (by decide) h), fun _ => rfl, fun _ => rfl, fun h => h6 (getD_was (by decide) h), fun h => h7 (getD_was (by decide) h), fun h => h8 (getD_was (by decide) h), fun h => h9 (getD_was (by decide) h), fun h => h10 (getD_was (by decide) h), fun h => h11 (getD_was (by decide) h), fun h => h12 (getD_was (by decide) h), fun h => h13 (getD_was (by decide) h), fun h => h14 (getD_was (by decide) h), fun h => h15 (getD_was (by decide) h), fun h => h16 (getD_was (by decide) h), fun h => h17 (getD_was (by decide) h)⟩
            · have q3 := h3 (ready_dep hr (by kernel_rfl))
              have q5 := h5 (ready_dep hr (by kernel_rfl))
              subst q3
              subst q5
              refine wpOp_step rfl (fun K hK => ?_)
              go_simp
              rw [if_neg (by first | omega | (simp only [ByteArray.size_append]; omega) | (simp; omega))]
              go_simp
              exact hK _ _ ⟨_, _, _, _, _, _, _, _, _, _, _, _, _, _, _, _, _, _, rfl, hB, fun h => h0 (getD_was (by decide) h), fun h => h1 (getD_was (by decide) h), fun h => h2 (getD_was (by decide) h), fun _ => rfl, fun h => h4 (getD_was (by decide) h), fun _ => rfl, fun _ => rfl, fun h => h7 (getD_was (by decide) h), fun h => h8 (getD_was (by decide) h), fun h => h9 (getD_was (by decide) h), fun h => h10 (getD_was (by decide) h), fun h => h11 (getD_was (by decide) h), fun h => h12 (getD_was (by decide) h), fun h => h13 (getD_was (by decide) h), fun h => h14 (getD_was (by decide) h), fun h => h15 (getD_was (by decide) h), fun h => h16 (getD_was (by decide) h), fun h => h17 (getD_was (by decide) h)⟩
            · have q6 := h6 (ready_dep hr (by kernel_rfl))
              subst q6
              refine wpOp_step rfl (fun K hK => ?_)
              go_simp
              rw [if_neg (by first | omega | (simp only [ByteArray.size_append]; omega) | (simp; omega))]
              go_simp
              exact hK _ _ ⟨_, _, _, _, _, _, _, _, _, _, _, _, _, _, _, _, _, _, rfl, hB, fun h => h0 (getD_was (by decide) h), fun h => h1 (getD_was (by decide) h), fun h => h2 (getD_was (by decide) h), fun h => h3 (getD_was (by decide) h), fun h => h4 (getD_was (by decide) h), fun h => h5 (getD_was (by decide) h), fun _ => rfl, fun _ => rfl, fun h => h8 (getD_was (by decide) h), fun h => h9 (getD_was (by decide) h), fun h => h10 (getD_was (by decide) h), fun h => h11 (getD_was (by decide) h), fun h => h12 (getD_was (by decide) h), fun h => h13 (getD_was (by decide) h), fun h => h14 (getD_was (by decide) h), fun h => h15 (getD_was (by decide) h), fun h => h16 (getD_was (by decide) h), fun h => h17 (getD_was (by decide) h)⟩
            · refine wpOp_step rfl (fun K hK => ?_)
              go_simp
              exact hK _ _ ⟨_, _, _, _, _, _, _, _, _, _, _, _, _, _, _, _, _, _, rfl, hB, fun h => h0 (getD_was (by decide) h), fun h => h1 (getD_was (by decide) h), fun h => h2 (getD_was (by decide) h), fun h => h3 (getD_was (by decide) h), fun h => h4 (getD_was (by decide) h), fun h => h5 (getD_was (by decide) h), fun h => h6 (getD_was (by decide) h), fun h => h7 (getD_was (by decide) h), fun _ => rfl, fun h => h9 (getD_was (by decide) h), fun h => h10 (getD_was (by decide) h), fun h => h11 (getD_was (by decide) h), fun h => h12 (getD_was (by decide) h), fun h => h13 (getD_was (by decide) h), fun h => h14 (getD_was (by decide) h), fun h => h15 (getD_was (by decide) h), fun h => h16 (getD_was (by decide) h), fun h => h17 (getD_was (by decide) h)⟩
            · refine wpOp_step rfl (fun K hK => ?_)
              go_simp
              exact hK _ _ ⟨_, _, _, _, _, _, _, _, _, _, _, _, _, _, _, _, _, _, rfl, hB, fun h => h0 (getD_was (by decide) h), fun h => h1 (getD_was (by decide) h), fun h => h2 (getD_was (by decide) h), fun h => h3 (getD_was (by decide) h), fun h => h4 (getD_was (by decide) h), fun h => h5 (getD_was (by decide) h), fun h => h6 (getD_was (by decide) h), fun h => h7 (getD_was (by decide) h), fun h => h8 (getD_was (by decide) h), fun _ => rfl, fun h => h10 (getD_was (by decide) h), fun h => h11 (getD_was (by decide) h), fun h => h12 (getD_was (by decide) h), fun h => h13 (getD_was (by decide) h), fun h => h14 (getD_was (by decide) h), fun h => h15 (getD_was (by decide) h), fun h => h16 (getD_was (by decide) h), fun h => h17 (getD_was (by decide) h)⟩
            · have q9 := h9 (ready_dep hr (by kernel_rfl))
              subst q9
              have z := (C2.out.below hB).six.2.2.2.2.2
              refine wpOp_step rfl (fun K hK => ?_)
              go_simp
              exact hK _ _ ⟨_, _, _, _, _, _, _, _, _, _, _, _, _, _, _, _, _, _, rfl, hB, fun h => h0 (getD_was (by decide) h), fun h => h1 (getD_was (by decide) h), fun h => h2 (getD_was (by decide) h), fun h => h3 (getD_was (by decide) h), fun h => h4 (getD_was (by decide) h), fun h => h5 (getD_was (by decide) h), fun h => h6 (getD_was (by decide) h), fun h => h7 (getD_was (by decide) h), fun h => h8 (getD_was (by decide) h), fun _ => rfl, fun _ => rfl, fun h => h11 (getD_was (by decide) h), fun h => h12 (getD_was (by decide) h), fun h => h13 (getD_was (by decide) h), fun h => h14 (getD_was (by decide) h), fun h => h15 (getD_was (by decide) h), fun h => h16 (getD_was (by decide) h), fun h => h17 (getD_was (by decide) h)⟩
            · have q8 := h8 (ready_dep hr (by kernel_rfl))
              have q10 := h10 (ready_dep hr (by kernel_rfl))
              subst q8
              subst q10
              refine wpOp_step rfl (fun K hK => ?_)
              go_simp
              refine (HIk.out _ (HKd2.out.keep (Keeps.of_below hB))).mono ?_
              rintro e w'' ⟨rfl, hb⟩
              exact hK _ _ ⟨_, _, _, _, _, _, _, _, _, _, _, _, _, _, _, _, _, _, rfl, hB.trans (hb.mono hB.size), fun h => h0 (getD_was (by decide) h), fun h => h1 (getD_was (by decide) h), fun h => h2 (getD_was (by decide) h), fun h => h3 (getD_was (by decide) h), fun h => h4 (getD_was (by decide) h), fun h => h5 (getD_was (by decide) h), fun h => h6 (getD_was (by decide) h), fun h => h7 (getD_was (by decide) h), fun _ => rfl, fun h => h9 (getD_was (by decide) h), fun _ => rfl, fun _ => rfl, fun h => h12 (getD_was (by decide) h), fun h => h13 (getD_was (by decide) h), fun h => h14 (getD_was (by decide) h), fun h => h15 (getD_was (by decide) h), fun h => h16 (getD_was (by decide) h), fun h => h17 (getD_was (by decide) h)⟩
            · have q7 := h7 (ready_dep hr (by kernel_rfl))
              have q11 := h11 (ready_dep hr (by kernel_rfl))
              subst q7
              subst q11
              refine wpOp_step rfl (fun K hK => ?_)
              go_simp
              rw [if_neg (by first | omega | (simp only [ByteArray.size_append]; omega) | (simp; omega))]
              go_simp
              exact hK _ _ ⟨_, _, _, _, _, _, _, _, _, _, _, _, _, _, _, _, _, _, rfl, hB, fun h => h0 (getD_was (by decide) h), fun h => h1 (getD_was (by decide) h), fun h => h2 (getD_was (by decide) h), fun h => h3 (getD_was (by decide) h), fun h => h4 (getD_was (by decide) h), fun h => h5 (getD_was (by decide) h), fun h => h6 (getD_was (by decide) h), fun _ => rfl, fun h => h8 (getD_was (by decide) h), fun h => h9 (getD_was (by decide) h), fun h => h10 (getD_was (by decide) h), fun _ => rfl, fun _ => rfl, fun h => h13 (getD_was (by decide) h), fun h => h14 (getD_was (by decide) h), fun h => h15 (getD_was (by decide) h), fun h => h16 (getD_was (by decide) h), fun h => h17 (getD_was (by decide) h)⟩
            · have q12 := h12 (ready_dep hr (by kernel_rfl))
              subst q12
              refine wpOp_step rfl (fun K hK => ?_)
              go_simp
              rw [if_neg (by first | omega | (simp only [ByteArray.size_append]; omega) | (simp; omega))]
              go_simp
              exact hK _ _ ⟨_, _, _, _, _, _, _, _, _, _, _, _, _, _, _, _, _, _, rfl, hB, fun h => h0 (getD_was (by decide) h), fun h => h1 (getD_was (by decide) h), fun h => h2 (getD_was (by decide) h), fun h => h3 (getD_was (by decide) h), fun h => h4 (getD_was (by decide) h), fun h => h5 (getD_was (by decide) h), fun h => h6 (getD_was (by decide) h), fun h => h7 (getD_was (by decide) h), fun h => h8 (getD_was (by decide) h), fun h => h9 (getD_was (by decide) h), fun h => h10 (getD_was (by decide) h), fun h => h11 (getD_was (by decide) h), fun _ => rfl, fun _ => rfl, fun h => h14 (getD_was (by decide) h), fun h => h15 (getD_was (by decide) h), fun h => h16 (getD_was (by decide) h), fun h => h17 (getD_was (by decide) h)⟩
            · refine wpOp_step rfl (fun K hK => ?_)
              go_simp
              exact hK _ _ ⟨_, _, _, _, _, _, _, _, _, _, _, _, _, _, _, _, _, _, rfl, hB, fun h => h0 (getD_was (by decide) h), fun h => h1 (getD_was (by decide) h), fun h => h2 (getD_was (by decide) h), fun h => h3 (getD_was (by decide) h), fun h => h4 (getD_was (by decide) h), fun h => h5 (getD_was (by decide) h), fun h => h6 (getD_was (by decide) h), fun h => h7 (getD_was (by decide) h), fun h => h8 (getD_was (by decide) h), fun h => h9 (getD_was (by decide) h), fun h => h10 (getD_was (by decide) h), fun h => h11 (getD_was (by decide) h), fun h => h12 (getD_was (by decide) h), fun h => h13 (getD_was (by decide) h), fun _ => rfl, fun h => h15 (getD_was (by decide) h), fun h => h16 (getD_was (by decide) h), fun h => h17 (getD_was (by decide) h)⟩
            · have q13 := h13 (ready_dep hr (by kernel_rfl))
              have q14 := h14 (ready_dep hr (by kernel_rfl))
              subst q13
              subst q14
              refine wpOp_step rfl (fun K hK => ?_)
              go_simp
              rw [if_neg (by first | omega | (simp only [ByteArray.size_append]; omega) | (simp; omega))]
              go_simp
              exact hK _ _ ⟨_, _, _, _, _, _, _, _, _, _, _, _, _, _, _, _, _, _, rfl, hB, fun h => h0 (getD_was (by decide) h), fun h => h1 (getD_was (by decide) h), fun h => h2 (getD_was (by decide) h), fun h => h3 (getD_was (by decide) h), fun h => h4 (getD_was (by decide) h), fun h => h5 (getD_was (by decide) h), fun h => h6 (getD_was (by decide) h), fun h => h7 (getD_was (by decide) h), fun h => h8 (getD_was (by decide) h), fun h => h9 (getD_was (by decide) h), fun h => h10 (getD_was (by decide) h), fun h => h11 (getD_was (by decide) h), fun h => h12 (getD_was (by decide) h), fun _ => rfl, fun _ => rfl, fun _ => rfl, fun h => h16 (getD_was (by decide) h), fun h => h17 (getD_was (by decide) h)⟩
            · have q15 := h15 (ready_dep hr (by kernel_rfl))
              subst q15
              refine wpOp_step rfl (fun K hK => ?_)
              go_simp
              rw [if_neg (by first | omega | (simp only [ByteArray.size_append]; omega) | (simp; omega))]
              go_simp
              exact hK _ _ ⟨_, _, _, _, _, _, _, _, _, _, _, _, _, _, _, _, _, _, rfl, hB, fun h => h0 (getD_was (by decide) h), fun h => h1 (getD_was (by decide) h), fun h => h2 (getD_was (by decide) h), fun h => h3 (getD_was (by decide) h), fun h => h4 (getD_was (by decide) h), fun h => h5 (getD_was (by decide) h), fun h => h6 (getD_was (by decide) h), fun h => h7 (getD_was (by decide) h), fun h => h8 (getD_was (by decide) h), fun h => h9 (getD_was (by decide) h), fun h => h10 (getD_was (by decide) h), fun h => h11 (getD_was (by decide) h), fun h => h12 (getD_was (by decide) h), fun h => h13 (getD_was (by decide) h), fun h => h14 (getD_was (by decide) h), fun _ => rfl, fun _ => rfl, fun h => h17 (getD_was (by decide) h)⟩
            · have q0 := h0 (ready_dep hr (by kernel_rfl))
              have q16 := h16 (ready_dep hr (by kernel_rfl))
              subst q0
              subst q16
              refine wpOp_step rfl (fun K hK => ?_)
              go_simp
              rw [if_neg (by first | omega | (simp only [ByteArray.size_append]; omega) | (simp; omega))]
              go_simp
              exact hK _ _ ⟨_, _, _, _, _, _, _, _, _, _, _, _, _, _, _, _, _, _, rfl, hB, fun _ => rfl, fun h => h1 (getD_was (by decide) h), fun h => h2 (getD_was (by decide) h), fun h => h3 (getD_was (by decide) h), fun h => h4 (getD_was (by decide) h), fun h => h5 (getD_was (by decide) h), fun h => h6 (getD_was (by decide) h), fun h => h7 (getD_was (by decide) h), fun h => h8 (getD_was (by decide) h), fun h => h9 (getD_was (by decide) h), fun h => h10 (getD_was (by decide) h), fun h => h11 (getD_was (by decide) h), fun h => h12 (getD_was (by decide) h), fun h => h13 (getD_was (by decide) h), fun h => h14 (getD_was (by decide) h), fun h => h15 (getD_was (by decide) h), fun _ => rfl, fun _ => rfl⟩
          case last =>
            intro a' w' hI
            obtain ⟨x0, x1, x2, x3, x4, x5, x6, x7, x8, x9, x10, x11, x12, x13, x14, x15, x16, x17, rfl, hB, h0, h1, h2, h3, h4, h5, h6, h7, h8, h9, h10, h11, h12, h13, h14, h15, h16, h17⟩ := hI
            have q17 := h17 rfl
            clear h0 h1 h2 h3 h4 h5 h6 h7 h8 h9 h10 h11 h12 h13 h14 h15 h16 h17
            subst q17
            refine wpAny_of_seqA 1 18 rfl (by kernel_rfl) ?_
            simp only [List.drop_succ_cons, List.drop_zero]
            go_wp2_with fail
            go_roundw
            case rel => exact ⟨k + 1, _, by omega, by go_num, rfl, (by show _ = _; rw [HTk.out, HPN.out]; simp [hH1, hId, hQg, hH2, hGt, hNl, HSk.out, HZi.out, HIkl.out]), by show RW _ _ _ _; rw [← HDr.out, HHc.out]; exact HR2.out.more hB⟩
            case measure => simp [intOf]; omega
        · have HPN := Lib.hid ((bn_x (i := k) (t := n.text.data.toList) (d := n.dest.data.toList) (ids := ids1) (ks := n.kids) (bk := blkL 0 n.kids ids1) (by omega) (by omega)).trans (congrArg (· ++ hNl) (blk_2 hx)))
          have t1 : (n.kind == 1) = false := by simp; omega
          have t2 : (n.kind == 2) = true := by simp; omega
          have t3 : (n.kind == 3) = false := by simp; omega
          have t4 : (n.kind == 4) = false := by simp; omega
          have t5 : (n.kind == 5) = false := by simp; omega
          have t6 : (n.kind == 6) = false := by simp; omega
          have t7 : (n.kind == 7) = false := by simp; omega
          have t8 : (n.kind == 8) = false := by simp; omega
          have t9 : (n.kind == 9) = false := by simp; omega
          have HHc := Lib.hid (show hcN n = 0 from hc_inl HE2.out (Or.inl hx))
          clear hx
          go_wp2_with fail
          go_must (refine (HIk.out _ (HKd.out.keep H1.out.keeps)).mono ?_)
          rintro e w2 ⟨rfl, hb⟩
          have H2 := Lib.hid (H1.out.more hb); clear hb
          go_wp2_with fail
          go_roundw
          case rel => exact ⟨k + 1, _, by omega, by go_num, rfl, (by show _ = _; rw [HTk.out, HPN.out]; simp [hP1, hP2, hNl, HIkl.out]), by show RW _ _ _ _; rw [← HDr.out, HHc.out]; exact by exact H2.out⟩
          case measure => simp [intOf]; omega
        · have HPN := Lib.hid ((bn_x (i := k) (t := n.text.data.toList) (d := n.dest.data.toList) (ids := ids1) (ks := n.kids) (bk := blkL 0 n.kids ids1) (by omega) (by omega)).trans (congrArg (· ++ hNl) (blk_3 hx)))
          have t1 : (n.kind == 1) = false := by simp; omega
          have t2 : (n.kind == 2) = false := by simp; omega
          have t3 : (n.kind == 3) = true := by simp; omega
          have t4 : (n.kind == 4) = false := by simp; omega
          have t5 : (n.kind == 5) = false := by simp; omega
          have t6 : (n.kind == 6) = false := by simp; omega
          have t7 : (n.kind == 7) = false := by simp; omega
          have t8 : (n.kind == 8) = false := by simp; omega
          have t9 : (n.kind == 9) = false := by simp; omega
          have HHc := Lib.hid (show hcN n = 0 from hc_none (no_kids HE2.out (Or.inl hx)) (by omega))
          clear hx
          go_wp2_with fail
          refine wp_region_any (by kernel_rfl) ?_
          change wpAny _ _ _ _ _ _ _ (w1).drew
          obtain ⟨g, hg⟩ : ∃ g, wr.heap.size = g := ⟨_, rfl⟩
          obtain ⟨W2, hW2⟩ : ∃ W2, (w1).drew = W2 := ⟨_, rfl⟩
          have C2 := Lib.hid (show CB W2 g 45 (nodeC n (.slice A3 n.kids.length c3)) by rw [← hW2, ← hg]; exact C1.out.drew)
          have HKd2 := Lib.hid (show NodesAt W2 (.slice A3 n.kids.length c3) n.kids by rw [← hW2]; exact HKd.out.keep (RW.keeps (H1.out.more (Below.refl _ _).drew)))
          have HR2 := Lib.hid (show RW w0 R ids1 W2 by rw [← hW2]; exact H1.out.more (Below.refl _ _).drew)
          rw [hW2, hg]
          clear hW2 C1 HKd p0 p1 p2 p3 p4 p5 bb HG
          refine wpAny_inv [0, 1, 2, 3, 4, 5, 6, 7, 8, 9] (InvF (fun v59 v60 v61 v62 v63 v64 v65 v66 v67 v68 => ⟨#[.pointer (some ⟨R, 0, none⟩), .slice (some ⟨bl, o, none⟩) l.length c, undef, undef, .string ⟨#[]⟩, .string s, .int .i64 ↑k, .pointer (some ⟨g, 0, none⟩), .string sk, u9, u10, undef, u12, .slice (some ⟨bl, o, none⟩) l.length c, .int .i64 ↑l.length, .int .i64 ↑k, .bool true, .int .i64 ↑k, .pointer (some ⟨bl, o + k * 6, none⟩), .agg #[.int .i64 n.kind, .int .i64 n.level, .string n.text, .string n.dest, .string n.title, .slice A3 n.kids.length c3], .pointer (some ⟨g, 1, none⟩), .int .i64 n.level, .string sk, .pointer (some ⟨g, 0, none⟩), .int .i64 n.kind, .bool false, .bool false, u27, u28, u29, u30, u31, u32, u33, u34, u35, u36, u37, u38, u39, u40, u41, u42, u43, u44, u45, u46, .bool false, .bool false, u49, u50, u51, u52, u53, u54, u55, u56, .bool true, .bool true, v59, v60, v61, v62, v63, v64, v65, v66, v67, v68, u69, u70, u71, u72, u73, u74, u75, u76, u77, u78, u79, u80, u81, u82, u83, u84, u85, u86, u87, u88, u89, u90, u91, u92, u93, u94, u95, u96, u97, u98, u99, u100, u101, u102, u103, u104, u105, u106, u107, u108, u109, u110, u111, u112, u113, u114, u115, u116, u117, u118, u119, u120, u121, u122, u123, u124, u125, u126, u127, u128, u129, u130, u131, u132, u133, u134, u135, u136, u137, u138, u139, u140, u141, u142, u143, u144, u145, u146, u147, u148, u149, u150, u151, u152, u153, u154, u155, u156, u157, u158, u159, u160, u161, u162, u163, u164, u165, u166, u167, u168, u169, u170, undef], []⟩) s zf zt n g W2) #[true, true, true, true, true, true, true, true, true, true, false] (g := 1) (by kernel_rfl) (by kernel_rfl) (by kernel_rfl) (InvF.start u59 u60 u61 u62 u63 u64 u65 u66 u67 u68 rfl) ?step ?last
          case step =>
            intro i hi L a' w' hs hr hI
            obtain ⟨x0, x1, x2, x3, x4, x5, x6, x7, x8, x9, rfl, hB, h0, h1, h2, h3, h4, h5, h6, h7, h8, h9⟩ := hI
            simp only [List.mem_cons, List.not_mem_nil, or_false] at hi
            rcases hi with rfl | rfl | rfl | rfl | rfl | rfl | rfl | rfl | rfl | rfl
            · refine wpOp_step rfl (fun K hK => ?_)
              go_simp
              exact hK _ _ ⟨_, _, _, _, _, _, _, _, _, _, rfl, hB, fun _ => rfl, fun h => h1 (getD_was (by decide) h), fun h => h2 (getD_was (by decide) h), fun h => h3 (getD_was (by decide) h), fun h => h4 (getD_was (by decide) h), fun h => h5 (getD_was (by decide) h), fun h => h6 (getD_was (by decide) h), fun h => h7 (getD_was (by decide) h), fun h => h8 (getD_was (by decide) h), fun h => h9 (getD_was (by decide) h)⟩
            · refine wpOp_step rfl (fun K hK => ?_)
              go_simp
              exact hK _ _ ⟨_, _, _, _, _, _, _, _, _, _, rfl, hB, fun h => h0 (getD_was (by decide) h), fun _ => rfl, fun h => h2 (getD_was (by decide) h), fun h => h3 (getD_was (by decide) h), fun h => h4 (getD_was (by decide) h), fun h => h5 (getD_was (by decide) h), fun h => h6 (getD_was (by decide) h), fun h => h7 (getD_was (by decide) h), fun h => h8 (getD_was (by decide) h), fun h => h9 (getD_was (by decide) h)⟩
            · have q1 := h1 (ready_dep hr (by kernel_rfl))
              subst q1
              have z := (C2.out.below hB).six.2.2.2.1
              refine wpOp_step rfl (fun K hK => ?_)
              go_simp
              exact hK _ _ ⟨_, _, _, _, _, _, _, _, _, _, rfl, hB, fun h => h0 (getD_was (by decide) h), fun _ => rfl, fun _ => rfl, fun h => h3 (getD_was (by decide) h), fun h => h4 (getD_was (by decide) h), fun h => h5 (getD_was (by decide) h), fun h => h6 (getD_was (by decide) h), fun h => h7 (getD_was (by decide) h), fun h => h8 (getD_was (by decide) h), fun h => h9 (getD_was (by decide) h)⟩
            · have q2 := h2 (ready_dep hr (by kernel_rfl))
              subst q2
              refine wpOp_step rfl (fun K hK => ?_)
              go_simp
              refine (HEf.out _).mono ?_
              rintro e w'' ⟨rfl, hb⟩
              exact hK _ _ ⟨_, _, _, _, _, _, _, _, _, _, rfl, hB.trans (hb.mono hB.size), fun h => h0 (getD_was (by decide) h), fun h => h1 (getD_was (by decide) h), fun _ => rfl, fun _ => rfl, fun h => h4 (getD_was (by decide) h), fun h => h5 (getD_was (by decide) h), fun h => h6 (getD_was (by decide) h), fun h => h7 (getD_was (by decide) h), fun h => h8 (getD_was (by decide) h), fun h => h9 (getD_was (by decide) h)⟩
            · refine wpOp_step rfl (fun K hK => ?_)
              go_simp
              exact hK _ _ ⟨_, _, _, _, _, _, _, _, _, _, rfl, hB, fun h => h0 (getD_was (by decide) h), fun h => h1 (getD_was (by decide) h), fun h => h2 (getD_was (by decide) h), fun h => h3 (getD_was (by decide) h), fun _ => rfl, fun h => h5 (getD_was (by decide) h), fun h => h6 (getD_was (by decide) h), fun h => h7 (getD_was (by decide) h), fun h => h8 (getD_was (by decide) h), fun h => h9 (getD_was (by decide) h)⟩
            · have q4 := h4 (ready_dep hr (by kernel_rfl))
              subst q4
              have z := (C2.out.below hB).six.2.2.1
              refine wpOp_step rfl (fun K hK => ?_)
              go_simp
              exact hK _ _ ⟨_, _, _, _, _, _, _, _, _, _, rfl, hB, fun h => h0 (getD_was (by decide) h), fun h => h1 (getD_was (by decide) h), fun h => h2 (getD_was (by decide) h), fun h => h3 (getD_was (by decide) h), fun _ => rfl, fun _ => rfl, fun h => h6 (getD_was (by decide) h), fun h => h7 (getD_was (by decide) h), fun h => h8 (getD_was (by decide) h), fun h => h9 (getD_was (by decide) h)⟩
            · have q5 := h5 (ready_dep hr (by kernel_rfl))
              subst q5
              refine wpOp_step rfl (fun K hK => ?_)
              go_simp
              refine (HEt.out _).mono ?_
              rintro e w'' ⟨rfl, hw4⟩; obtain rfl := hw4
              exact hK _ _ ⟨_, _, _, _, _, _, _, _, _, _, rfl, hB, fun h => h0 (getD_was (by decide) h), fun h => h1 (getD_was (by decide) h), fun h => h2 (getD_was (by decide) h), fun h => h3 (getD_was (by decide) h), fun h => h4 (getD_was (by decide) h), fun _ => rfl, fun _ => rfl, fun h => h7 (getD_was (by decide) h), fun h => h8 (getD_was (by decide) h), fun h => h9 (getD_was (by decide) h)⟩
            · have q3 := h3 (ready_dep hr (by kernel_rfl))
              have q6 := h6 (ready_dep hr (by kernel_rfl))
              subst q3
              subst q6
              refine wpOp_step rfl (fun K hK => ?_)
              go_simp
              rw [if_neg (by first | omega | (simp only [ByteArray.size_append]; omega) | (simp; omega))]
              go_simp
              exact hK _ _ ⟨_, _, _, _, _, _, _, _, _, _, rfl, hB, fun h => h0 (getD_was (by decide) h), fun h => h1 (getD_was (by decide) h), fun h => h2 (getD_was (by decide) h), fun _ => rfl, fun h => h4 (getD_was (by decide) h), fun h => h5 (getD_was (by decide) h), fun _ => rfl, fun _ => rfl, fun h => h8 (getD_was (by decide) h), fun h => h9 (getD_was (by decide) h)⟩
            · have q7 := h7 (ready_dep hr (by kernel_rfl))
              subst q7
              refine wpOp_step rfl (fun K hK => ?_)
              go_simp
              rw [if_neg (by first | omega | (simp only [ByteArray.size_append]; omega) | (simp; omega))]
              go_simp
              exact hK _ _ ⟨_, _, _, _, _, _, _, _, _, _, rfl, hB, fun h => h0 (getD_was (by decide) h), fun h => h1 (getD_was (by decide) h), fun h => h2 (getD_was (by decide) h), fun h => h3 (getD_was (by decide) h), fun h => h4 (getD_was (by decide) h), fun h => h5 (getD_was (by decide) h), fun h => h6 (getD_was (by decide) h), fun _ => rfl, fun _ => rfl, fun h => h9 (getD_was (by decide) h)⟩
            · have q0 := h0 (ready_dep hr (by kernel_rfl))
              have q8 := h8 (ready_dep hr (by kernel_rfl))
              subst q0
              subst q8
              refine wpOp_step rfl (fun K hK => ?_)
              go_simp
              rw [if_neg (by first | omega | (simp only [ByteArray.size_append]; omega) | (simp; omega))]
              go_simp
              exact hK _ _ ⟨_, _, _, _, _, _, _, _, _, _, rfl, hB, fun _ => rfl, fun h => h1 (getD_was (by decide) h), fun h => h2 (getD_was (by decide) h), fun h => h3 (getD_was (by decide) h), fun h => h4 (getD_was (by decide) h), fun h => h5 (getD_was (by decide) h), fun h => h6 (getD_was (by decide) h), fun h => h7 (getD_was (by decide) h), fun _ => rfl, fun _ => rfl⟩
          case last =>
            intro a' w' hI
            obtain ⟨x0, x1, x2, x3, x4, x5, x6, x7, x8, x9, rfl, hB, h0, h1, h2, h3, h4, h5, h6, h7, h8, h9⟩ := hI
            have q9 := h9 rfl
            clear h0 h1 h2 h3 h4 h5 h6 h7 h8 h9
            subst q9
            refine wpAny_of_seqA 1 10 rfl (by kernel_rfl) ?_
            simp only [List.drop_succ_cons, List.drop_zero]
            go_wp2_with fail
            go_roundw
            case rel => exact ⟨k + 1, _, by omega, by go_num, rfl, (by show _ = _; rw [HTk.out, HPN.out]; simp [hPre2, hNl, HZf.out, HZt.out]), by show RW _ _ _ _; rw [← HDr.out, HHc.out]; exact HR2.out.more hB⟩
            case measure => simp [intOf]; omega
        · have HPN := Lib.hid ((bn_x (i := k) (t := n.text.data.toList) (d := n.dest.data.toList) (ids := ids1) (ks := n.kids) (bk := blkL 0 n.kids ids1) (by omega) (by omega)).trans (congrArg (· ++ hNl) (blk_4 hx)))
          have t1 : (n.kind == 1) = false := by simp; omega
          have t2 : (n.kind == 2) = false := by simp; omega
          have t3 : (n.kind == 3) = false := by simp; omega
          have t4 : (n.kind == 4) = true := by simp; omega
          have t5 : (n.kind == 5) = false := by simp; omega
          have t6 : (n.kind == 6) = false := by simp; omega
          have t7 : (n.kind == 7) = false := by simp; omega
          have t8 : (n.kind == 8) = false := by simp; omega
          have t9 : (n.kind == 9) = false := by simp; omega
          have HHc := Lib.hid (hc_deep (n := n) (by omega))
          have HEp := Lib.hid (show nodesErr n.kids 4 = 0 by rw [← hx]; exact HE2.out)
          have HHh := Lib.hid (show (headsL n.kids).length ≤ ids1.length by have := HHd.out; rw [HHc.out] at this; exact this)
          clear hx
          go_wp2_with fail
          go_must (refine (HBk.out _ H1.out 4 (by omega) HEp.out HHh.out).mono ?_)
          rintro e w2 ⟨s2, rfl, hs2, hr2⟩
          have hsz2 : s2.size ≤ 6598164480000 := by rw [size_of_list hs2]; exact HBl.out
          have HS2 := Lib.hid hs2; have H2 := Lib.hid hr2; clear hs2 hr2
          go_wp2_with fail
          go_roundw
          case rel => exact ⟨k + 1, _, by omega, by go_num, rfl, (by show _ = _; rw [HTk.out, HPN.out]; simp [hBq1, hBq2, hNl, HS2.out]), by show RW _ _ _ _; rw [← HDr.out, HHc.out]; exact H2.out⟩
          case measure => simp [intOf]; omega
        · have HPN := Lib.hid ((bn_x (i := k) (t := n.text.data.toList) (d := n.dest.data.toList) (ids := ids1) (ks := n.kids) (bk := blkL 0 n.kids ids1) (by omega) (by omega)).trans (congrArg (· ++ hNl) (blk_5 hx)))
          have t1 : (n.kind == 1) = false := by simp; omega
          have t2 : (n.kind == 2) = false := by simp; omega
          have t3 : (n.kind == 3) = false := by simp; omega
          have t4 : (n.kind == 4) = false := by simp; omega
          have t5 : (n.kind == 5) = true := by simp; omega
          have t6 : (n.kind == 6) = false := by simp; omega
          have t7 : (n.kind == 7) = false := by simp; omega
          have t8 : (n.kind == 8) = false := by simp; omega
          have t9 : (n.kind == 9) = false := by simp; omega
          have HHc := Lib.hid (hc_deep (n := n) (by omega))
          have HEp := Lib.hid (show nodesErr n.kids 5 = 0 by rw [← hx]; exact HE2.out)
          have HHh := Lib.hid (show (headsL n.kids).length ≤ ids1.length by have := HHd.out; rw [HHc.out] at this; exact this)
          clear hx
          have hlv := HLl.out.1
          have hy : n.level < 0 ∨ n.level = 1 ∨ (0 ≤ n.level ∧ n.level ≠ 1) := by omega
          rcases hy with hy | hy | hy
          · have tm : decide (n.level < 0) = true := by simp; omega
            have tl : (n.level == 1) = false := by simp; omega
            have HO := Lib.hid (show olH n.level = hUl1 by unfold olH; rw [if_pos hy])
            have HL := Lib.hid (show lnH n.level = hUl by unfold lnH; rw [if_pos hy])
            clear hy hlv
            go_wp2_with fail
            go_must (refine (HBk.out _ H1.out 5 (by omega) HEp.out HHh.out).mono ?_)
            rintro e w2 ⟨s2, rfl, hs2, hr2⟩
            have hsz2 : s2.size ≤ 6598164480000 := by rw [size_of_list hs2]; exact HBl.out
            have HS2 := Lib.hid hs2; have H2 := Lib.hid hr2; clear hs2 hr2
            go_wp2_with fail
            go_roundw
            case rel => exact ⟨k + 1, _, by omega, by go_num, rfl, (by show _ = _; rw [HTk.out, HPN.out]; simp [hUl1, hUl, hLs, hGt, hNl, HO.out, HL.out, HS2.out]), by show RW _ _ _ _; rw [← HDr.out, HHc.out]; exact H2.out⟩
            case measure => simp [intOf]; omega
          · have tm : decide (n.level < 0) = false := by simp; omega
            have tl : (n.level == 1) = true := by simp; omega
            have HO := Lib.hid (show olH n.level = hOl1 by unfold olH; rw [if_neg (by omega), if_pos hy])
            have HL := Lib.hid (show lnH n.level = hOl by unfold lnH; rw [if_neg (by omega)])
            clear hy hlv
            go_wp2_with fail
            go_must (refine (HBk.out _ H1.out 5 (by omega) HEp.out HHh.out).mono ?_)
            rintro e w2 ⟨s2, rfl, hs2, hr2⟩
            have hsz2 : s2.size ≤ 6598164480000 := by rw [size_of_list hs2]; exact HBl.out
            have HS2 := Lib.hid hs2; have H2 := Lib.hid hr2; clear hs2 hr2
            go_wp2_with fail
            go_roundw
            case rel => exact ⟨k + 1, _, by omega, by go_num, rfl, (by show _ = _; rw [HTk.out, HPN.out]; simp [hOl1, hOl, hLs, hGt, hNl, HO.out, HL.out, HS2.out]), by show RW _ _ _ _; rw [← HDr.out, HHc.out]; exact H2.out⟩
            case measure => simp [intOf]; omega
          · have tm : decide (n.level < 0) = false := by simp; omega
            have tl : (n.level == 1) = false := by simp; omega
            have HO := Lib.hid (show olH n.level = hOs ++ sk.data.toList ++ hQgn by unfold olH; rw [if_neg (by omega), if_neg (by omega), HSk.out])
            have HL := Lib.hid (show lnH n.level = hOl by unfold lnH; rw [if_neg (by omega)])
            clear hy hlv
            go_wp2_with fail
            go_must (refine (HBk.out _ H1.out 5 (by omega) HEp.out HHh.out).mono ?_)
            rintro e w2 ⟨s2, rfl, hs2, hr2⟩
            have hsz2 : s2.size ≤ 6598164480000 := by rw [size_of_list hs2]; exact HBl.out
            have HS2 := Lib.hid hs2; have H2 := Lib.hid hr2; clear hs2 hr2
            go_wp2_with fail
            go_roundw
            case rel => exact ⟨k + 1, _, by omega, by go_num, rfl, (by show _ = _; rw [HTk.out, HPN.out]; simp [hOs, hQgn, hOl, hLs, hGt, hNl, HO.out, HL.out, HS2.out]), by show RW _ _ _ _; rw [← HDr.out, HHc.out]; exact H2.out⟩
            case measure => simp [intOf]; omega
        · have HPN := Lib.hid (bn_6 (i := k) (t := n.text.data.toList) (d := n.dest.data.toList) (ids := ids1) (ks := n.kids) (bk := blkL 0 n.kids ids1) hx)
          have t1 : (n.kind == 1) = false := by simp; omega
          have t2 : (n.kind == 2) = false := by simp; omega
          have t3 : (n.kind == 3) = false := by simp; omega
          have t4 : (n.kind == 4) = false := by simp; omega
          have t5 : (n.kind == 5) = false := by simp; omega
          have t6 : (n.kind == 6) = true := by simp; omega
          have t7 : (n.kind == 7) = false := by simp; omega
          have t8 : (n.kind == 8) = false := by simp; omega
          have t9 : (n.kind == 9) = false := by simp; omega
          have HHc := Lib.hid (hc_deep (n := n) (by omega))
          have HEp := Lib.hid (show nodesErr n.kids 6 = 0 by rw [← hx]; exact HE2.out)
          have HHh := Lib.hid (show (headsL n.kids).length ≤ ids1.length by have := HHd.out; rw [HHc.out] at this; exact this)
          clear hx
          go_wp2_with fail
          go_must (refine (HBk.out _ H1.out 6 (by omega) HEp.out HHh.out).mono ?_)
          rintro e w2 ⟨s2, rfl, hs2, hr2⟩
          have hsz2 : s2.size ≤ 6598164480000 := by rw [size_of_list hs2]; exact HBl.out
          have HS2 := Lib.hid hs2; have H2 := Lib.hid hr2; clear hs2 hr2
          go_wp2_with fail
          go_roundw
          case rel => exact ⟨k + 1, _, by omega, by go_num, rfl, (by show _ = _; rw [HTk.out, HPN.out]; simp [hLi1, hLi2, HS2.out]), by show RW _ _ _ _; rw [← HDr.out, HHc.out]; exact H2.out⟩
          case measure => simp [intOf]; omega
        · have HPN := Lib.hid ((bn_x (i := k) (t := n.text.data.toList) (d := n.dest.data.toList) (ids := ids1) (ks := n.kids) (bk := blkL 0 n.kids ids1) (by omega) (by omega)).trans (congrArg (· ++ hNl) (blk_7 hx)))
          have t1 : (n.kind == 1) = false := by simp; omega
          have t2 : (n.kind == 2) = false := by simp; omega
          have t3 : (n.kind == 3) = false := by simp; omega
          have t4 : (n.kind == 4) = false := by simp; omega
          have t5 : (n.kind == 5) = false := by simp; omega
          have t6 : (n.kind == 6) = false := by simp; omega
          have t7 : (n.kind == 7) = true := by simp; omega
          have t8 : (n.kind == 8) = false := by simp; omega
          have t9 : (n.kind == 9) = false := by simp; omega
          have HHc := Lib.hid (show hcN n = 0 from hc_none (no_kids HE2.out (Or.inr hx)) (by omega))
          clear hx
          go_wp2_with fail
          go_roundw
          case rel => exact ⟨k + 1, _, by omega, by go_num, rfl, (by show _ = _; rw [HTk.out, HPN.out]; simp [hHr, hNl]), by show RW _ _ _ _; rw [← HDr.out, HHc.out]; exact by exact H1.out⟩
          case measure => simp [intOf]; omega
        · have HPN := Lib.hid ((bn_x (i := k) (t := n.text.data.toList) (d := n.dest.data.toList) (ids := ids1) (ks := n.kids) (bk := blkL 0 n.kids ids1) (by omega) (by omega)).trans (congrArg (· ++ hNl) (blk_8 hx)))
          have t1 : (n.kind == 1) = false := by simp; omega
          have t2 : (n.kind == 2) = false := by simp; omega
          have t3 : (n.kind == 3) = false := by simp; omega
          have t4 : (n.kind == 4) = false := by simp; omega
          have t5 : (n.kind == 5) = false := by simp; omega
          have t6 : (n.kind == 6) = false := by simp; omega
          have t7 : (n.kind == 7) = false := by simp; omega
          have t8 : (n.kind == 8) = true := by simp; omega
          have t9 : (n.kind == 9) = false := by simp; omega
          have HHc := Lib.hid (hc_deep (n := n) (by omega))
          have HEp := Lib.hid (show nodesErr n.kids 8 = 0 by rw [← hx]; exact HE2.out)
          have HHh := Lib.hid (show (headsL n.kids).length ≤ ids1.length by have := HHd.out; rw [HHc.out] at this; exact this)
          clear hx
          go_wp2_with fail
          go_must (refine (HBk.out _ H1.out 8 (by omega) HEp.out HHh.out).mono ?_)
          rintro e w2 ⟨s2, rfl, hs2, hr2⟩
          have hsz2 : s2.size ≤ 6598164480000 := by rw [size_of_list hs2]; exact HBl.out
          have HS2 := Lib.hid hs2; have H2 := Lib.hid hr2; clear hs2 hr2
          go_wp2_with fail
          go_roundw
          case rel => exact ⟨k + 1, _, by omega, by go_num, rfl, (by show _ = _; rw [HTk.out, HPN.out]; simp [hTb1, hTb2, hNl, HS2.out]), by show RW _ _ _ _; rw [← HDr.out, HHc.out]; exact H2.out⟩
          case measure => simp [intOf]; omega
        · have HPN := Lib.hid (bn_9 (i := k) (t := n.text.data.toList) (d := n.dest.data.toList) (ids := ids1) (ks := n.kids) (bk := blkL 0 n.kids ids1) hx)
          have t1 : (n.kind == 1) = false := by simp; omega
          have t2 : (n.kind == 2) = false := by simp; omega
          have t3 : (n.kind == 3) = false := by simp; omega
          have t4 : (n.kind == 4) = false := by simp; omega
          have t5 : (n.kind == 5) = false := by simp; omega
          have t6 : (n.kind == 6) = false := by simp; omega
          have t7 : (n.kind == 7) = false := by simp; omega
          have t8 : (n.kind == 8) = false := by simp; omega
          have t9 : (n.kind == 9) = true := by simp; omega
          have HHc := Lib.hid (show hcN n = 0 from hc_row HE2.out hx)
          clear hx
          obtain ⟨nm, hnm⟩ : ∃ z : ByteArray, (⟨(tdH k).toArray⟩ : ByteArray) = z := ⟨_, rfl⟩
          have hnms : nm.size ≤ 2 := by rw [← hnm]; exact tdH_le k
          have HNm := Lib.hid (show tdH k = nm.data.toList by rw [← hnm])
          obtain ⟨An2, cx2, bl2, o2, kv2, e92, hlc2, hc2, hA2, hcell2, hkid2⟩ := HKd.out.inv
          cases e92
          unfold maxLen at hc2
          have HCell2 := Lib.hid hcell2; clear hcell2
          have HKid2 := Lib.hid hkid2; clear hkid2
          have HCl := Lib.hid (fun q => (cellsH_le k (n.kids.take q)))
          have HWq := Lib.hid (fun q => weight_take_le n.kids q)
          have hcase : (k = 0 ∧ nm = ⟨#[116, 104]⟩) ∨ (0 < k ∧ nm = ⟨#[116, 100]⟩) := by
            by_cases h0 : k = 0
            · left; refine ⟨h0, ?_⟩; rw [← hnm, h0]; rfl
            · right; refine ⟨by omega, ?_⟩; rw [← hnm]; unfold tdH; rw [if_neg h0]; rfl
          clear hnm
          rcases hcase with ⟨h0, hnm⟩ | ⟨h0, hnm⟩
          · have t0 : ((k : Int) == 0) = true := by simp; omega
            have HNm2 := Lib.hid hnm; clear hnm h0
            go_wp2_with fail
            rw [← HNm2.out]
            go_loopw [5, 149] (fun t0 t wr2 => ∃ (q : Nat) (s2 : ByteArray), q ≤ n.kids.length ∧ t = .int .i64 q ∧ t0 = .string s2 ∧ Hid (s2.data.toList = s.data.toList ++ hTr1 ++ cellsH (tdH k) (n.kids.take q)) ∧ Hid (RW w0 R ids1 wr2)) (fun _ t _ => n.kids.length - (intOf t).toNat)
            case atStart => exact ⟨0, _, Nat.zero_le _, rfl, rfl, (by show _ = _; simp [hTr1, cellsH]), H1.out⟩
            case round =>
              obtain ⟨q, s2, hq, rfl, rfl, hs2, hW2⟩ := hrel
              have hs2s : s2.size ≤ 6598164480000 + 4 + 67108864 := by
                have h7 := HCl.out q
                have h8 := HWq.out q
                have h9 := size_of_list hs2.out
                simp only [List.length_append, hTr1, List.length_cons, List.length_nil, size_toList] at h9
                omega
              by_cases hlt2 : q < n.kids.length
              · have hA'2 := hA2 (by intro h0; rw [h0] at hlt2; simp at hlt2)
                subst hA'2
                obtain ⟨y, hy⟩ : ∃ y, n.kids[q]? = some y := ⟨_, List.getElem?_eq_getElem hlt2⟩
                obtain ⟨r0, r1, r2, r3, r4, r5, _, _, _, _, _⟩ := (HCell2.out q y hy).keep hW2.out.keeps
                have bb2 := World.block_lt_of_cell? _ _ r5
                simp only at bb2
                have hky := HKid2.out q y hy
                obtain ⟨A4, c4, b4, o4, k4, e4, _, _, _, _, _⟩ := hky.inv
                rw [e4] at hky r5
                have HKy := Lib.hid hky; clear hky
                have hwt2 := weight_take hy
                have hwy : weight y.kids ≤ 1048576 := by omega
                have HCt := Lib.hid (show cellsH (tdH k) (n.kids.take (q + 1)) = cellsH (tdH k) (n.kids.take q) ++ cellH nm.data.toList y by rw [cellsH_take hy, HNm.out])
                have HJ := Lib.hid (hW2.out.alloc (nodeBox y (.slice A4 y.kids.length c4)))
                have hil3 := inl_len y.kids
                obtain ⟨iy, hiy⟩ : ∃ z : ByteArray, (⟨(inlL y.kids).toArray⟩ : ByteArray) = z := ⟨_, rfl⟩
                have hiys : iy.size ≤ 67108864 := by rw [← hiy]; show (inlL y.kids).length ≤ _; omega
                have HIyl := Lib.hid (show inlL y.kids = iy.data.toList by rw [← hiy])
                have HIy := Lib.hid (fun (w : World) (h : NodesAt w (.slice A4 y.kids.length c4) y.kids) => strRes_is (rinl_any (some ⟨R, 0, none⟩) _ y.kids _ w (Nat.le_refl _) h hwy) hiy)
                clear hy hA2 e4 hwt2 hil3 hiy
                go_wp2_with fail
                go_must (refine (HIy.out _ (HKy.out.keep HJ.out.keeps)).mono ?_)
                rintro e w50 ⟨rfl, hb⟩
                have HJ2 := Lib.hid (HJ.out.more hb); clear hb
                go_wp2_with fail
                go_roundw
                case rel => exact ⟨q + 1, _, by omega, by go_num, rfl, (by show _ = _; rw [HCt.out]; simp [hs2.out, cellH, hLt, hGt, hLs, HIyl.out]), HJ2.out⟩
                case measure => simp [intOf]; omega
              · have hqe : q = n.kids.length := by omega
                subst hqe
                rw [List.take_length] at hs2
                go_wp2_with fail
                go_roundw
                case rel => exact ⟨k + 1, _, by omega, by go_num, rfl, (by show _ = _; rw [HTk.out, HPN.out]; simp [hTr2, hs2.out]), by show RW _ _ _ _; rw [← HDr.out, HHc.out]; exact by exact hW2.out⟩
                case measure => simp [intOf]; omega
          · have t0 : ((k : Int) == 0) = false := by simp; omega
            have HNm2 := Lib.hid hnm; clear hnm h0
            go_wp2_with fail
            rw [← HNm2.out]
            go_loopw [5, 149] (fun t0 t wr2 => ∃ (q : Nat) (s2 : ByteArray), q ≤ n.kids.length ∧ t = .int .i64 q ∧ t0 = .string s2 ∧ Hid (s2.data.toList = s.data.toList ++ hTr1 ++ cellsH (tdH k) (n.kids.take q)) ∧ Hid (RW w0 R ids1 wr2)) (fun _ t _ => n.kids.length - (intOf t).toNat)
            case atStart => exact ⟨0, _, Nat.zero_le _, rfl, rfl, (by show _ = _; simp [hTr1, cellsH]), H1.out⟩
            case round =>
              obtain ⟨q, s2, hq, rfl, rfl, hs2, hW2⟩ := hrel
              have hs2s : s2.size ≤ 6598164480000 + 4 + 67108864 := by
                have h7 := HCl.out q
                have h8 := HWq.out q
                have h9 := size_of_list hs2.out
                simp only [List.length_append, hTr1, List.length_cons, List.length_nil, size_toList] at h9
                omega
              by_cases hlt2 : q < n.kids.length
              · have hA'2 := hA2 (by intro h0; rw [h0] at hlt2; simp at hlt2)
                subst hA'2
                obtain ⟨y, hy⟩ : ∃ y, n.kids[q]? = some y := ⟨_, List.getElem?_eq_getElem hlt2⟩
                obtain ⟨r0, r1, r2, r3, r4, r5, _, _, _, _, _⟩ := (HCell2.out q y hy).keep hW2.out.keeps
                have bb2 := World.block_lt_of_cell? _ _ r5
                simp only at bb2
                have hky := HKid2.out q y hy
                obtain ⟨A4, c4, b4, o4, k4, e4, _, _, _, _, _⟩ := hky.inv
                rw [e4] at hky r5
                have HKy := Lib.hid hky; clear hky
                have hwt2 := weight_take hy
                have hwy : weight y.kids ≤ 1048576 := by omega
                have HCt := Lib.hid (show cellsH (tdH k) (n.kids.take (q + 1)) = cellsH (tdH k) (n.kids.take q) ++ cellH nm.data.toList y by rw [cellsH_take hy, HNm.out])
                have HJ := Lib.hid (hW2.out.alloc (nodeBox y (.slice A4 y.kids.length c4)))
                have hil3 := inl_len y.kids
                obtain ⟨iy, hiy⟩ : ∃ z : ByteArray, (⟨(inlL y.kids).toArray⟩ : ByteArray) = z := ⟨_, rfl⟩
                have hiys : iy.size ≤ 67108864 := by rw [← hiy]; show (inlL y.kids).length ≤ _; omega
                have HIyl := Lib.hid (show inlL y.kids = iy.data.toList by rw [← hiy])
                have HIy := Lib.hid (fun (w : World) (h : NodesAt w (.slice A4 y.kids.length c4) y.kids) => strRes_is (rinl_any (some ⟨R, 0, none⟩) _ y.kids _ w (Nat.le_refl _) h hwy) hiy)
                clear hy hA2 e4 hwt2 hil3 hiy
                go_wp2_with fail
                go_must (refine (HIy.out _ (HKy.out.keep HJ.out.keeps)).mono ?_)
                rintro e w50 ⟨rfl, hb⟩
                have HJ2 := Lib.hid (HJ.out.more hb); clear hb
                go_wp2_with fail
                go_roundw
                case rel => exact ⟨q + 1, _, by omega, by go_num, rfl, (by show _ = _; rw [HCt.out]; simp [hs2.out, cellH, hLt, hGt, hLs, HIyl.out]), HJ2.out⟩
                case measure => simp [intOf]; omega
              · have hqe : q = n.kids.length := by omega
                subst hqe
                rw [List.take_length] at hs2
                go_wp2_with fail
                go_roundw
                case rel => exact ⟨k + 1, _, by omega, by go_num, rfl, (by show _ = _; rw [HTk.out, HPN.out]; simp [hTr2, hs2.out]), by show RW _ _ _ _; rw [← HDr.out, HHc.out]; exact by exact hW2.out⟩
                case measure => simp [intOf]; omega
      · have hke : k = l.length := by omega
        subst hke
        rw [List.take_length] at hcs hW
        go_wp2_with fail
        go_ret
        exact ⟨s, rfl, hcs.out, hW.out⟩

end Go.Proofs.YtikijmjcmpkkdaaGreatDoor
