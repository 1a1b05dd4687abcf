/-
  Bytes that may not be there, in a node: mark.byteFault; mastref1.badBytes.
-/
import Derived.Test.YtikijmjcmpkkdaaGreatDoorCheck2
import Derived.Test.YtikijmjcmpkkdaaGreatDoorTree
namespace Go.Proofs.YtikijmjcmpkkdaaGreatDoor
open Go.RowKit Go.Deep

/-- a node by value -/
abbrev nodeV (n : Node) (kv : Value) : Value := .agg #[.int .i64 n.kind, .int .i64 n.level, .string n.text, .string n.dest, .string n.title, kv]

def textP (k : Int) : ByteArray := if k = 11 ∨ k = 16 ∨ k = 18 then ⟨#[9]⟩ else if k = 3 then ⟨#[9, 10]⟩ else ⟨#[]⟩
def destP (k : Int) : ByteArray := if k = 3 then ⟨#[9]⟩ else ⟨#[]⟩

def byteFaultB (n : Node) : Bool := ctlP (textP n.kind).data.toList n.text.data.toList || ctlP (destP n.kind).data.toList n.dest.data.toList || ctlP [9] n.title.data.toList

theorem control_v (s p : ByteArray) (v : Bool) (w : World) (hs : s.size ≤ maxLen) (h : ctlP p.data.toList s.data.toList = v) : Calls Tryz.prog 143 #[.string s, .string p] w fun e w' => e = .returned (.bool v) ∧ w = w' := by
  subst h
  exact control_any s p w hs




set_option maxHeartbeats 2000000 in
theorem byteFault_any (n : Node) (A : Option Addr) (m c : Nat) (w : World) (hk : NodeOk n) :
    Calls Tryz.prog 101 #[nodeV n (.slice A m c)] w fun e w' => e = .returned (.bool (byteFaultB n)) ∧ Below w.heap.size w w' := by
  obtain ⟨_, _, z1, z2, z3⟩ := hk
  have hx : n.kind = 11 ∨ n.kind = 16 ∨ n.kind = 18 ∨ n.kind = 3 ∨ (n.kind ≠ 11 ∧ n.kind ≠ 16 ∧ n.kind ≠ 18 ∧ n.kind ≠ 3) := by omega
  have hT : byteFaultB n = (ctlP (textP n.kind).data.toList n.text.data.toList || ctlP (destP n.kind).data.toList n.dest.data.toList || ctlP [9] n.title.data.toList) := rfl
  rcases hx with hx | hx | hx | hx | hx
  · have ht : textP n.kind = ⟨#[9]⟩ := by rw [hx]; rfl
    have hd : destP n.kind = ⟨#[]⟩ := by rw [hx]; rfl
    rw [ht, hd] at hT
    clear ht hd
    cases h1 : ctlP (⟨#[9]⟩ : ByteArray).data.toList n.text.data.toList
    case true =>
      rw [h1, Bool.true_or, Bool.true_or] at hT
      have HT := Lib.hid hT; clear hT
      have H1 := Lib.hid h1; clear h1
      go_enter Tryz.func101, Tryz.ntmps101
      go_wp2_with fail
      go_must (refine (control_v _ _ true _ z1 H1.out).mono ?_)
      rintro e w1 ⟨rfl, rfl⟩
      go_wp2_with fail
      go_ret
      exact ⟨ret_bool HT.out.symm, (Below.refl _ _).alloc (Nat.le_refl _) _⟩
    case false =>
      cases h2 : ctlP (⟨#[]⟩ : ByteArray).data.toList n.dest.data.toList
      case true =>
        rw [h1, h2, Bool.or_true, Bool.true_or] at hT
        have HT := Lib.hid hT; clear hT
        have H1 := Lib.hid h1; clear h1
        have H2 := Lib.hid h2; clear h2
        go_enter Tryz.func101, Tryz.ntmps101
        go_wp2_with fail
        go_must (refine (control_v _ _ false _ z1 H1.out).mono ?_)
        rintro e w1 ⟨rfl, rfl⟩
        go_wp2_with fail
        go_must (refine (control_v _ _ true _ z2 H2.out).mono ?_)
        rintro e w1 ⟨rfl, rfl⟩
        go_wp2_with fail
        go_ret
        exact ⟨ret_bool HT.out.symm, (Below.refl _ _).alloc (Nat.le_refl _) _⟩
      case false =>
        rw [h1, h2, Bool.or_false, Bool.false_or] at hT
        have HT := Lib.hid hT; clear hT
        have H1 := Lib.hid h1; clear h1
        have H2 := Lib.hid h2; clear h2
        go_enter Tryz.func101, Tryz.ntmps101
        go_wp2_with fail
        go_must (refine (control_v _ _ false _ z1 H1.out).mono ?_)
        rintro e w1 ⟨rfl, rfl⟩
        go_wp2_with fail
        go_must (refine (control_v _ _ false _ z2 H2.out).mono ?_)
        rintro e w1 ⟨rfl, rfl⟩
        go_wp2_with fail
        go_must (refine (control_v _ ⟨#[9]⟩ (ctlP [9] n.title.data.toList) _ z3 rfl).mono ?_)
        rintro e w1 ⟨rfl, rfl⟩
        go_wp2_with fail
        go_ret
        exact ⟨ret_bool HT.out.symm, (Below.refl _ _).alloc (Nat.le_refl _) _⟩
  · have ht : textP n.kind = ⟨#[9]⟩ := by rw [hx]; rfl
    have hd : destP n.kind = ⟨#[]⟩ := by rw [hx]; rfl
    rw [ht, hd] at hT
    clear ht hd
    cases h1 : ctlP (⟨#[9]⟩ : ByteArray).data.toList n.text.data.toList
    case true =>
      rw [h1, Bool.true_or, Bool.true_or] at hT
      have HT := Lib.hid hT; clear hT
      have H1 := Lib.hid h1; clear h1
      go_enter Tryz.func101, Tryz.ntmps101
      go_wp2_with fail
      go_must (refine (control_v _ _ true _ z1 H1.out).mono ?_)
      rintro e w1 ⟨rfl, rfl⟩
      go_wp2_with fail
      go_ret
      exact ⟨ret_bool HT.out.symm, (Below.refl _ _).alloc (Nat.le_refl _) _⟩
    case false =>
      cases h2 : ctlP (⟨#[]⟩ : ByteArray).data.toList n.dest.data.toList
      case true =>
        rw [h1, h2, Bool.or_true, Bool.true_or] at hT
        have HT := Lib.hid hT; clear hT
        have H1 := Lib.hid h1; clear h1
        have H2 := Lib.hid h2; clear h2
        go_enter Tryz.func101, Tryz.ntmps101
        go_wp2_with fail
        go_must (refine (control_v _ _ false _ z1 H1.out).mono ?_)
        rintro e w1 ⟨rfl, rfl⟩
        go_wp2_with fail
        go_must (refine (control_v _ _ true _ z2 H2.out).mono ?_)
        rintro e w1 ⟨rfl, rfl⟩
        go_wp2_with fail
        go_ret
        exact ⟨ret_bool HT.out.symm, (Below.refl _ _).alloc (Nat.le_refl _) _⟩
      case false =>
        rw [h1, h2, Bool.or_false, Bool.false_or] at hT
        have HT := Lib.hid hT; clear hT
        have H1 := Lib.hid h1; clear h1
        have H2 := Lib.hid h2; clear h2
        go_enter Tryz.func101, Tryz.ntmps101
        go_wp2_with fail
        go_must (refine (control_v _ _ false _ z1 H1.out).mono ?_)
        rintro e w1 ⟨rfl, rfl⟩
        go_wp2_with fail
        go_must (refine (control_v _ _ false _ z2 H2.out).mono ?_)
        rintro e w1 ⟨rfl, rfl⟩
        go_wp2_with fail
        go_must (refine (control_v _ ⟨#[9]⟩ (ctlP [9] n.title.data.toList) _ z3 rfl).mono ?_)
        rintro e w1 ⟨rfl, rfl⟩
        go_wp2_with fail
        go_ret
        exact ⟨ret_bool HT.out.symm, (Below.refl _ _).alloc (Nat.le_refl _) _⟩
  · have ht : textP n.kind = ⟨#[9]⟩ := by rw [hx]; rfl
    have hd : destP n.kind = ⟨#[]⟩ := by rw [hx]; rfl
    rw [ht, hd] at hT
    clear ht hd
    cases h1 : ctlP (⟨#[9]⟩ : ByteArray).data.toList n.text.data.toList
    case true =>
      rw [h1, Bool.true_or, Bool.true_or] at hT
      have HT := Lib.hid hT; clear hT
      have H1 := Lib.hid h1; clear h1
      go_enter Tryz.func101, Tryz.ntmps101
      go_wp2_with fail
      go_must (refine (control_v _ _ true _ z1 H1.out).mono ?_)
      rintro e w1 ⟨rfl, rfl⟩
      go_wp2_with fail
      go_ret
      exact ⟨ret_bool HT.out.symm, (Below.refl _ _).alloc (Nat.le_refl _) _⟩
    case false =>
      cases h2 : ctlP (⟨#[]⟩ : ByteArray).data.toList n.dest.data.toList
      case true =>
        rw [h1, h2, Bool.or_true, Bool.true_or] at hT
        have HT := Lib.hid hT; clear hT
        have H1 := Lib.hid h1; clear h1
        have H2 := Lib.hid h2; clear h2
        go_enter Tryz.func101, Tryz.ntmps101
        go_wp2_with fail
        go_must (refine (control_v _ _ false _ z1 H1.out).mono ?_)
        rintro e w1 ⟨rfl, rfl⟩
        go_wp2_with fail
        go_must (refine (control_v _ _ true _ z2 H2.out).mono ?_)
        rintro e w1 ⟨rfl, rfl⟩
        go_wp2_with fail
        go_ret
        exact ⟨ret_bool HT.out.symm, (Below.refl _ _).alloc (Nat.le_refl _) _⟩
      case false =>
        rw [h1, h2, Bool.or_false, Bool.false_or] at hT
        have HT := Lib.hid hT; clear hT
        have H1 := Lib.hid h1; clear h1
        have H2 := Lib.hid h2; clear h2
        go_enter Tryz.func101, Tryz.ntmps101
        go_wp2_with fail
        go_must (refine (control_v _ _ false _ z1 H1.out).mono ?_)
        rintro e w1 ⟨rfl, rfl⟩
        go_wp2_with fail
        go_must (refine (control_v _ _ false _ z2 H2.out).mono ?_)
        rintro e w1 ⟨rfl, rfl⟩
        go_wp2_with fail
        go_must (refine (control_v _ ⟨#[9]⟩ (ctlP [9] n.title.data.toList) _ z3 rfl).mono ?_)
        rintro e w1 ⟨rfl, rfl⟩
        go_wp2_with fail
        go_ret
        exact ⟨ret_bool HT.out.symm, (Below.refl _ _).alloc (Nat.le_refl _) _⟩
  · have ht : textP n.kind = ⟨#[9, 10]⟩ := by rw [hx]; rfl
    have hd : destP n.kind = ⟨#[9]⟩ := by rw [hx]; rfl
    rw [ht, hd] at hT
    clear ht hd
    cases h1 : ctlP (⟨#[9, 10]⟩ : ByteArray).data.toList n.text.data.toList
    case true =>
      rw [h1, Bool.true_or, Bool.true_or] at hT
      have HT := Lib.hid hT; clear hT
      have H1 := Lib.hid h1; clear h1
      go_enter Tryz.func101, Tryz.ntmps101
      go_wp2_with fail
      go_must (refine (control_v _ _ true _ z1 H1.out).mono ?_)
      rintro e w1 ⟨rfl, rfl⟩
      go_wp2_with fail
      go_ret
      exact ⟨ret_bool HT.out.symm, (Below.refl _ _).alloc (Nat.le_refl _) _⟩
    case false =>
      cases h2 : ctlP (⟨#[9]⟩ : ByteArray).data.toList n.dest.data.toList
      case true =>
        rw [h1, h2, Bool.or_true, Bool.true_or] at hT
        have HT := Lib.hid hT; clear hT
        have H1 := Lib.hid h1; clear h1
        have H2 := Lib.hid h2; clear h2
        go_enter Tryz.func101, Tryz.ntmps101
        go_wp2_with fail
        go_must (refine (control_v _ _ false _ z1 H1.out).mono ?_)
        rintro e w1 ⟨rfl, rfl⟩
        go_wp2_with fail
        go_must (refine (control_v _ _ true _ z2 H2.out).mono ?_)
        rintro e w1 ⟨rfl, rfl⟩
        go_wp2_with fail
        go_ret
        exact ⟨ret_bool HT.out.symm, (Below.refl _ _).alloc (Nat.le_refl _) _⟩
      case false =>
        rw [h1, h2, Bool.or_false, Bool.false_or] at hT
        have HT := Lib.hid hT; clear hT
        have H1 := Lib.hid h1; clear h1
        have H2 := Lib.hid h2; clear h2
        go_enter Tryz.func101, Tryz.ntmps101
        go_wp2_with fail
        go_must (refine (control_v _ _ false _ z1 H1.out).mono ?_)
        rintro e w1 ⟨rfl, rfl⟩
        go_wp2_with fail
        go_must (refine (control_v _ _ false _ z2 H2.out).mono ?_)
        rintro e w1 ⟨rfl, rfl⟩
        go_wp2_with fail
        go_must (refine (control_v _ ⟨#[9]⟩ (ctlP [9] n.title.data.toList) _ z3 rfl).mono ?_)
        rintro e w1 ⟨rfl, rfl⟩
        go_wp2_with fail
        go_ret
        exact ⟨ret_bool HT.out.symm, (Below.refl _ _).alloc (Nat.le_refl _) _⟩
  · have ht : textP n.kind = ⟨#[]⟩ := by unfold textP; rw [if_neg (by omega), if_neg (by omega)]
    have hd : destP n.kind = ⟨#[]⟩ := by unfold destP; rw [if_neg (by omega)]
    rw [ht, hd] at hT
    clear ht hd
    have k1 : (n.kind == 11) = false := by simp [hx.1]
    have k2 : (n.kind == 16) = false := by simp [hx.2.1]
    have k3 : (n.kind == 18) = false := by simp [hx.2.2.1]
    have k4 : (n.kind == 3) = false := by simp [hx.2.2.2]
    clear hx
    cases h1 : ctlP (⟨#[]⟩ : ByteArray).data.toList n.text.data.toList
    case true =>
      rw [h1, Bool.true_or, Bool.true_or] at hT
      have HT := Lib.hid hT; clear hT
      have H1 := Lib.hid h1; clear h1
      go_enter Tryz.func101, Tryz.ntmps101
      go_wp2_with fail
      go_must (refine (control_v _ _ true _ z1 H1.out).mono ?_)
      rintro e w1 ⟨rfl, rfl⟩
      go_wp2_with fail
      go_ret
      exact ⟨ret_bool HT.out.symm, (Below.refl _ _).alloc (Nat.le_refl _) _⟩
    case false =>
      cases h2 : ctlP (⟨#[]⟩ : ByteArray).data.toList n.dest.data.toList
      case true =>
        rw [h1, h2, Bool.or_true, Bool.true_or] at hT
        have HT := Lib.hid hT; clear hT
        have H1 := Lib.hid h1; clear h1
        have H2 := Lib.hid h2; clear h2
        go_enter Tryz.func101, Tryz.ntmps101
        go_wp2_with fail
        go_must (refine (control_v _ _ false _ z1 H1.out).mono ?_)
        rintro e w1 ⟨rfl, rfl⟩
        go_wp2_with fail
        go_must (refine (control_v _ _ true _ z2 H2.out).mono ?_)
        rintro e w1 ⟨rfl, rfl⟩
        go_wp2_with fail
        go_ret
        exact ⟨ret_bool HT.out.symm, (Below.refl _ _).alloc (Nat.le_refl _) _⟩
      case false =>
        rw [h1, h2, Bool.or_false, Bool.false_or] at hT
        have HT := Lib.hid hT; clear hT
        have H1 := Lib.hid h1; clear h1
        have H2 := Lib.hid h2; clear h2
        go_enter Tryz.func101, Tryz.ntmps101
        go_wp2_with fail
        go_must (refine (control_v _ _ false _ z1 H1.out).mono ?_)
        rintro e w1 ⟨rfl, rfl⟩
        go_wp2_with fail
        go_must (refine (control_v _ _ false _ z2 H2.out).mono ?_)
        rintro e w1 ⟨rfl, rfl⟩
        go_wp2_with fail
        go_must (refine (control_v _ ⟨#[9]⟩ (ctlP [9] n.title.data.toList) _ z3 rfl).mono ?_)
        rintro e w1 ⟨rfl, rfl⟩
        go_wp2_with fail
        go_ret
        exact ⟨ret_bool HT.out.symm, (Below.refl _ _).alloc (Nat.le_refl _) _⟩

/-- badBytes' answer -/
theorem ctlB_at {tab feed : Bool} {s : List UInt8} {i : Nat} {c : UInt8} (h : s[i]? = some c) : ctlB tab feed (s.drop i) = ((decide (c.toNat < 32) && !(tab && c == 9) && !(feed && c == 10)) || ctlB tab feed (s.drop (i + 1))) := by
  obtain ⟨hk, rfl⟩ := List.getElem?_eq_some_iff.1 h
  rw [List.drop_eq_getElem_cons hk]
  rfl

theorem byte_eq {c : UInt8} {n : Nat} (hn : n < 256) (h : (c.toNat : Int) = n) : c = UInt8.ofNat n := by
  apply UInt8.toNat.inj
  rw [UInt8.toNat_ofNat_of_lt' (by simpa using hn)]
  omega
theorem byte_ne {c : UInt8} {n : Nat} (hn : n < 256) (h : ¬ (c.toNat : Int) = n) : (c == UInt8.ofNat n) = false := by
  rw [beq_eq_false_iff_ne]
  rintro rfl
  rw [UInt8.toNat_ofNat_of_lt' (by simpa using hn)] at h
  exact h rfl

set_option maxHeartbeats 2000000 in
theorem badBytes_any (s : ByteArray) (tab feed : Bool) (w : World) (hs : s.size ≤ maxLen) : Calls Tryz.prog 67 #[.string s, .bool tab, .bool feed] w fun e w' => e = .returned (.bool (ctlB tab feed s.data.toList)) ∧ w = w' := by
  unfold maxLen at hs
  cases tab <;> cases feed

  · go_enter Tryz.func67, Tryz.ntmps67
    go_wp2_with fail
    go_loopw [7] (fun t w2 => ∃ k : Nat, k ≤ s.size ∧ t = .int .i64 k ∧ EqW w2 w ∧ Hid (ctlB false false (s.data.toList.drop k) = ctlB false false s.data.toList)) (fun t _ => s.size - (intOf t).toNat)
    case atStart => exact ⟨0, Nat.zero_le _, rfl, EqW.refl _, rfl⟩
    case round =>
      obtain ⟨k, hk, rfl, hww, hr⟩ := hrel
      unfold EqW at hww
      subst hww
      by_cases hlt : k < s.size
      · have hr2 := hr.out
        rw [ctlB_at (byteAt' hlt)] at hr2
        clear hr
        by_cases h32 : (s[k].toNat : Int) < 32
        · have h32n : s[k].toNat < 32 := by omega
          by_cases h9 : (s[k].toNat : Int) = 9
          · have e9 := byte_eq (n := 9) (by omega) h9
            have HR := Lib.hid (show (if false = true then ctlB false false (s.data.toList.drop (k + 1)) else true) = ctlB false false s.data.toList by rw [← hr2, e9]; simp; try decide)
            clear hr2 e9
            have h9b : ((s[k].toNat : Int) == 9) = true := by simp [h9]
            have h9c : ((s[k].toNat : Int) == 10) = false := by simp; omega
            clear h9
            go_wp2_with fail
            go_ret
            exact ⟨ret_bool HR.out, rfl⟩
          · have e9 := byte_ne (n := 9) (by omega) h9
            have h9b : ((s[k].toNat : Int) == 9) = false := by simp [h9]
            clear h9
            by_cases h10 : (s[k].toNat : Int) = 10
            · have e10 := byte_eq (n := 10) (by omega) h10
              have HR := Lib.hid (show (if false = true then ctlB false false (s.data.toList.drop (k + 1)) else true) = ctlB false false s.data.toList by rw [← hr2, e10]; simp; try decide)
              clear hr2 e9 e10
              have h10b : ((s[k].toNat : Int) == 10) = true := by simp [h10]
              clear h10
              go_wp2_with fail
              go_ret
              exact ⟨ret_bool HR.out, rfl⟩
            · have e10 := byte_ne (n := 10) (by omega) h10
              have HR := Lib.hid (show true = ctlB false false s.data.toList by rw [← hr2, show (9 : UInt8) = UInt8.ofNat 9 from rfl, show (10 : UInt8) = UInt8.ofNat 10 from rfl, e9, e10]; simp [h32n])
              clear hr2 e9 e10
              have h10b : ((s[k].toNat : Int) == 10) = false := by simp [h10]
              clear h10
              go_wp2_with fail
              go_ret
              exact ⟨ret_bool HR.out, rfl⟩
        · have HR := Lib.hid (show ctlB false false (s.data.toList.drop (k + 1)) = ctlB false false s.data.toList by rw [← hr2]; simp; omega)
          clear hr2
          go_wp2_with fail
          go_roundw
          case rel => exact ⟨k + 1, by omega, by go_num, EqW.refl _, HR.out⟩
          case measure => simp [intOf]; omega
      · have HR := Lib.hid (show ctlB false false s.data.toList = false by rw [← hr.out, List.drop_eq_nil_of_le (by rw [size_toList]; omega)]; rfl)
        clear hr
        go_wp2_with fail
        go_ret
        exact ⟨ret_bool HR.out.symm, rfl⟩
  · go_enter Tryz.func67, Tryz.ntmps67
    go_wp2_with fail
    go_loopw [7] (fun t w2 => ∃ k : Nat, k ≤ s.size ∧ t = .int .i64 k ∧ EqW w2 w ∧ Hid (ctlB false true (s.data.toList.drop k) = ctlB false true s.data.toList)) (fun t _ => s.size - (intOf t).toNat)
    case atStart => exact ⟨0, Nat.zero_le _, rfl, EqW.refl _, rfl⟩
    case round =>
      obtain ⟨k, hk, rfl, hww, hr⟩ := hrel
      unfold EqW at hww
      subst hww
      by_cases hlt : k < s.size
      · have hr2 := hr.out
        rw [ctlB_at (byteAt' hlt)] at hr2
        clear hr
        by_cases h32 : (s[k].toNat : Int) < 32
        · have h32n : s[k].toNat < 32 := by omega
          by_cases h9 : (s[k].toNat : Int) = 9
          · have e9 := byte_eq (n := 9) (by omega) h9
            have HR := Lib.hid (show (if false = true then ctlB false true (s.data.toList.drop (k + 1)) else true) = ctlB false true s.data.toList by rw [← hr2, e9]; simp; try decide)
            clear hr2 e9
            have h9b : ((s[k].toNat : Int) == 9) = true := by simp [h9]
            have h9c : ((s[k].toNat : Int) == 10) = false := by simp; omega
            clear h9
            go_wp2_with fail
            go_ret
            exact ⟨ret_bool HR.out, rfl⟩
          · have e9 := byte_ne (n := 9) (by omega) h9
            have h9b : ((s[k].toNat : Int) == 9) = false := by simp [h9]
            clear h9
            by_cases h10 : (s[k].toNat : Int) = 10
            · have e10 := byte_eq (n := 10) (by omega) h10
              have HR := Lib.hid (show (if true = true then ctlB false true (s.data.toList.drop (k + 1)) else true) = ctlB false true s.data.toList by rw [← hr2, e10]; simp; try decide)
              clear hr2 e9 e10
              have h10b : ((s[k].toNat : Int) == 10) = true := by simp [h10]
              clear h10
              go_wp2_with fail
              go_roundw
              case rel => exact ⟨k + 1, by omega, by go_num, EqW.refl _, HR.out⟩
              case measure => simp [intOf]; omega
            · have e10 := byte_ne (n := 10) (by omega) h10
              have HR := Lib.hid (show true = ctlB false true s.data.toList by rw [← hr2, show (9 : UInt8) = UInt8.ofNat 9 from rfl, show (10 : UInt8) = UInt8.ofNat 10 from rfl, e9, e10]; simp [h32n])
              clear hr2 e9 e10
              have h10b : ((s[k].toNat : Int) == 10) = false := by simp [h10]
              clear h10
              go_wp2_with fail
              go_ret
              exact ⟨ret_bool HR.out, rfl⟩
        · have HR := Lib.hid (show ctlB false true (s.data.toList.drop (k + 1)) = ctlB false true s.data.toList by rw [← hr2]; simp; omega)
          clear hr2
          go_wp2_with fail
          go_roundw
          case rel => exact ⟨k + 1, by omega, by go_num, EqW.refl _, HR.out⟩
          case measure => simp [intOf]; omega
      · have HR := Lib.hid (show ctlB false true s.data.toList = false by rw [← hr.out, List.drop_eq_nil_of_le (by rw [size_toList]; omega)]; rfl)
        clear hr
        go_wp2_with fail
        go_ret
        exact ⟨ret_bool HR.out.symm, rfl⟩
  · go_enter Tryz.func67, Tryz.ntmps67
    go_wp2_with fail
    go_loopw [7] (fun t w2 => ∃ k : Nat, k ≤ s.size ∧ t = .int .i64 k ∧ EqW w2 w ∧ Hid (ctlB true false (s.data.toList.drop k) = ctlB true false s.data.toList)) (fun t _ => s.size - (intOf t).toNat)
    case atStart => exact ⟨0, Nat.zero_le _, rfl, EqW.refl _, rfl⟩
    case round =>
      obtain ⟨k, hk, rfl, hww, hr⟩ := hrel
      unfold EqW at hww
      subst hww
      by_cases hlt : k < s.size
      · have hr2 := hr.out
        rw [ctlB_at (byteAt' hlt)] at hr2
        clear hr
        by_cases h32 : (s[k].toNat : Int) < 32
        · have h32n : s[k].toNat < 32 := by omega
          by_cases h9 : (s[k].toNat : Int) = 9
          · have e9 := byte_eq (n := 9) (by omega) h9
            have HR := Lib.hid (show (if true = true then ctlB true false (s.data.toList.drop (k + 1)) else true) = ctlB true false s.data.toList by rw [← hr2, e9]; simp; try decide)
            clear hr2 e9
            have h9b : ((s[k].toNat : Int) == 9) = true := by simp [h9]
            have h9c : ((s[k].toNat : Int) == 10) = false := by simp; omega
            clear h9
            go_wp2_with fail
            go_roundw
            case rel => exact ⟨k + 1, by omega, by go_num, EqW.refl _, HR.out⟩
            case measure => simp [intOf]; omega
          · have e9 := byte_ne (n := 9) (by omega) h9
            have h9b : ((s[k].toNat : Int) == 9) = false := by simp [h9]
            clear h9
            by_cases h10 : (s[k].toNat : Int) = 10
            · have e10 := byte_eq (n := 10) (by omega) h10
              have HR := Lib.hid (show (if false = true then ctlB true false (s.data.toList.drop (k + 1)) else true) = ctlB true false s.data.toList by rw [← hr2, e10]; simp; try decide)
              clear hr2 e9 e10
              have h10b : ((s[k].toNat : Int) == 10) = true := by simp [h10]
              clear h10
              go_wp2_with fail
              go_ret
              exact ⟨ret_bool HR.out, rfl⟩
            · have e10 := byte_ne (n := 10) (by omega) h10
              have HR := Lib.hid (show true = ctlB true false s.data.toList by rw [← hr2, show (9 : UInt8) = UInt8.ofNat 9 from rfl, show (10 : UInt8) = UInt8.ofNat 10 from rfl, e9, e10]; simp [h32n])
              clear hr2 e9 e10
              have h10b : ((s[k].toNat : Int) == 10) = false := by simp [h10]
              clear h10
              go_wp2_with fail
              go_ret
              exact ⟨ret_bool HR.out, rfl⟩
        · have HR := Lib.hid (show ctlB true false (s.data.toList.drop (k + 1)) = ctlB true false s.data.toList by rw [← hr2]; simp; omega)
          clear hr2
          go_wp2_with fail
          go_roundw
          case rel => exact ⟨k + 1, by omega, by go_num, EqW.refl _, HR.out⟩
          case measure => simp [intOf]; omega
      · have HR := Lib.hid (show ctlB true false s.data.toList = false by rw [← hr.out, List.drop_eq_nil_of_le (by rw [size_toList]; omega)]; rfl)
        clear hr
        go_wp2_with fail
        go_ret
        exact ⟨ret_bool HR.out.symm, rfl⟩
  · go_enter Tryz.func67, Tryz.ntmps67
    go_wp2_with fail
    go_loopw [7] (fun t w2 => ∃ k : Nat, k ≤ s.size ∧ t = .int .i64 k ∧ EqW w2 w ∧ Hid (ctlB true true (s.data.toList.drop k) = ctlB true true s.data.toList)) (fun t _ => s.size - (intOf t).toNat)
    case atStart => exact ⟨0, Nat.zero_le _, rfl, EqW.refl _, rfl⟩
    case round =>
      obtain ⟨k, hk, rfl, hww, hr⟩ := hrel
      unfold EqW at hww
      subst hww
      by_cases hlt : k < s.size
      · have hr2 := hr.out
        rw [ctlB_at (byteAt' hlt)] at hr2
        clear hr
        by_cases h32 : (s[k].toNat : Int) < 32
        · have h32n : s[k].toNat < 32 := by omega
          by_cases h9 : (s[k].toNat : Int) = 9
          · have e9 := byte_eq (n := 9) (by omega) h9
            have HR := Lib.hid (show (if true = true then ctlB true true (s.data.toList.drop (k + 1)) else true) = ctlB true true s.data.toList by rw [← hr2, e9]; simp; try decide)
            clear hr2 e9
            have h9b : ((s[k].toNat : Int) == 9) = true := by simp [h9]
            have h9c : ((s[k].toNat : Int) == 10) = false := by simp; omega
            clear h9
            go_wp2_with fail
            go_roundw
            case rel => exact ⟨k + 1, by omega, by go_num, EqW.refl _, HR.out⟩
            case measure => simp [intOf]; omega
          · have e9 := byte_ne (n := 9) (by omega) h9
            have h9b : ((s[k].toNat : Int) == 9) = false := by simp [h9]
            clear h9
            by_cases h10 : (s[k].toNat : Int) = 10
            · have e10 := byte_eq (n := 10) (by omega) h10
              have HR := Lib.hid (show (if true = true then ctlB true true (s.data.toList.drop (k + 1)) else true) = ctlB true true s.data.toList by rw [← hr2, e10]; simp; try decide)
              clear hr2 e9 e10
              have h10b : ((s[k].toNat : Int) == 10) = true := by simp [h10]
              clear h10
              go_wp2_with fail
              go_roundw
              case rel => exact ⟨k + 1, by omega, by go_num, EqW.refl _, HR.out⟩
              case measure => simp [intOf]; omega
            · have e10 := byte_ne (n := 10) (by omega) h10
              have HR := Lib.hid (show true = ctlB true true s.data.toList by rw [← hr2, show (9 : UInt8) = UInt8.ofNat 9 from rfl, show (10 : UInt8) = UInt8.ofNat 10 from rfl, e9, e10]; simp [h32n])
              clear hr2 e9 e10
              have h10b : ((s[k].toNat : Int) == 10) = false := by simp [h10]
              clear h10
              go_wp2_with fail
              go_ret
              exact ⟨ret_bool HR.out, rfl⟩
        · have HR := Lib.hid (show ctlB true true (s.data.toList.drop (k + 1)) = ctlB true true s.data.toList by rw [← hr2]; simp; omega)
          clear hr2
          go_wp2_with fail
          go_roundw
          case rel => exact ⟨k + 1, by omega, by go_num, EqW.refl _, HR.out⟩
          case measure => simp [intOf]; omega
      · have HR := Lib.hid (show ctlB true true s.data.toList = false by rw [← hr.out, List.drop_eq_nil_of_le (by rw [size_toList]; omega)]; rfl)
        clear hr
        go_wp2_with fail
        go_ret
        exact ⟨ret_bool HR.out.symm, rfl⟩
end Go.Proofs.YtikijmjcmpkkdaaGreatDoor
