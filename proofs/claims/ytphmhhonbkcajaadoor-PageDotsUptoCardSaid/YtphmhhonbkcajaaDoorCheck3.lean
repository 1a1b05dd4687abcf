/-
  Bytes that may not be there, in a node: mark.byteFault; mastref1.badBytes.
-/
import Derived.Test.YtphmhhonbkcajaaDoorCheck2
import Derived.Test.YtphmhhonbkcajaaDoorTree
namespace Go.Proofs.YtphmhhonbkcajaaDoor
open Go.RowKit Go.Deep

/-- a node by value -/
abbrev nodeV (n : Node) (kv : Value) : Value := .agg #[.int .i64 n.kind, .int .i64 n.level, .string n.text, .string n.dest, .string n.title, kv]

def textP (k : Int) : ByteArray := if k = 11 ∨ k = 16 ∨ k = 18 then ⟨#[9]⟩ else if k = 3 then ⟨#[9, 10]⟩ else ⟨#[]⟩
def destP (k : Int) : ByteArray := if k = 3 then ⟨#[9]⟩ else ⟨#[]⟩

def byteFaultB (n : Node) : Bool := ctlP (textP n.kind).data.toList n.text.data.toList || ctlP (destP n.kind).data.toList n.dest.data.toList || ctlP [9] n.title.data.toList

theorem control_v (s p : ByteArray) (v : Bool) (w : World) (hs : s.size ≤ maxLen) (h : ctlP p.data.toList s.data.toList = v) : Calls Tryd.prog 40 #[.string s, .string p] w fun e w' => e = .returned (.bool v) ∧ w = w' := by
  subst h
  exact control_any s p w hs




set_option maxHeartbeats 2000000 in
theorem byteFault_any (n : Node) (A : Option Addr) (m c : Nat) (w : World) (hk : NodeOk n) :
    Calls Tryd.prog 34 #[nodeV n (.slice A m c)] w fun e w' => e = .returned (.bool (byteFaultB n)) ∧ Below w.heap.size w w' := by
  obtain ⟨_, _, z1, z2, z3⟩ := hk
  have hx : n.kind = 11 ∨ n.kind = 16 ∨ n.kind = 18 ∨ n.kind = 3 ∨ (n.kind ≠ 11 ∧ n.kind ≠ 16 ∧ n.kind ≠ 18 ∧ n.kind ≠ 3) := by omega
  have hT : byteFaultB n = (ctlP (textP n.kind).data.toList n.text.data.toList || ctlP (destP n.kind).data.toList n.dest.data.toList || ctlP [9] n.title.data.toList) := rfl
  rcases hx with hx | hx | hx | hx | hx
  · have ht : textP n.kind = ⟨#[9]⟩ := by rw [hx]; rfl
    have hd : destP n.kind = ⟨#[]⟩ := by rw [hx]; rfl
    rw [ht, hd] at hT
    clear ht hd
    cases h1 : ctlP (⟨#[9]⟩ : ByteArray).data.toList n.text.data.toList
    case true =>
      rw [h1, Bool.true_or, Bool.true_or] at hT
      have HT := Lib.hid hT; clear hT
      have H1 := Lib.hid h1; clear h1
      go_enter Tryd.func34, Tryd.ntmps34
      go_wp2_with fail
      go_must (refine (control_v _ _ true _ z1 H1.out).mono ?_)
      rintro e w1 ⟨rfl, rfl⟩
      go_wp2_with fail
      go_ret
      exact ⟨ret_bool HT.out.symm, (Below.refl _ _).alloc (Nat.le_refl _) _⟩
    case false =>
      cases h2 : ctlP (⟨#[]⟩ : ByteArray).data.toList n.dest.data.toList
      case true =>
        rw [h1, h2, Bool.or_true, Bool.true_or] at hT
        have HT := Lib.hid hT; clear hT
        have H1 := Lib.hid h1; clear h1
        have H2 := Lib.hid h2; clear h2
        go_enter Tryd.func34, Tryd.ntmps34
        go_wp2_with fail
        go_must (refine (control_v _ _ false _ z1 H1.out).mono ?_)
        rintro e w1 ⟨rfl, rfl⟩
        go_wp2_with fail
        go_must (refine (control_v _ _ true _ z2 H2.out).mono ?_)
        rintro e w1 ⟨rfl, rfl⟩
        go_wp2_with fail
        go_ret
        exact ⟨ret_bool HT.out.symm, (Below.refl _ _).alloc (Nat.le_refl _) _⟩
      case false =>
        rw [h1, h2, Bool.or_false, Bool.false_or] at hT
        have HT := Lib.hid hT; clear hT
        have H1 := Lib.hid h1; clear h1
        have H2 := Lib.hid h2; clear h2
        go_enter Tryd.func34, Tryd.ntmps34
        go_wp2_with fail
        go_must (refine (control_v _ _ false _ z1 H1.out).mono ?_)
        rintro e w1 ⟨rfl, rfl⟩
        go_wp2_with fail
        go_must (refine (control_v _ _ false _ z2 H2.out).mono ?_)
        rintro e w1 ⟨rfl, rfl⟩
        go_wp2_with fail
        go_must (refine (control_v _ ⟨#[9]⟩ (ctlP [9] n.title.data.toList) _ z3 rfl).mono ?_)
        rintro e w1 ⟨rfl, rfl⟩
        go_wp2_with fail
        go_ret
        exact ⟨ret_bool HT.out.symm, (Below.refl _ _).alloc (Nat.le_refl _) _⟩
  · have ht : textP n.kind = ⟨#[9]⟩ := by rw [hx]; rfl
    have hd : destP n.kind = ⟨#[]⟩ := by rw [hx]; rfl
    rw [ht, hd] at hT
    clear ht hd
    cases h1 : ctlP (⟨#[9]⟩ : ByteArray).data.toList n.text.data.toList
    case true =>
      rw [h1, Bool.true_or, Bool.true_or] at hT
      have HT := Lib.hid hT; clear hT
      have H1 := Lib.hid h1; clear h1
      go_enter Tryd.func34, Tryd.ntmps34
      go_wp2_with fail
      go_must (refine (control_v _ _ true _ z1 H1.out).mono ?_)
      rintro e w1 ⟨rfl, rfl⟩
      go_wp2_with fail
      go_ret
      exact ⟨ret_bool HT.out.symm, (Below.refl _ _).alloc (Nat.le_refl _) _⟩
    case false =>
      cases h2 : ctlP (⟨#[]⟩ : ByteArray).data.toList n.dest.data.toList
      case true =>
        rw [h1, h2, Bool.or_true, Bool.true_or] at hT
        have HT := Lib.hid hT; clear hT
        have H1 := Lib.hid h1; clear h1
        have H2 := Lib.hid h2; clear h2
        go_enter Tryd.func34, Tryd.ntmps34
        go_wp2_with fail
        go_must (refine (control_v _ _ false _ z1 H1.out).mono ?_)
        rintro e w1 ⟨rfl, rfl⟩
        go_wp2_with fail
        go_must (refine (control_v _ _ true _ z2 H2.out).mono ?_)
        rintro e w1 ⟨rfl, rfl⟩
        go_wp2_with fail
        go_ret
        exact ⟨ret_bool HT.out.symm, (Below.refl _ _).alloc (Nat.le_refl _) _⟩
      case false =>
        rw [h1, h2, Bool.or_false, Bool.false_or] at hT
        have HT := Lib.hid hT; clear hT
        have H1 := Lib.hid h1; clear h1
        have H2 := Lib.hid h2; clear h2
        go_enter Tryd.func34, Tryd.ntmps34
        go_wp2_with fail
        go_must (refine (control_v _ _ false _ z1 H1.out).mono ?_)
        rintro e w1 ⟨rfl, rfl⟩
        go_wp2_with fail
        go_must (refine (control_v _ _ false _ z2 H2.out).mono ?_)
        rintro e w1 ⟨rfl, rfl⟩
        go_wp2_with fail
        go_must (refine (control_v _ ⟨#[9]⟩ (ctlP [9] n.title.data.toList) _ z3 rfl).mono ?_)
        rintro e w1 ⟨rfl, rfl⟩
        go_wp2_with fail
        go_ret
        exact ⟨ret_bool HT.out.symm, (Below.refl _ _).alloc (Nat.le_refl _) _⟩
  · have ht : textP n.kind = ⟨#[9]⟩ := by rw [hx]; rfl
    have hd : destP n.kind = ⟨#[]⟩ := by rw [hx]; rfl
    rw [ht, hd] at hT
    clear ht hd
    cases h1 : ctlP (⟨#[9]⟩ : ByteArray).data.toList n.text.data.toList
    case true =>
      rw [h1, Bool.true_or, Bool.true_or] at hT
      have HT := Lib.hid hT; clear hT
      have H1 := Lib.hid h1; clear h1
      go_enter Tryd.func34, Tryd.ntmps34
      go_wp2_with fail
      go_must (refine (control_v _ _ true _ z1 H1.out).mono ?_)
      rintro e w1 ⟨rfl, rfl⟩
      go_wp2_with fail
      go_ret
      exact ⟨ret_bool HT.out.symm, (Below.refl _ _).alloc (Nat.le_refl _) _⟩
    case false =>
      cases h2 : ctlP (⟨#[]⟩ : ByteArray).data.toList n.dest.data.toList
      case true =>
        rw [h1, h2, Bool.or_true, Bool.true_or] at hT
        have HT := Lib.hid hT; clear hT
        have H1 := Lib.hid h1; clear h1
        have H2 := Lib.hid h2; clear h2
        go_enter Tryd.func34, Tryd.ntmps34
        go_wp2_with fail
        go_must (refine (control_v _ _ false _ z1 H1.out).mono ?_)
        rintro e w1 ⟨rfl, rfl⟩
        go_wp2_with fail
        go_must (refine (control_v _ _ true _ z2 H2.out).mono ?_)
        rintro e w1 ⟨rfl, rfl⟩
        go_wp2_with fail
        go_ret
        exact ⟨ret_bool HT.out.symm, (Below.refl _ _).alloc (Nat.le_refl _) _⟩
      case false =>
        rw [h1, h2, Bool.or_false, Bool.false_or] at hT
        have HT := Lib.hid hT; clear hT
        have H1 := Lib.hid h1; clear h1
        have H2 := Lib.hid h2; clear h2
        go_enter Tryd.func34, Tryd.ntmps34
        go_wp2_with fail
        go_must (refine (control_v _ _ false _ z1 H1.out).mono ?_)
        rintro e w1 ⟨rfl, rfl⟩
        go_wp2_with fail
        go_must (refine (control_v _ _ false _ z2 H2.out).mono ?_)
        rintro e w1 ⟨rfl, rfl⟩
        go_wp2_with fail
        go_must (refine (control_v _ ⟨#[9]⟩ (ctlP [9] n.title.data.toList) _ z3 rfl).mono ?_)
        rintro e w1 ⟨rfl, rfl⟩
        go_wp2_with fail
        go_ret
        exact ⟨ret_bool HT.out.symm, (Below.refl _ _).alloc (Nat.le_refl _) _⟩
  · have ht : textP n.kind = ⟨#[9, 10]⟩ := by rw [hx]; rfl
    have hd : destP n.kind = ⟨#[9]⟩ := by rw [hx]; rfl
    rw [ht, hd] at hT
    clear ht hd
    cases h1 : ctlP (⟨#[9, 10]⟩ : ByteArray).data.toList n.text.data.toList
    case true =>
      rw [h1, Bool.true_or, Bool.true_or] at hT
      have HT := Lib.hid hT; clear hT
      have H1 := Lib.hid h1; clear h1
      go_enter Tryd.func34, Tryd.ntmps34
      go_wp2_with fail
      go_must (refine (control_v _ _ true _ z1 H1.out).mono ?_)
      rintro e w1 ⟨rfl, rfl⟩
      go_wp2_with fail
      go_ret
      exact ⟨ret_bool HT.out.symm, (Below.refl _ _).alloc (Nat.le_refl _) _⟩
    case false =>
      cases h2 : ctlP (⟨#[9]⟩ : ByteArray).data.toList n.dest.data.toList
      case true =>
        rw [h1, h2, Bool.or_true, Bool.true_or] at hT
        have HT := Lib.hid hT; clear hT
        have H1 := Lib.hid h1; clear h1
        have H2 := Lib.hid h2; clear h2
        go_enter Tryd.func34, Tryd.ntmps34
        go_wp2_with fail
        go_must (refine (control_v _ _ false _ z1 H1.out).mono ?_)
        rintro e w1 ⟨rfl, rfl⟩
        go_wp2_with fail
        go_must (refine (control_v _ _ true _ z2 H2.out).mono ?_)
        rintro e w1 ⟨rfl, rfl⟩
        go_wp2_with fail
        go_ret
        exact ⟨ret_bool HT.out.symm, (Below.refl _ _).alloc (Nat.le_refl _) _⟩
      case false =>
        rw [h1, h2, Bool.or_false, Bool.false_or] at hT
        have HT := Lib.hid hT; clear hT
        have H1 := Lib.hid h1; clear h1
        have H2 := Lib.hid h2; clear h2
        go_enter Tryd.func34, Tryd.ntmps34
        go_wp2_with fail
        go_must (refine (control_v _ _ false _ z1 H1.out).mono ?_)
        rintro e w1 ⟨rfl, rfl⟩
        go_wp2_with fail
        go_must (refine (control_v _ _ false _ z2 H2.out).mono ?_)
        rintro e w1 ⟨rfl, rfl⟩
        go_wp2_with fail
        go_must (refine (control_v _ ⟨#[9]⟩ (ctlP [9] n.title.data.toList) _ z3 rfl).mono ?_)
        rintro e w1 ⟨rfl, rfl⟩
        go_wp2_with fail
        go_ret
        exact ⟨ret_bool HT.out.symm, (Below.refl _ _).alloc (Nat.le_refl _) _⟩
  · have ht : textP n.kind = ⟨#[]⟩ := by unfold textP; rw [if_neg (by omega), if_neg (by omega)]
    have hd : destP n.kind = ⟨#[]⟩ := by unfold destP; rw [if_neg (by omega)]
    rw [ht, hd] at hT
    clear ht hd
    have k1 : (n.kind == 11) = false := by simp [hx.1]
    have k2 : (n.kind == 16) = false := by simp [hx.2.1]
    have k3 : (n.kind == 18) = false := by simp [hx.2.2.1]
    have k4 : (n.kind == 3) = false := by simp [hx.2.2.2]
    clear hx
    cases h1 : ctlP (⟨#[]⟩ : ByteArray).data.toList n.text.data.toList
    case true =>
      rw [h1, Bool.true_or, Bool.true_or] at hT
      have HT := Lib.hid hT; clear hT
      have H1 := Lib.hid h1; clear h1
      go_enter Tryd.func34, Tryd.ntmps34
      go_wp2_with fail
      go_must (refine (control_v _ _ true _ z1 H1.out).mono ?_)
      rintro e w1 ⟨rfl, rfl⟩
      go_wp2_with fail
      go_ret
      exact ⟨ret_bool HT.out.symm, (Below.refl _ _).alloc (Nat.le_refl _) _⟩
    case false =>
      cases h2 : ctlP (⟨#[]⟩ : ByteArray).data.toList n.dest.data.toList
      case true =>
        rw [h1, h2, Bool.or_true, Bool.true_or] at hT
        have HT := Lib.hid hT; clear hT
        have H1 := Lib.hid h1; clear h1
        have H2 := Lib.hid h2; clear h2
        go_enter Tryd.func34, Tryd.ntmps34
        go_wp2_with fail
        go_must (refine (control_v _ _ false _ z1 H1.out).mono ?_)
        rintro e w1 ⟨rfl, rfl⟩
        go_wp2_with fail
        go_must (refine (control_v _ _ true _ z2 H2.out).mono ?_)
        rintro e w1 ⟨rfl, rfl⟩
        go_wp2_with fail
        go_ret
        exact ⟨ret_bool HT.out.symm, (Below.refl _ _).alloc (Nat.le_refl _) _⟩
      case false =>
        rw [h1, h2, Bool.or_false, Bool.false_or] at hT
        have HT := Lib.hid hT; clear hT
        have H1 := Lib.hid h1; clear h1
        have H2 := Lib.hid h2; clear h2
        go_enter Tryd.func34, Tryd.ntmps34
        go_wp2_with fail
        go_must (refine (control_v _ _ false _ z1 H1.out).mono ?_)
        rintro e w1 ⟨rfl, rfl⟩
        go_wp2_with fail
        go_must (refine (control_v _ _ false _ z2 H2.out).mono ?_)
        rintro e w1 ⟨rfl, rfl⟩
        go_wp2_with fail
        go_must (refine (control_v _ ⟨#[9]⟩ (ctlP [9] n.title.data.toList) _ z3 rfl).mono ?_)
        rintro e w1 ⟨rfl, rfl⟩
        go_wp2_with fail
        go_ret
        exact ⟨ret_bool HT.out.symm, (Below.refl _ _).alloc (Nat.le_refl _) _⟩

/-- badBytes' answer -/
theorem ctlB_at {tab feed : Bool} {s : List UInt8} {i : Nat} {c : UInt8} (h : s[i]? = some c) : ctlB tab feed (s.drop i) = ((decide (c.toNat < 32) && !(tab && c == 9) && !(feed && c == 10)) || ctlB tab feed (s.drop (i + 1))) := by
  obtain ⟨hk, rfl⟩ := List.getElem?_eq_some_iff.1 h
  rw [List.drop_eq_getElem_cons hk]
  rfl

theorem byte_eq {c : UInt8} {n : Nat} (hn : n < 256) (h : (c.toNat : Int) = n) : c = UInt8.ofNat n := by
  apply UInt8.toNat.inj
  rw [UInt8.toNat_ofNat_of_lt' (by simpa using hn)]
  omega
theorem byte_ne {c : UInt8} {n : Nat} (hn : n < 256) (h : ¬ (c.toNat : Int) = n) : (c == UInt8.ofNat n) = false := by
  rw [beq_eq_false_iff_ne]
  rintro rfl
  rw [UInt8.toNat_ofNat_of_lt' (by simpa using hn)] at h
  exact h rfl

end Go.Proofs.YtphmhhonbkcajaaDoor
