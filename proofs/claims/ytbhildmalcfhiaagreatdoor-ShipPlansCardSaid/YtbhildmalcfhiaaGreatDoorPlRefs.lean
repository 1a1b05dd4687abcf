/-
  ship.references: the outputs to which a page refers.
-/
import Derived.Test.YtbhildmalcfhiaaGreatDoorReadPlain
import Derived.Test.YtbhildmalcfhiaaGreatDoorShelf
import Derived.Laws.Strings2
import Derived.BigQuiet
import Derived.Deep.QuietTactic
import Derived.Test.YtbhildmalcfhiaaGreatDoorLower
import Derived.Test.YtbhildmalcfhiaaGreatDoorConv
import Derived.Test.YtbhildmalcfhiaaGreatDoorTokScan
import Derived.Laws.Runes
import Derived.BigGuardPart
import Derived.Test.YtbhildmalcfhiaaGreatDoorOuts
import Derived.Test.YtbhildmalcfhiaaGreatDoorOwn
import Derived.Test.YtbhildmalcfhiaaGreatDoorBox
import Derived.Laws.AppendOwnNone
import Derived.Lib.SplitLaws
import Derived.Test.YtbhildmalcfhiaaGreatDoorTokRaw
import Derived.Test.YtbhildmalcfhiaaGreatDoorOutsQ
import Derived.OwnWalk
import Derived.Laws.ResultCell
import Derived.Test.YtbhildmalcfhiaaGreatDoorEvPlain
import Derived.Test.YtbhildmalcfhiaaGreatDoorStrMap
import Derived.Test.YtbhildmalcfhiaaGreatDoorBytes
import Derived.Laws.RangeAny
import Derived.Lib.OthersKept
import Derived.Lib.IndexAny
import Derived.Deep.DeepMust
import Derived.Deep.LoopGhost
import Derived.WalkSpells
import Derived.Outline
import Derived.IntWalk
import Derived.Test.YtbhildmalcfhiaaGreatDoorAddresses
import Derived.Test.YtbhildmalcfhiaaGreatDoorLkTop
import Derived.Deep.CutRange
import Derived.Deep.Cut
namespace Go.Proofs.YtbhildmalcfhiaaGreatDoor
open Go.RowKit Go.Deep

theorem byteL_q (s : ByteArray) (c : UInt8) (n v : Int) (w : World) (hn : (c.toNat : Int) = n) (hv : Lib.indexByte s.data.toList c = v) :
    Calls Tryz.prog 150 #[.string s, .int .u8 n] w fun e w' => e = .returned (.int .i64 v) ∧ w = w' := by
  subst hn
  have hback : ((c.toNat : Int)).toNat.toUInt8 = c := by simp
  refine (Tryz.strings_IndexByte s (c.toNat : Int) w).mono fun e w' ⟨he, hw⟩ => ⟨?_, hw.symm⟩
  rw [he, hback, hv]
theorem ext_takeP (s : ByteArray) (k : Nat) : (s.extract 0 k).data.toList = s.data.toList.take k := by rw [Lib.extract_data]; simp
theorem ext_dropP (s : ByteArray) (k : Nat) : (s.extract k s.size).data.toList = s.data.toList.drop k := by
  rw [Lib.extract_data, ← size_toList, List.take_of_length_le (by simp)]
def CutPost (a b : List UInt8) (w : World) (e : Ending) (w' : World) : Prop := ∃ x y : ByteArray, x.data.toList = a ∧ y.data.toList = b ∧ e = .returned (.tuple #[.string x, .string y]) ∧ Below w.heap.size w w'
theorem CutPost.mk {a b : List UInt8} {w w' : World} {x y : ByteArray} (h1 : x.data.toList = a) (h2 : y.data.toList = b) (hb : Below w.heap.size w w') : CutPost a b w (.returned (.tuple #[.string x, .string y])) w' := ⟨x, y, h1, h2, rfl, hb⟩
set_option maxRecDepth 100000 in
set_option maxHeartbeats 2000000 in
theorem cutAt_q (s : ByteArray) (c : UInt8) (n : Int) (w : World) (hn : (c.toNat : Int) = n) :
    Calls Tryz.prog 112 #[.string s, .int .u8 n] w (CutPost (bef c s.data.toList) (aft c s.data.toList) w) := by
  rcases ib_cases c s.data.toList with ⟨h1, h2, h3⟩ | ⟨k, h1, hk, h2, h3, _⟩
  · have HI := Lib.hid (byteL_q s c n (-1) w hn h1)
    have HX := Lib.hid h2.symm; have HY := Lib.hid h3
    clear h1 h2 h3 hn
    go_enter Tryz.func112, Tryz.ntmps112
    go_wp2_with (go_at_call 150; go_must (refine HI.out.mono ?_); rintro e w1 ⟨rfl, rfl⟩)
    go_ret2
    exact CutPost.mk HX.out (by rw [HY.out]) (Below.refl _ _)
  · have HI := Lib.hid (byteL_q s c n k w hn h1)
    rw [size_toList] at hk
    have HX := Lib.hid (show (s.extract 0 k).data.toList = bef c s.data.toList by rw [ext_takeP, h2])
    have HY := Lib.hid (show (s.extract k s.size).data.toList = aft c s.data.toList by rw [ext_dropP, h3])
    have hk1 : (k : Int) ≤ (s.size : Int) := by omega
    have hk0 : (0 : Int) ≤ (k : Int) := by omega
    clear h1 h2 h3 hn
    go_enter Tryz.func112, Tryz.ntmps112
    go_wp2_with (go_at_call 150; go_must (refine HI.out.mono ?_); rintro e w1 ⟨rfl, rfl⟩)
    go_quiet (fail)
    go_wp2_with fail
    go_ret2
    exact CutPost.mk HX.out HY.out (Below.drewN' (Below.refl _ _) _)

/-- an address without its fragment and its query -/
def bareA (l : List UInt8) : List UInt8 := bef 63 (bef 35 l)
def SplitPost (a : List UInt8) (w : World) (e : Ending) (w' : World) : Prop := ∃ x y : ByteArray, x.data.toList = a ∧ e = .returned (.tuple #[.string x, .string y]) ∧ Below w.heap.size w w'
theorem SplitPost.mk {a : List UInt8} {w w' : World} {x y : ByteArray} (h1 : x.data.toList = a) (hb : Below w.heap.size w w') : SplitPost a w (.returned (.tuple #[.string x, .string y])) w' := ⟨x, y, h1, rfl, hb⟩
set_option maxRecDepth 100000 in
set_option maxHeartbeats 4000000 in
theorem split_q (s : ByteArray) (w : World) (hs : s.size ≤ 1048576) :
    Calls Tryz.prog 118 #[.string s] w (SplitPost (bareA s.data.toList) w) := by
  rcases ib_cases 35 s.data.toList with ⟨h1, h2, _⟩ | ⟨k, h1, hk, h2, _, _⟩
  · have HI := Lib.hid (fun w => byteL_q s 35 35 (-1) w rfl h1)
    have HX := Lib.hid h2
    clear h1 h2
    rcases ib_cases 63 s.data.toList with ⟨g1, g2, _⟩ | ⟨m, g1, hm, g2, _, _⟩
    · have HJ := Lib.hid (fun w => byteL_q s 63 63 (-1) w rfl g1)
      have HY := Lib.hid (show s.data.toList = bareA s.data.toList by rw [bareA, HX.out, g2])
      clear g1 g2
      go_enter Tryz.func118, Tryz.ntmps118
      go_wp2_with (go_at_call 150; go_must (refine (by first | exact HI.out _ | exact HJ.out _ : Calls _ _ _ _ _).mono ?_); rintro e w1 ⟨rfl, rfl⟩)
      go_ret2
      exact SplitPost.mk HY.out (Below.refl _ _)
    · have HJ := Lib.hid (fun w => byteL_q s 63 63 m w rfl g1)
      rw [size_toList] at hm
      have HY := Lib.hid (show (s.extract 0 m).data.toList = bareA s.data.toList by rw [bareA, HX.out, g2, ext_takeP])
      have hm1 : (m : Int) ≤ (s.size : Int) := by omega
      have hm0 : (0 : Int) ≤ (m : Int) := by omega
      clear g1 g2
      go_enter Tryz.func118, Tryz.ntmps118
      go_wp2_with (go_at_call 150; go_must (refine (by first | exact HI.out _ | exact HJ.out _ : Calls _ _ _ _ _).mono ?_); rintro e w1 ⟨rfl, rfl⟩)
      go_ret2
      exact SplitPost.mk HY.out (Below.refl _ _)
  · have HI := Lib.hid (fun w => byteL_q s 35 35 k w rfl h1)
    rw [size_toList] at hk
    have hk1 : (k : Int) ≤ (s.size : Int) := by omega
    have hk2 : (k : Int) + 1 ≤ (s.size : Int) := by omega
    have hk0 : (0 : Int) ≤ (k : Int) := by omega
    obtain ⟨z, hz⟩ : ∃ z, s.extract 0 k = z := ⟨_, rfl⟩
    have hzl : z.data.toList = bef 35 s.data.toList := by rw [← hz, ext_takeP, h2]
    have hzs : z.size = k := by rw [← size_toList, hzl, h2, List.length_take, size_toList]; omega
    have HX := Lib.hid hzl
    clear h1 h2 hzl
    rcases ib_cases 63 z.data.toList with ⟨g1, g2, _⟩ | ⟨m, g1, hm, g2, _, _⟩
    · have HJ := Lib.hid (fun w => byteL_q z 63 63 (-1) w rfl g1)
      have HY := Lib.hid (show z.data.toList = bareA s.data.toList by rw [bareA, ← HX.out, g2])
      clear g1 g2
      go_enter Tryz.func118, Tryz.ntmps118
      go_wp2_with (go_at_call 150; go_must (refine (HI.out _).mono ?_); rintro e w1 ⟨rfl, rfl⟩)
      go_quiet (fail)
      go_wp2_with (go_at_call 150; go_must (refine (HJ.out _).mono ?_); rintro e w1 ⟨rfl, rfl⟩)
      go_ret2
      exact SplitPost.mk HY.out (Below.drewN' (Below.refl _ _) _)
    · have HJ := Lib.hid (fun w => byteL_q z 63 63 m w rfl g1)
      rw [size_toList] at hm
      have HY := Lib.hid (show (z.extract 0 m).data.toList = bareA s.data.toList by rw [bareA, ← HX.out, g2, ext_takeP])
      have hm1 : (m : Int) ≤ (z.size : Int) := by omega
      have hm0 : (0 : Int) ≤ (m : Int) := by omega
      clear g1 g2 hm
      go_enter Tryz.func118, Tryz.ntmps118
      go_wp2_with (go_at_call 150; go_must (refine (HI.out _).mono ?_); rintro e w1 ⟨rfl, rfl⟩)
      go_quiet (fail)
      clear hz hzs
      go_wp2_with (go_at_call 150; go_must (refine (HJ.out _).mono ?_); rintro e w1 ⟨rfl, rfl⟩)
      go_ret2
      exact SplitPost.mk HY.out (Below.drewN' (Below.refl _ _) _)

end Go.Proofs.YtbhildmalcfhiaaGreatDoor

namespace Go.Proofs.YtbhildmalcfhiaaGreatDoor
open Go.RowKit Go.Deep

def hexL : List UInt8 := [48, 49, 50, 51, 52, 53, 54, 55, 56, 57, 97, 98, 99, 100, 101, 102]
/-- what hexDigit says of a byte -/
def hexI (c : UInt8) : Int := Lib.indexByte hexL (lowerB c)
theorem hexI_all : ∀ i : Fin 256, (hexI (UInt8.ofNat i.1) < 16 ∧ -1 ≤ hexI (UInt8.ofNat i.1) ∧ (0 ≤ hexI (UInt8.ofNat i.1) → i.1 < 128)) := by decide +kernel
theorem hexI_b (c : UInt8) : hexI c < 16 ∧ -1 ≤ hexI c ∧ (0 ≤ hexI c → c.toNat < 128) := by
  have h := hexI_all ⟨c.toNat, c.toNat_lt⟩
  simpa using h
/-- a percent sign with two hex digits -/
def hexAt : List UInt8 → Bool
  | c :: a :: b :: _ => c == 37 && decide (0 ≤ hexI a) && decide (0 ≤ hexI b)
  | _ => false
def hexV : List UInt8 → UInt8
  | _ :: a :: b :: _ => UInt8.ofNat (16 * hexI a + hexI b).toNat
  | _ => 0
def decL : List UInt8 → List UInt8
  | [] => []
  | c :: r => if hexAt (c :: r) then hexV (c :: r) :: decL (r.drop 2) else c :: decL r
termination_by l => l.length
decreasing_by
  · simp; omega
  · simp
theorem decL_le : ∀ (n : Nat) (l : List UInt8), l.length ≤ n → (decL l).length ≤ l.length
  | _, [], _ => by simp [decL]
  | 0, c :: r, h => by simp at h
  | n + 1, c :: r, h => by
    rw [decL]
    simp only [List.length_cons] at h ⊢
    split
    · have := decL_le n (r.drop 2) (by simp; omega)
      simp at this ⊢
      omega
    · have := decL_le n r (by omega)
      simp at this ⊢
      omega
/-- out is read off s up to i -/
structure DecAt (s : ByteArray) (i : Nat) (out : List UInt8) : Prop where
  all : out ++ decL (s.data.toList.drop i) = decL s.data.toList
  le : out.length ≤ i
theorem DecAt.start (s : ByteArray) : DecAt s 0 [] := ⟨by simp, Nat.le_refl _⟩
theorem dropAt {s : ByteArray} {i : Nat} (h : i < s.size) : s.data.toList.drop i = s[i] :: s.data.toList.drop (i + 1) := by
  have h2 : i < s.data.toList.length := by rw [size_toList]; exact h
  rw [List.drop_eq_getElem_cons h2]
  rfl
theorem DecAt.one {s : ByteArray} {i : Nat} {out : List UInt8} (h : DecAt s i out) (hi : i < s.size) (hx : hexAt (s.data.toList.drop i) = false) : DecAt s (i + 1) (out ++ [s[i]]) := by
  refine ⟨?_, by have := h.le; simp; omega⟩
  have := h.all
  rw [dropAt hi] at this hx
  rw [decL, hx] at this
  simpa using this
theorem DecAt.hex {s : ByteArray} {i : Nat} {out : List UInt8} (h : DecAt s i out) (hi : i < s.size) (hx : hexAt (s.data.toList.drop i) = true) : DecAt s (i + 3) (out ++ [hexV (s.data.toList.drop i)]) := by
  refine ⟨?_, by have := h.le; simp; omega⟩
  have := h.all
  rw [dropAt hi] at this hx ⊢
  rw [decL, hx] at this
  rw [List.drop_drop] at this
  simpa using this
theorem DecAt.fin {s : ByteArray} {i : Nat} {out : List UInt8} (h : DecAt s i out) (hi : s.size ≤ i) : out = decL s.data.toList := by
  have := h.all
  rw [List.drop_of_length_le (by rw [size_toList]; exact hi)] at this
  simpa [decL] using this
theorem hexAt_not {s : ByteArray} {i : Nat} (hi : i < s.size) (h : s[i] ≠ 37) : hexAt (s.data.toList.drop i) = false := by
  rw [dropAt hi]
  cases hh : s.data.toList.drop (i + 1) with
  | nil => rfl
  | cons a r => cases r with
    | nil => rfl
    | cons b r => simp [hexAt, h]
theorem hexAt_end {s : ByteArray} {i : Nat} (h : s.size ≤ i + 2) : hexAt (s.data.toList.drop i) = false := by
  have : (s.data.toList.drop i).length ≤ 2 := by rw [List.length_drop, size_toList]; omega
  match s.data.toList.drop i, this with
  | [], _ => rfl
  | [_], _ => rfl
  | [_, _], _ => rfl
theorem drop3 {s : ByteArray} {i : Nat} (h : i + 2 < s.size) : s.data.toList.drop i = s[i] :: s[i + 1] :: s[i + 2] :: s.data.toList.drop (i + 3) := by
  rw [dropAt (by omega), dropAt (i := i + 1) (by omega), dropAt (i := i + 1 + 1) (by omega)]
theorem hexAt_three {s : ByteArray} {i : Nat} (h : i + 2 < s.size) (h37 : s[i] = 37) : hexAt (s.data.toList.drop i) = (decide (0 ≤ hexI s[i + 1]) && decide (0 ≤ hexI s[i + 2])) := by
  rw [drop3 h, hexAt, h37]
  rfl
theorem hexV_three {s : ByteArray} {i : Nat} (h : i + 2 < s.size) {p q : Int} (hp : hexI s[i + 1] = p) (hq : hexI s[i + 2] = q) (hp0 : 0 ≤ p) (hq0 : 0 ≤ q) : ((hexV (s.data.toList.drop i)).toNat : Int) = 16 * p + q := by
  have h1 := (hexI_b s[i + 1]).1
  have h2 := (hexI_b s[i + 2]).1
  rw [hp] at h1
  rw [hq] at h2
  rw [drop3 h, hexV, hp, hq]
  simp only [UInt8.toNat_ofNat']
  omega

set_option maxRecDepth 100000 in
set_option maxHeartbeats 2000000 in
theorem hexR_q (c : UInt8) (n v : Int) (w : World) (hn : (c.toNat : Int) = n) (hv : hexI c = v) :
    Calls Tryz.prog 182 #[.int .u8 n] w fun e w' => e = .returned (.int .i64 v) ∧ Below w.heap.size w w' := by
  subst hn
  have hcv := conv_one w c
  obtain ⟨z, hz⟩ : ∃ z : ByteArray, (⟨(lowerL (⟨#[c]⟩ : ByteArray).data.toList).toArray⟩ : ByteArray) = z := ⟨_, rfl⟩
  have hz1 : z.size = 1 := by rw [← hz]; rfl
  have hz0 : z[0]'(by omega) = lowerB c := by subst hz; rfl
  have HZ := Lib.hid hz; clear hz
  have HV := Lib.hid (fun w => byteL_q ⟨#[48, 49, 50, 51, 52, 53, 54, 55, 56, 57, 97, 98, 99, 100, 101, 102]⟩ (lowerB c) _ v w rfl hv); clear hv
  go_enter Tryz.func182, Tryz.ntmps182
  go_wp2_with (first
    | (go_at_call 90; go_must (refine (refLower_any ⟨#[c]⟩ _ (show (1 : Nat) ≤ 1073741824 by decide)).mono ?_); rw [HZ.out]; rintro e w1 ⟨rfl, hb⟩; have HB1 := Lib.hid (((Below.refl w.heap.size w).alloc (Nat.le_refl _) (.cells #[.int .u8 (c.toNat : Int)] 5)).trans (hb.mono (by simp))); clear hb)
    | (go_at_call 150; go_must (refine (HV.out _).mono ?_); rintro e w2 ⟨rfl, rfl⟩))
  go_ret
  exact ⟨rfl, HB1.out⟩
theorem enc_one (c : UInt8) (h : c.toNat < 128) : Utf8.encode (c.toNat : Int) = ⟨#[c]⟩ := by
  have : ∀ i : Fin 128, Utf8.encode (i.1 : Int) = ⟨#[UInt8.ofNat i.1]⟩ := by decide +kernel
  have h2 := this ⟨c.toNat, h⟩
  simpa using h2
set_option maxRecDepth 100000 in
set_option maxHeartbeats 2000000 in
theorem hexP_q (c : UInt8) (n v : Int) (w : World) (hn : (c.toNat : Int) = n) (hc : n < 128) (hv : hexI c = v) :
    Calls Tryz.prog 151 #[.int .u8 n] w fun e w' => e = .returned (.int .i64 v) ∧ Below w.heap.size w w' := by
  subst hn
  have hen := enc_one c (by omega)
  have hw1 : IntKind.i32.wrap (c.toNat : Int) = (c.toNat : Int) := by
    have h9 : ∀ i : Fin 256, IntKind.i32.wrap (i.1 : Int) = (i.1 : Int) := by decide +kernel
    exact h9 ⟨c.toNat, c.toNat_lt⟩
  obtain ⟨z, hz⟩ : ∃ z : ByteArray, (⟨(lowerL (⟨#[c]⟩ : ByteArray).data.toList).toArray⟩ : ByteArray) = z := ⟨_, rfl⟩
  have hz1 : z.size = 1 := by rw [← hz]; rfl
  have hz0 : z[0]'(by omega) = lowerB c := by subst hz; rfl
  have HZ := Lib.hid hz; clear hz
  have HV := Lib.hid (fun w => byteL_q ⟨#[48, 49, 50, 51, 52, 53, 54, 55, 56, 57, 97, 98, 99, 100, 101, 102]⟩ (lowerB c) _ v w rfl hv); clear hv
  go_enter Tryz.func151, Tryz.ntmps151
  go_wp2_with (first
    | (go_at_call 123; go_must (refine (shipLower_any ⟨#[c]⟩ _ (show (1 : Nat) ≤ 1073741824 by decide)).mono ?_); rw [HZ.out]; rintro e w1 ⟨rfl, hb⟩; have HB1 := Lib.hid hb; clear hb)
    | (go_at_call 150; go_must (refine (HV.out _).mono ?_); rintro e w2 ⟨rfl, rfl⟩))
  go_ret
  exact ⟨rfl, HB1.out⟩

end Go.Proofs.YtbhildmalcfhiaaGreatDoor

namespace Go.Proofs.YtbhildmalcfhiaaGreatDoor
open Go.RowKit Go.Deep

/-- strings as cells -/
def pstrs (l : List ByteArray) : List Value := l.map Value.string
theorem pstrs_get {l : List ByteArray} {i : Nat} {p : ByteArray} (h : l[i]? = some p) : (pstrs l)[i]? = some (.string p) := by simp [pstrs, h]

/-- a list of strings that is read; nil is let in -/
def PL (w : World) (v : Value) (l : List ByteArray) : Prop :=
  ∃ (A : Option Addr) (c b o : Nat), v = .slice A l.length c ∧ l.length ≤ c ∧ c ≤ maxLen ∧ ((A = none ∧ c = 0) ∨ A = some ⟨b, o, none⟩) ∧ ∀ i s, l[i]? = some s → w.cell? ⟨b, o + i, none⟩ = some (.string s)
theorem PL.keep {w w' : World} {v : Value} {l : List ByteArray} (h : PL w v l) (k : Keeps w w') : PL w' v l := by
  obtain ⟨A, c, b, o, h1, h2, h3, h4, h5⟩ := h
  exact ⟨A, c, b, o, h1, h2, h3, h4, fun i s hi => k _ _ (h5 i s hi)⟩
theorem PL.nil (w : World) : PL w (.slice none 0 0) [] := ⟨none, 0, 0, 0, rfl, Nat.le_refl _, by simp [maxLen], Or.inl ⟨rfl, rfl⟩, fun i s h => by simp at h⟩
theorem PL.laid (w : World) (l : List ByteArray) (hl : l.length ≤ maxLen) : PL (w.alloc (.cells (l.map Value.string).toArray 9)) (.slice (some ⟨w.heap.size, 0, none⟩) l.length l.length) l :=
  ⟨_, _, w.heap.size, 0, rfl, Nat.le_refl _, hl, Or.inr rfl, fun i s hi => by rw [Nat.zero_add]; exact cell_new w (l.map Value.string) 9 w.heap.size rfl i _ (by rw [List.getElem?_map, hi]; rfl)⟩
theorem PL.of_own {w : World} {B : Nat} {v : Value} {n : Nat} {l : List ByteArray} (h : w.ownsRow B 9 1 v n (pstrs l)) : PL w v l := by
  obtain ⟨A, c, b, o, h1, h2, h3, h4, h5⟩ := OnesAt.of_own h
  have hl : (pstrs l).length = l.length := by simp [pstrs]
  rw [hl] at h1 h2
  rcases h.2 with ⟨rfl, h0⟩ | ⟨g, cap, cur, rfl, hB, hg, hnc, hm, hsz, htake⟩
  · have hn : n = l.length := by have := h.1; omega
    have : l = [] := List.eq_nil_of_length_eq_zero (by omega)
    subst this
    exact PL.nil w
  · cases h1
    refine ⟨_, _, g, 0, rfl, h2, h3, Or.inr rfl, fun i s hi => ?_⟩
    have hne : pstrs l ≠ [] := by
      intro e
      have hl0 : l = [] := List.eq_nil_of_length_eq_zero (by have := congrArg List.length e; rw [hl] at this; simpa using this)
      rw [hl0] at hi
      simp at hi
    have := h4 hne
    cases this
    exact h5 i _ (pstrs_get hi)
/-- the same without the last -/
theorem PL.init {w : World} {A : Option Addr} {m c : Nat} {l : List ByteArray} (h : PL w (.slice A m c) l) : PL w (.slice A (m - 1) c) l.dropLast := by
  obtain ⟨A', c', b, o, h1, h2, h3, h4, h5⟩ := h
  cases h1
  refine ⟨_, _, b, o, by simp, by simp; omega, h3, h4, fun i s hi => h5 i s ?_⟩
  rw [List.dropLast_eq_take, List.getElem?_take] at hi
  split at hi
  · exact hi
  · cases hi

theorem info_strR : (Tryz.prog.info? 9).map (fun i => (i.zero, i.size, i.bytes)) = some (some (.string ⟨#[]⟩), 1, 16) := by kernel_rfl

theorem pstrs_one (l : List ByteArray) : ∀ u ∈ pstrs l, u.oneCell' = true := by
  intro u hu
  simp only [pstrs, List.mem_map] at hu
  obtain ⟨s, _, rfl⟩ := hu
  rfl
theorem pstrs_push (l : List ByteArray) (p : ByteArray) : pstrs (l ++ [p]) = pstrs l ++ [.string p] := by simp [pstrs]

/-- a copy of a list: append to nil -/
theorem wpList_copy {P : Program} {ops : Array Oper} {rest : List Oper} {o : Oper} {a : Act} {Q : Exit → Act → World → Prop} (W : World) (hgd : o.guard = none) (s x : Operand) (t : TypeId)
    (ho : o.op = .call { callee := .builtin .append, args := #[s, x], argTypes := #[t, t] })
    (e : TypeId) (z : Value) (bytes : Nat) (ht : P.underlying t = some (.slice e)) (hi : (P.info? e).map (fun i => (i.zero, i.size, i.bytes)) = some (some z, 1, bytes)) (hzs : z.cells.size = 1)
    (hs : a.eval s = .slice none 0 0) (A : Option Addr) (m c : Nat) (l : List ByteArray) (hx : a.eval x = .slice A m c) (hpl : PL W (.slice A m c) l) (hn : m * bytes ≤ 140737488355328) (hn' : m ≤ maxLen)
    (h : ∀ A' c' w', w'.ownsRow W.heap.size e 1 (.slice A' m c') m (pstrs l) → Below W.heap.size W w' → wpList P ops Q rest (a.put o.dst (.slice A' m c')) w') :
    wpList P ops Q (o :: rest) a W := by
  obtain ⟨i, hi1, hi2, hi3, hi4⟩ := info_parts hi
  obtain ⟨A', c', b, off, hv, hlc, hcm, hA, hcell⟩ := hpl
  cases hv
  rcases hA with ⟨rfl, rfl⟩ | rfl
  · have hl : l = [] := List.eq_nil_of_length_eq_zero (by omega)
    subst hl
    refine wpList_append_own_none hgd s x t ho W.heap.size e i 1 ht hi1 _ 0 [] hs (World.ownsRow_nil W _ e 1) hx ?_
    exact h none 0 W (World.ownsRow_nil W _ e 1) (Below.refl _ _)
  · refine wpList_append_own_at (P := P) W hgd s x t ho W.heap.size e i z 1 bytes ht hi1 hi2 hi3 hi4 hzs (by omega) _ 0 [] hs (World.ownsRow_nil W _ e 1) ⟨b, off, none⟩ l.length c (pstrs l) hx (by simp [pstrs]) ?_ (pstrs_one l) (by rw [Nat.zero_add]; exact hn') (by rw [Nat.zero_add]; exact hn) (Nat.le_refl _) ?_
    · intro j u hj
      have hadd : (⟨b, off, none⟩ : Addr).add j = ⟨b, off + j, none⟩ := by unfold Addr.add; split <;> simp_all
      rw [hadd]
      simp only [pstrs, List.getElem?_map, Option.map_eq_some_iff] at hj
      obtain ⟨p, hp, rfl⟩ := hj
      exact hcell j p hp
    · intro v' w' h2 hg _ _
      rw [Nat.zero_add, List.nil_append] at h2
      obtain ⟨A2, c2, rfl, _, _, _⟩ := own_form h2
      exact h A2 c2 w' h2 (below_of_grown hg (Nat.le_refl _) (fun g hg => by simp [Value.ownBlock] at hg))

/-- a fresh row of no elements -/
theorem own_fresh0 (w : World) (e : TypeId) : (w.alloc (.cells #[] e)).ownsRow w.heap.size e 1 (.slice (some ⟨w.heap.size, 0, none⟩) 0 0) 0 [] :=
  ⟨rfl, Or.inr ⟨w.heap.size, 0, #[], rfl, Nat.le_refl _, CB.new _ _ _, Nat.le_refl _, by simp [maxLen], rfl, rfl⟩⟩
/-- a copy of a list: append to a row of no elements -/
theorem wpList_copy0 {P : Program} {ops : Array Oper} {rest : List Oper} {o : Oper} {a : Act} {Q : Exit → Act → World → Prop} (W : World) (hgd : o.guard = none) (s x : Operand) (t : TypeId)
    (ho : o.op = .call { callee := .builtin .append, args := #[s, x], argTypes := #[t, t] })
    (e : TypeId) (z : Value) (bytes : Nat) (ht : P.underlying t = some (.slice e)) (hi : (P.info? e).map (fun i => (i.zero, i.size, i.bytes)) = some (some z, 1, bytes)) (hzs : z.cells.size = 1)
    (B : Nat) (v0 : Value) (hs : a.eval s = v0) (hown : W.ownsRow B e 1 v0 0 []) (hB : B ≤ W.heap.size) (A : Option Addr) (m c : Nat) (l : List ByteArray) (hx : a.eval x = .slice A m c) (hpl : PL W (.slice A m c) l) (hn : m * bytes ≤ 140737488355328) (hn' : m ≤ maxLen)
    (h : ∀ A' c' w', w'.ownsRow B e 1 (.slice A' m c') m (pstrs l) → Below B W w' → wpList P ops Q rest (a.put o.dst (.slice A' m c')) w') :
    wpList P ops Q (o :: rest) a W := by
  obtain ⟨i, hi1, hi2, hi3, hi4⟩ := info_parts hi
  obtain ⟨A', c', b, off, hv, hlc, hcm, hA, hcell⟩ := hpl
  cases hv
  rcases hA with ⟨rfl, rfl⟩ | rfl
  · have hl : l = [] := List.eq_nil_of_length_eq_zero (by omega)
    subst hl
    refine wpList_append_own_none hgd s x t ho B e i 1 ht hi1 _ 0 [] hs hown hx ?_
    obtain ⟨A9, c9, rfl, _⟩ := own_form hown
    exact h A9 c9 W hown (Below.refl _ _)
  · refine wpList_append_own_at (P := P) W hgd s x t ho B e i z 1 bytes ht hi1 hi2 hi3 hi4 hzs (by omega) _ 0 [] hs hown ⟨b, off, none⟩ l.length c (pstrs l) hx (by simp [pstrs]) ?_ (pstrs_one l) (by rw [Nat.zero_add]; exact hn') (by rw [Nat.zero_add]; exact hn) hB ?_
    · intro j u hj
      have hadd : (⟨b, off, none⟩ : Addr).add j = ⟨b, off + j, none⟩ := by unfold Addr.add; split <;> simp_all
      rw [hadd]
      simp only [pstrs, List.getElem?_map, Option.map_eq_some_iff] at hj
      obtain ⟨p, hp, rfl⟩ := hj
      exact hcell j p hp
    · intro v' w' h2 hg _ _
      rw [Nat.zero_add, List.nil_append] at h2
      obtain ⟨A2, c2, rfl, _, _, _⟩ := own_form h2
      exact h A2 c2 w' h2 (below_of_grown hg hB (own_block_ge hown))

/-- without the first and the last -/
theorem PL.inner {w : World} {m c : Nat} {l : List ByteArray} {b : Nat} (h : PL w (.slice (some ⟨b, 0, none⟩) m c) l) : PL w (.slice (some ⟨b, 1, none⟩) (m - 1 - 1) (c - 1)) l.tail.dropLast ∨ m ≤ 1 := by
  obtain ⟨A', c', b', o, h1, h2, h3, h4, h5⟩ := h
  cases h1
  rcases h4 with ⟨h4, _⟩ | h4
  · cases h4
  cases h4
  by_cases h9 : l.length ≤ 1
  · right; exact h9
  · left
    refine ⟨some ⟨b, 1, none⟩, c - 1, b, 1, by simp, by simp; omega, by unfold maxLen at *; omega, Or.inr rfl, fun i s hi => ?_⟩
    rw [List.dropLast_eq_take, List.getElem?_take] at hi
    split at hi
    · have := h5 (i + 1) s (by rw [← List.getElem?_tail]; exact hi)
      rw [Nat.zero_add] at this
      rw [Nat.add_comm]
      exact this
    · cases hi
theorem own_keepP {w w' : World} {B k : Nat} {e : TypeId} {v : Value} {n : Nat} {xs : List Value} (h : w.ownsRow B e k v n xs) (hb : Below w.heap.size w w') : w'.ownsRow B e k v n xs :=
  h.kept (row := none) ⟨hb.os, hb.tape, hb.output, hb.size, fun k hk _ => hb.block k hk⟩ (by cases v.ownBlock <;> simp)
def strs8 (l : List ByteArray) : List (List UInt8) := l.map (·.data.toList)
theorem strs8_inj : ∀ {a b : List ByteArray}, strs8 a = strs8 b → a = b
  | [], [], _ => rfl
  | [], y :: b, h => by simp [strs8] at h
  | x :: a, [], h => by simp [strs8] at h
  | x :: a, y :: b, h => by
    simp only [strs8, List.map_cons, List.cons.injEq] at h
    rw [bytes_ext h.1, strs8_inj (a := a) (b := b) h.2]
/-- a string cut at strokes -/
def cutP (s : ByteArray) : List ByteArray := Lib.splitB ⟨#[47]⟩ 0 (Lib.countB s ⟨#[47]⟩) s
theorem cutP_map (s : ByteArray) : strs8 (cutP s) = splitC 47 s.data.toList := split_map 47 s
theorem splitC_lenP (c : UInt8) : ∀ l : List UInt8, (splitC c l).length ≤ l.length + 1
  | [] => Nat.le_refl _
  | b :: l => by
    have ih := splitC_lenP c l
    rw [splitC]
    split
    · rw [List.length_cons, List.length_cons]; omega
    · split
      · simp
      · rename_i h; rw [h] at ih; simp only [List.length_cons] at ih ⊢; omega
theorem cutP_len (s : ByteArray) : (cutP s).length ≤ s.size + 1 := by
  have h := congrArg List.length (cutP_map s)
  have h2 := splitC_lenP 47 s.data.toList
  rw [size_toList] at h2
  simp only [strs8, List.length_map] at h
  omega
theorem cutP_ne (s : ByteArray) : 1 ≤ (cutP s).length := by
  have h := congrArg List.length (cutP_map s)
  have h2 := splitC_ne 47 s.data.toList
  cases hh : splitC 47 s.data.toList with
  | nil => exact absurd hh h2
  | cons a r => rw [hh] at h; simp [strs8] at h; omega
/-- pieces hold no separator, and are not longer than the whole together -/
theorem splitC_no (c : UInt8) : ∀ (l x : List UInt8), x ∈ splitC c l → c ∉ x
  | [], x, h => by simp [splitC] at h; subst h; simp
  | b :: l, x, h => by
    have ih := splitC_no c l
    rw [splitC] at h
    split at h
    · rcases List.mem_cons.1 h with rfl | h
      · simp
      · exact ih x h
    · rename_i hb
      split at h
      · simp at h; subst h; simp; exact fun e => hb e.symm
      · rename_i p r hr
        rcases List.mem_cons.1 h with rfl | h
        · have := ih p (by rw [hr]; simp)
          simp only [List.mem_cons, not_or]
          exact ⟨fun e => hb e.symm, this⟩
        · exact ih x (by rw [hr]; exact List.mem_cons_of_mem _ h)
def sumL (L : List (List UInt8)) : Nat := (L.map fun x => x.length + 1).sum
theorem splitC_sum (c : UInt8) : ∀ l : List UInt8, sumL (splitC c l) = l.length + 1
  | [] => rfl
  | b :: l => by
    have ih := splitC_sum c l
    rw [splitC]
    split
    · simp only [sumL, List.map_cons, List.sum_cons, List.length_nil, List.length_cons] at ih ⊢; omega
    · split
      · rename_i h; exact absurd h (splitC_ne c l)
      · rename_i p r hr
        rw [hr] at ih
        simp only [sumL, List.map_cons, List.sum_cons, List.length_cons] at ih ⊢; omega
theorem sumL_append (a b : List (List UInt8)) : sumL (a ++ b) = sumL a + sumL b := by simp [sumL]
theorem sumL_take (a : List (List UInt8)) (k : Nat) : sumL (a.take k) ≤ sumL a := by
  conv => rhs; rw [← List.take_append_drop k a, sumL_append]
  omega
theorem sumL_mem {a : List (List UInt8)} {x : List UInt8} (h : x ∈ a) : x.length + 1 ≤ sumL a := by
  induction a with
  | nil => cases h
  | cons y r ih =>
    rcases List.mem_cons.1 h with e | e
    · subst e; simp only [sumL, List.map_cons, List.sum_cons]; omega
    · have := ih e; simp only [sumL, List.map_cons, List.sum_cons] at this ⊢; omega
theorem sumL_len (a : List (List UInt8)) : a.length ≤ sumL a := by
  induction a with
  | nil => simp [sumL]
  | cons y r ih => simp only [sumL, List.map_cons, List.sum_cons, List.length_cons] at ih ⊢; omega
theorem joinTail_le (r : List (List UInt8)) : (Lib.joinTail [47] r).length = sumL r := by
  induction r with
  | nil => rfl
  | cons y r ih => simp only [Lib.joinTail, sumL, List.map_cons, List.flatten_cons, List.length_append, List.sum_cons, List.length_cons, List.length_nil] at ih ⊢; omega
theorem join_le (L : List (List UInt8)) : (Lib.join L [47]).length ≤ sumL L := by
  cases L with
  | nil => simp [Lib.join_nil]
  | cons x r =>
    rw [Lib.join_cons, List.length_append, joinTail_le]
    simp only [sumL, List.map_cons, List.sum_cons]
    omega

/-- strings.Split at strokes -/
def SpPost (s : ByteArray) (w : World) (e : Ending) (w' : World) : Prop := e = .returned (.slice (some ⟨w.heap.size, 0, none⟩) (cutP s).length (cutP s).length) ∧ PL w' (.slice (some ⟨w.heap.size, 0, none⟩) (cutP s).length (cutP s).length) (cutP s) ∧ Below w.heap.size w w'
theorem splitS_q (s : ByteArray) (w : World) (hm : MaxAt w) (hs : s.size ≤ 1048576) : Calls Tryz.prog 54 #[.string s, .string ⟨#[47]⟩] w (SpPost s w) := by
  obtain ⟨m, hm⟩ := hm
  refine (Tryz.strings_Split s ⟨#[47]⟩ m w (by omega) hm (by decide)).mono fun e w' ⟨h1, h2⟩ => ?_
  have hl := cutP_len s
  have h9 := Lib.splitB_all ⟨#[47]⟩ (by decide) 0 _ s rfl
  have h8 : (cutP s).length = Lib.countB s ⟨#[47]⟩ + 1 := h9
  rw [← h8] at h1
  subst h2
  exact ⟨h1, PL.laid w (cutP s) (by unfold maxLen; omega), (Below.refl _ _).alloc (Nat.le_refl _) _⟩
/-- strings.Join by strokes -/
def joinP (l : List ByteArray) : ByteArray := ⟨(Lib.join (strs8 l) [47]).toArray⟩
theorem joinP_q (l : List ByteArray) (v : Value) (w : World) (h : PL w v l) (hs : sumL (strs8 l) ≤ 4194304) : Calls Tryz.prog 115 #[v, .string ⟨#[47]⟩] w fun e w' => e = .returned (.string (joinP l)) ∧ Below w.heap.size w w' := by
  obtain ⟨A, c, b, o, rfl, hlc, hcm, hA, hcell⟩ := h
  have h1 := join_le (strs8 l)
  have h2 := sumL_len (strs8 l)
  have h3 : (strs8 l).length = l.length := by simp [strs8]
  cases l with
  | nil => exact (Tryz.strings_Join_none A c ⟨#[47]⟩ w).mono fun e w' ⟨h1, h2⟩ => ⟨h1, by rw [h2]; exact Below.refl _ _⟩
  | cons x r =>
    rcases hA with ⟨rfl, rfl⟩ | rfl
    · simp at hlc
    · have hb : b < w.heap.size := by
        have := hcell 0 x rfl
        unfold World.cell? at this
        cases hh : w.heap[b]? with
        | none => simp [hh] at this
        | some _ => exact (Array.getElem?_eq_some_iff.1 hh).1
      exact Tryz.strings_Join b o c (x :: r) ⟨#[47]⟩ w hcell hb (by omega) hlc (by show (Lib.join (strs8 (x :: r)) [47]).length ≤ _; omega)

end Go.Proofs.YtbhildmalcfhiaaGreatDoor

namespace Go.Proofs.YtbhildmalcfhiaaGreatDoor
open Go.RowKit Go.Deep


def decS (s : ByteArray) : ByteArray := ⟨(decL s.data.toList).toArray⟩
theorem decS_le (s : ByteArray) : (decS s).size ≤ s.size := by
  have := decL_le _ s.data.toList (Nat.le_refl _)
  rw [size_toList] at this
  exact this


set_option maxRecDepth 100000 in
set_option maxHeartbeats 8000000 in
theorem decodedP_q (s : ByteArray) (w : World) (hs : s.size ≤ 1048576) :
    Calls Tryz.prog 113 #[.string s] w fun e w' => e = .returned (.string (decS s)) ∧ Below w.heap.size w w' := by
  obtain ⟨N, hN⟩ : ∃ N, w.heap.size = N := ⟨_, rfl⟩
  rw [hN]
  have HB0 := Lib.hid (show Below N w w by rw [← hN]; exact Below.refl _ _)
  have HO0 := Lib.hid (show w.ownsRow N 5 1 (.slice none 0 0) 0 (byteCells []) from World.ownsRow_nil w _ 5 1)
  have hNw : N ≤ w.heap.size := by omega
  clear hN
  go_enter Tryz.func113, Tryz.ntmps113
  go_wp2_with fail
  go_loopw [3, 4] (fun t3 t4 wr => ∃ (k mk : Nat) (Ao : Option Addr) (co : Nat) (out : List UInt8), k ≤ s.size ∧ t4 = .int .i64 k ∧ t3 = .slice Ao mk co ∧ mk ≤ k ∧ Hid (wr.ownsRow N 5 1 (.slice Ao mk co) mk (byteCells out)) ∧ Hid (Below N w wr) ∧ Hid (DecAt s k out)) (fun _ t4 _ => s.size - (intOf t4).toNat)
  case atStart => exact ⟨0, 0, none, 0, [], Nat.zero_le _, rfl, rfl, Nat.le_refl _, HO0, HB0, DecAt.start s⟩
  case round =>
    clear HO0 HB0
    obtain ⟨k, mk, Ao, co, out, hk, rfl, rfl, hmk, HO, HB, HD⟩ := hrel
    by_cases hlt : k < s.size
    · obtain ⟨c0, hc0⟩ : ∃ c, s[k] = c := ⟨_, rfl⟩
      have HC0 := Lib.hid hc0
      have hcb : (c0.toNat : Int) < 256 := by have := c0.toNat_lt; omega
      by_cases h37 : (c0.toNat : Int) = 37
      · have h37b : c0 = 37 := by
          have : c0.toNat = 37 := by omega
          exact UInt8.toNat_inj.1 (by rw [this]; rfl)
        have H37 := Lib.hid (hc0.trans h37b)
        clear h37b
        have e0 : ((c0.toNat : Int) == 37) = true := by rw [h37]; rfl
        have H37i := Lib.hid h37
        clear h37
        by_cases h2 : k + 2 < s.size
        · have h2i : (k : Int) + 2 < (s.size : Int) := by omega
          have h1i : (k : Int) + 1 < (s.size : Int) := by omega
          have t1 : ((k : Int) + 1).toNat = k + 1 := by omega
          have z1 : (0 : Int) ≤ (k : Int) + 1 := by omega
          have z2 : (0 : Int) ≤ (k : Int) + 2 := by omega
          have t2 : ((k : Int) + 2).toNat = k + 2 := by omega
          obtain ⟨c1, hc1⟩ : ∃ c, s[k + 1]'(by omega) = c := ⟨_, rfl⟩
          obtain ⟨c2, hc2⟩ : ∃ c, s[k + 2] = c := ⟨_, rfl⟩
          obtain ⟨p, hp⟩ : ∃ p, hexI c1 = p := ⟨_, rfl⟩
          obtain ⟨q, hq⟩ : ∃ q, hexI c2 = q := ⟨_, rfl⟩
          have HA := Lib.hid (hexAt_three h2 H37.out)
          rw [hc1, hc2, hp, hq] at HA
          have HVv := Lib.hid (fun h1 h2' => hexV_three (p := p) (q := q) h2 (by rw [hc1]; exact hp) (by rw [hc2]; exact hq) h1 h2')
          have B1 := hexI_b c1
          have B2 := hexI_b c2
          rw [hp] at B1
          rw [hq] at B2
          obtain ⟨n1, hn1⟩ : ∃ n : Int, (c1.toNat : Int) = n := ⟨_, rfl⟩
          obtain ⟨n2, hn2⟩ : ∃ n : Int, (c2.toNat : Int) = n := ⟨_, rfl⟩
          by_cases hlow : n1 < 128 ∧ n2 < 128
          · obtain ⟨l1, l2⟩ := hlow
            have HX1 := Lib.hid (fun w => hexP_q c1 n1 p w hn1 l1 hp)
            have HX2 := Lib.hid (fun w => hexP_q c2 n2 q w hn2 l2 hq)
            have L1 := B1.1
            have L2 := B2.1
            have L3 := B1.2.1
            have L4 := B2.2.1
            have hw1 : IntKind.i64.wrap ((k : Int) + 1) = (k : Int) + 1 := IntWalk.i64_in _ (by omega)
            have hw2 : IntKind.i64.wrap ((k : Int) + 2) = (k : Int) + 2 := IntWalk.i64_in _ (by omega)
            clear B1 B2 hp hq
            go_upto_region 6 with fail
            refine wp_region_grow (by kernel_rfl) (by kernel_rfl) ?_
            repeat (refine wq_step (fun K hK => ?_); go_simp; first | (refine hK _ ?_; clear hK K) | (refine ⟨.int .i64 p, fun q => ?_, hK _ ?_⟩; (go_at_call 151; exact Gr.calls (by with_reducible exact HX1.out _)); clear hK K) | (refine ⟨.int .i64 q, fun q => ?_, hK _ ?_⟩; (go_at_call 151; exact Gr.calls (by with_reducible exact HX2.out _)); clear hK K))
            refine wq_nil ?_
            intro _ hw'
            obtain ⟨g5, hw''⟩ := hw'
            subst hw''
            have HBg := Lib.hid (HB.out.trans (g5.h.mono (Nat.le_trans hNw HB.out.size)))
            have HOg := Lib.hid (own_keepP HO.out g5.h)
            clear HB HO
            by_cases hp0 : 0 ≤ p
            · by_cases hq0 : 0 ≤ q
              · have HD1 := Lib.hid (HD.out.hex hlt (by rw [HA.out, decide_eq_true hp0, decide_eq_true hq0]; rfl))
                obtain ⟨v, hv⟩ : ∃ v : UInt8, hexV (s.data.toList.drop k) = v := ⟨_, rfl⟩
                have hvv := HVv.out hp0 hq0
                rw [hv] at hvv HD1
                have hvb : (v.toNat : Int) < 256 := by have := v.toNat_lt; omega
                have HVN := Lib.hid hvv.symm
                have hpq : 16 * p + q = (v.toNat : Int) := hvv.symm
                clear HVv hv hvv HA
                have HB := HBg
                have HO := HOg
                clear HBg HOg
                go_wp2_with (first | (at_builtin; go_loud (have hh := own_alloc HO.out (.cells #[.int .u8 (v.toNat : Int)] 5); have k1 : (mk + 1) * 1 ≤ 140737488355328 := (by omega); have k2 : mk + 1 ≤ maxLen := (by unfold maxLen; omega); have k3 : N ≤ (World.alloc g5.w (.cells #[.int .u8 (v.toNat : Int)] 5)).heap.size := (by have := HB.out.size; simp; omega); have k4 := cell_new g5.w [.int .u8 (v.toNat : Int)] 5 (World.heap g5.w).size rfl; go_must (refine wpList_push _ rfl (.tmp 54) (.tmp 60) 165 rfl N 5 (.int .u8 0) 1 1 Tryz.underlying165 info_byte2 rfl (by omega) (.slice Ao mk co) mk _ rfl hh [.int .u8 (v.toNat : Int)] rfl _ (by first | rfl | simp) k4 (one_int _ _) k1 k2 k3 ?_); clear hh k1 k2 k3 k4; intro g5 c5 w5 own5 hg5 hgg5 hb5; have HO5 := Lib.hid own5; have HB5 := Lib.hid ((HB.out.alloc (Nat.le_trans hNw HB.out.size) (.cells #[.int .u8 (v.toNat : Int)] 5)).trans hb5); clear own5 hg5 hgg5 hb5)))
                go_roundw
                case rel => exact ⟨k + 3, mk + 1, _, _, out ++ [v], by omega, by go_num, rfl, by omega, Lib.hid (row_more v HO5.out rfl), HB5, HD1⟩
                case measure => simp [intOf]; omega
              · have HD1 := Lib.hid (HD.out.one hlt (by rw [HA.out, decide_eq_false hq0, Bool.and_false]))
                clear HVv HA
                have HB := HBg
                have HO := HOg
                clear HBg HOg
                go_wp2_with (first | (at_builtin; go_loud (have hh := own_alloc HO.out (.cells #[.int .u8 (c0.toNat : Int)] 5); have k1 : (mk + 1) * 1 ≤ 140737488355328 := (by omega); have k2 : mk + 1 ≤ maxLen := (by unfold maxLen; omega); have k3 : N ≤ (World.alloc g5.w (.cells #[.int .u8 (c0.toNat : Int)] 5)).heap.size := (by have := HB.out.size; simp; omega); have k4 := cell_new g5.w [.int .u8 (c0.toNat : Int)] 5 (World.heap g5.w).size rfl; go_must (refine wpList_push _ rfl (.tmp 64) (.tmp 68) 165 rfl N 5 (.int .u8 0) 1 1 Tryz.underlying165 info_byte2 rfl (by omega) (.slice Ao mk co) mk _ rfl hh [.int .u8 (c0.toNat : Int)] rfl _ (by first | rfl | simp) k4 (one_int _ _) k1 k2 k3 ?_); clear hh k1 k2 k3 k4; intro g5 c5 w5 own5 hg5 hgg5 hb5; have HO5 := Lib.hid own5; have HB5 := Lib.hid ((HB.out.alloc (Nat.le_trans hNw HB.out.size) (.cells #[.int .u8 (c0.toNat : Int)] 5)).trans hb5); clear own5 hg5 hgg5 hb5)))
                go_roundw
                case rel => exact ⟨k + 1, mk + 1, _, _, out ++ [c0], by omega, by go_num, rfl, by omega, Lib.hid (row_more c0 HO5.out rfl), HB5, by have := HD1.out; rw [HC0.out] at this; exact this⟩
                case measure => simp [intOf]; omega
            · have HD1 := Lib.hid (HD.out.one hlt (by rw [HA.out, decide_eq_false hp0, Bool.false_and]))
              clear HVv HA
              have HB := HBg
              have HO := HOg
              clear HBg HOg
              go_wp2_with (first | (at_builtin; go_loud (have hh := own_alloc HO.out (.cells #[.int .u8 (c0.toNat : Int)] 5); have k1 : (mk + 1) * 1 ≤ 140737488355328 := (by omega); have k2 : mk + 1 ≤ maxLen := (by unfold maxLen; omega); have k3 : N ≤ (World.alloc g5.w (.cells #[.int .u8 (c0.toNat : Int)] 5)).heap.size := (by have := HB.out.size; simp; omega); have k4 := cell_new g5.w [.int .u8 (c0.toNat : Int)] 5 (World.heap g5.w).size rfl; go_must (refine wpList_push _ rfl (.tmp 64) (.tmp 68) 165 rfl N 5 (.int .u8 0) 1 1 Tryz.underlying165 info_byte2 rfl (by omega) (.slice Ao mk co) mk _ rfl hh [.int .u8 (c0.toNat : Int)] rfl _ (by first | rfl | simp) k4 (one_int _ _) k1 k2 k3 ?_); clear hh k1 k2 k3 k4; intro g5 c5 w5 own5 hg5 hgg5 hb5; have HO5 := Lib.hid own5; have HB5 := Lib.hid ((HB.out.alloc (Nat.le_trans hNw HB.out.size) (.cells #[.int .u8 (c0.toNat : Int)] 5)).trans hb5); clear own5 hg5 hgg5 hb5)))
              go_roundw
              case rel => exact ⟨k + 1, mk + 1, _, _, out ++ [c0], by omega, by go_num, rfl, by omega, Lib.hid (row_more c0 HO5.out rfl), HB5, by have := HD1.out; rw [HC0.out] at this; exact this⟩
              case measure => simp [intOf]; omega
          · have HD1 := Lib.hid (HD.out.one hlt (by
              rw [HA.out]
              by_cases l1 : n1 < 128
              · have : ¬ 0 ≤ q := fun h => hlow ⟨l1, by have := B2.2.2 h; omega⟩
                rw [decide_eq_false this, Bool.and_false]
              · have : ¬ 0 ≤ p := fun h => l1 (by have := B1.2.2 h; omega)
                rw [decide_eq_false this, Bool.false_and]))
            clear HVv HA B1 B2 hp hq
            by_cases l1 : n1 < 128
            · have l2 : ¬ n2 < 128 := fun h => hlow ⟨l1, h⟩
              clear hlow
              go_wp2_with (first | (at_builtin; go_loud (have hh := own_alloc HO.out (.cells #[.int .u8 (c0.toNat : Int)] 5); have k1 : (mk + 1) * 1 ≤ 140737488355328 := (by omega); have k2 : mk + 1 ≤ maxLen := (by unfold maxLen; omega); have k3 : N ≤ (World.alloc wr (.cells #[.int .u8 (c0.toNat : Int)] 5)).heap.size := (by have := HB.out.size; simp; omega); have k4 := cell_new wr [.int .u8 (c0.toNat : Int)] 5 (World.heap wr).size rfl; go_must (refine wpList_push _ rfl (.tmp 64) (.tmp 68) 165 rfl N 5 (.int .u8 0) 1 1 Tryz.underlying165 info_byte2 rfl (by omega) (.slice Ao mk co) mk _ rfl hh [.int .u8 (c0.toNat : Int)] rfl _ (by first | rfl | simp) k4 (one_int _ _) k1 k2 k3 ?_); clear hh k1 k2 k3 k4; intro g5 c5 w5 own5 hg5 hgg5 hb5; have HO5 := Lib.hid own5; have HB5 := Lib.hid ((HB.out.alloc (Nat.le_trans hNw HB.out.size) (.cells #[.int .u8 (c0.toNat : Int)] 5)).trans hb5); clear own5 hg5 hgg5 hb5)))
              go_roundw
              case rel => exact ⟨k + 1, mk + 1, _, _, out ++ [c0], by omega, by go_num, rfl, by omega, Lib.hid (row_more c0 HO5.out rfl), HB5, by have := HD1.out; rw [HC0.out] at this; exact this⟩
              case measure => simp [intOf]; omega
            · clear hlow
              go_wp2_with (first | (at_builtin; go_loud (have hh := own_alloc HO.out (.cells #[.int .u8 (c0.toNat : Int)] 5); have k1 : (mk + 1) * 1 ≤ 140737488355328 := (by omega); have k2 : mk + 1 ≤ maxLen := (by unfold maxLen; omega); have k3 : N ≤ (World.alloc wr (.cells #[.int .u8 (c0.toNat : Int)] 5)).heap.size := (by have := HB.out.size; simp; omega); have k4 := cell_new wr [.int .u8 (c0.toNat : Int)] 5 (World.heap wr).size rfl; go_must (refine wpList_push _ rfl (.tmp 64) (.tmp 68) 165 rfl N 5 (.int .u8 0) 1 1 Tryz.underlying165 info_byte2 rfl (by omega) (.slice Ao mk co) mk _ rfl hh [.int .u8 (c0.toNat : Int)] rfl _ (by first | rfl | simp) k4 (one_int _ _) k1 k2 k3 ?_); clear hh k1 k2 k3 k4; intro g5 c5 w5 own5 hg5 hgg5 hb5; have HO5 := Lib.hid own5; have HB5 := Lib.hid ((HB.out.alloc (Nat.le_trans hNw HB.out.size) (.cells #[.int .u8 (c0.toNat : Int)] 5)).trans hb5); clear own5 hg5 hgg5 hb5)))
              go_roundw
              case rel => exact ⟨k + 1, mk + 1, _, _, out ++ [c0], by omega, by go_num, rfl, by omega, Lib.hid (row_more c0 HO5.out rfl), HB5, by have := HD1.out; rw [HC0.out] at this; exact this⟩
              case measure => simp [intOf]; omega
        · have HD1 := Lib.hid (HD.out.one hlt (hexAt_end (by omega)))
          have h2i : ¬ (k : Int) + 2 < (s.size : Int) := by omega
          go_wp2_with (first | (at_builtin; go_loud (have hh := own_alloc HO.out (.cells #[.int .u8 (c0.toNat : Int)] 5); have k1 : (mk + 1) * 1 ≤ 140737488355328 := (by omega); have k2 : mk + 1 ≤ maxLen := (by unfold maxLen; omega); have k3 : N ≤ (World.alloc wr (.cells #[.int .u8 (c0.toNat : Int)] 5)).heap.size := (by have := HB.out.size; simp; omega); have k4 := cell_new wr [.int .u8 (c0.toNat : Int)] 5 (World.heap wr).size rfl; go_must (refine wpList_push _ rfl (.tmp 64) (.tmp 68) 165 rfl N 5 (.int .u8 0) 1 1 Tryz.underlying165 info_byte2 rfl (by omega) (.slice Ao mk co) mk _ rfl hh [.int .u8 (c0.toNat : Int)] rfl _ (by first | rfl | simp) k4 (one_int _ _) k1 k2 k3 ?_); clear hh k1 k2 k3 k4; intro g5 c5 w5 own5 hg5 hgg5 hb5; have HO5 := Lib.hid own5; have HB5 := Lib.hid ((HB.out.alloc (Nat.le_trans hNw HB.out.size) (.cells #[.int .u8 (c0.toNat : Int)] 5)).trans hb5); clear own5 hg5 hgg5 hb5)))
          go_roundw
          case rel => exact ⟨k + 1, mk + 1, _, _, out ++ [c0], by omega, by go_num, rfl, by omega, Lib.hid (row_more c0 HO5.out rfl), HB5, by have := HD1.out; rw [HC0.out] at this; exact this⟩
          case measure => simp [intOf]; omega
      · have HD1 := Lib.hid (HD.out.one hlt (hexAt_not hlt (by rw [hc0]; intro e; subst e; exact h37 rfl)))
        have e0 : ((c0.toNat : Int) == 37) = false := by rw [beq_eq_false_iff_ne]; exact h37
        go_wp2_with (first | (at_builtin; go_loud (have hh := own_alloc HO.out (.cells #[.int .u8 (c0.toNat : Int)] 5); have k1 : (mk + 1) * 1 ≤ 140737488355328 := (by omega); have k2 : mk + 1 ≤ maxLen := (by unfold maxLen; omega); have k3 : N ≤ (World.alloc wr (.cells #[.int .u8 (c0.toNat : Int)] 5)).heap.size := (by have := HB.out.size; simp; omega); have k4 := cell_new wr [.int .u8 (c0.toNat : Int)] 5 (World.heap wr).size rfl; go_must (refine wpList_push _ rfl (.tmp 64) (.tmp 68) 165 rfl N 5 (.int .u8 0) 1 1 Tryz.underlying165 info_byte2 rfl (by omega) (.slice Ao mk co) mk _ rfl hh [.int .u8 (c0.toNat : Int)] rfl _ (by first | rfl | simp) k4 (one_int _ _) k1 k2 k3 ?_); clear hh k1 k2 k3 k4; intro g5 c5 w5 own5 hg5 hgg5 hb5; have HO5 := Lib.hid own5; have HB5 := Lib.hid ((HB.out.alloc (Nat.le_trans hNw HB.out.size) (.cells #[.int .u8 (c0.toNat : Int)] 5)).trans hb5); clear own5 hg5 hgg5 hb5)))
        go_roundw
        case rel => exact ⟨k + 1, mk + 1, _, _, out ++ [c0], by omega, by go_num, rfl, by omega, Lib.hid (row_more c0 HO5.out rfl), HB5, by have := HD1.out; rw [HC0.out] at this; exact this⟩
        case measure => simp [intOf]; omega
    · have HE := Lib.hid (HD.out.fin (by omega))
      have hcv := conv_row HO.out
      rw [HE.out] at hcv
      have HR := Lib.hid (show (⟨(decL s.data.toList).toArray⟩ : ByteArray) = decS s from rfl)
      rw [HR.out] at hcv
      clear HR
      go_wp2_with fail
      go_ret
      exact ⟨rfl, HB.out⟩

end Go.Proofs.YtbhildmalcfhiaaGreatDoor

namespace Go.Proofs.YtbhildmalcfhiaaGreatDoor
open Go.RowKit Go.Deep


set_option maxRecDepth 100000 in
set_option maxHeartbeats 8000000 in
theorem decodedR_q (s : ByteArray) (w : World) (hs : s.size ≤ 1048576) :
    Calls Tryz.prog 158 #[.string s] w fun e w' => e = .returned (.string (decS s)) ∧ Below w.heap.size w w' := by
  obtain ⟨N, hN⟩ : ∃ N, w.heap.size = N := ⟨_, rfl⟩
  rw [hN]
  have HB0 := Lib.hid (show Below N w w by rw [← hN]; exact Below.refl _ _)
  have HO0 := Lib.hid (show w.ownsRow N 5 1 (.slice none 0 0) 0 (byteCells []) from World.ownsRow_nil w _ 5 1)
  have hNw : N ≤ w.heap.size := by omega
  clear hN
  go_enter Tryz.func158, Tryz.ntmps158
  go_wp2_with fail
  go_loopw [3, 4] (fun t3 t4 wr => ∃ (k mk : Nat) (Ao : Option Addr) (co : Nat) (out : List UInt8), k ≤ s.size ∧ t4 = .int .i64 k ∧ t3 = .slice Ao mk co ∧ mk ≤ k ∧ Hid (wr.ownsRow N 5 1 (.slice Ao mk co) mk (byteCells out)) ∧ Hid (Below N w wr) ∧ Hid (DecAt s k out)) (fun _ t4 _ => s.size - (intOf t4).toNat)
  case atStart => exact ⟨0, 0, none, 0, [], Nat.zero_le _, rfl, rfl, Nat.le_refl _, HO0, HB0, DecAt.start s⟩
  case round =>
    clear HO0 HB0
    obtain ⟨k, mk, Ao, co, out, hk, rfl, rfl, hmk, HO, HB, HD⟩ := hrel
    by_cases hlt : k < s.size
    · obtain ⟨c0, hc0⟩ : ∃ c, s[k] = c := ⟨_, rfl⟩
      have HC0 := Lib.hid hc0
      have hcb : (c0.toNat : Int) < 256 := by have := c0.toNat_lt; omega
      by_cases h37 : (c0.toNat : Int) = 37
      · have h37b : c0 = 37 := by
          have : c0.toNat = 37 := by omega
          exact UInt8.toNat_inj.1 (by rw [this]; rfl)
        have H37 := Lib.hid (hc0.trans h37b)
        clear h37b
        have e0 : ((c0.toNat : Int) == 37) = true := by rw [h37]; rfl
        have H37i := Lib.hid h37
        clear h37
        by_cases h2 : k + 2 < s.size
        · have h2i : (k : Int) + 2 < (s.size : Int) := by omega
          have h1i : (k : Int) + 1 < (s.size : Int) := by omega
          have t1 : ((k : Int) + 1).toNat = k + 1 := by omega
          have z1 : (0 : Int) ≤ (k : Int) + 1 := by omega
          have z2 : (0 : Int) ≤ (k : Int) + 2 := by omega
          have t2 : ((k : Int) + 2).toNat = k + 2 := by omega
          obtain ⟨c1, hc1⟩ : ∃ c, s[k + 1]'(by omega) = c := ⟨_, rfl⟩
          obtain ⟨c2, hc2⟩ : ∃ c, s[k + 2] = c := ⟨_, rfl⟩
          obtain ⟨p, hp⟩ : ∃ p, hexI c1 = p := ⟨_, rfl⟩
          obtain ⟨q, hq⟩ : ∃ q, hexI c2 = q := ⟨_, rfl⟩
          have HA := Lib.hid (hexAt_three h2 H37.out)
          rw [hc1, hc2, hp, hq] at HA
          have HVv := Lib.hid (fun h1 h2' => hexV_three (p := p) (q := q) h2 (by rw [hc1]; exact hp) (by rw [hc2]; exact hq) h1 h2')
          have B1 := hexI_b c1
          have B2 := hexI_b c2
          rw [hp] at B1
          rw [hq] at B2
          obtain ⟨n1, hn1⟩ : ∃ n : Int, (c1.toNat : Int) = n := ⟨_, rfl⟩
          obtain ⟨n2, hn2⟩ : ∃ n : Int, (c2.toNat : Int) = n := ⟨_, rfl⟩
          have HX1 := Lib.hid (fun w => hexR_q c1 n1 p w hn1 hp)
          have HX2 := Lib.hid (fun w => hexR_q c2 n2 q w hn2 hq)
          have L1 := B1.1
          have L2 := B2.1
          clear B1 B2 hp hq
          have hw1 : IntKind.i64.wrap ((k : Int) + 1) = (k : Int) + 1 := IntWalk.i64_in _ (by omega)
          have hw2 : IntKind.i64.wrap ((k : Int) + 2) = (k : Int) + 2 := IntWalk.i64_in _ (by omega)
          have HG := Lib.hid (Below.refl wr.heap.size wr)
          by_cases hp0 : 0 ≤ p
          · by_cases hq0 : 0 ≤ q
            · have HD1 := Lib.hid (HD.out.hex hlt (by rw [HA.out, decide_eq_true hp0, decide_eq_true hq0]; rfl))
              obtain ⟨v, hv⟩ : ∃ v : UInt8, hexV (s.data.toList.drop k) = v := ⟨_, rfl⟩
              have hvv := HVv.out hp0 hq0
              rw [hv] at hvv HD1
              have hvb : (v.toNat : Int) < 256 := by have := v.toNat_lt; omega
              have hpq : 16 * p + q = (v.toNat : Int) := hvv.symm
              have hw3 : IntKind.i64.wrap (16 * p) = 16 * p := IntWalk.i64_in _ (by omega)
              have hw4 : IntKind.i64.wrap (v.toNat : Int) = (v.toNat : Int) := IntWalk.i64_in _ (by omega)
              have hw5 : IntKind.u8.wrap (v.toNat : Int) = (v.toNat : Int) := IntWalk.u8_in _ (by omega)
              clear HVv hv hvv HA
              go_upto_region 6 with (go_at_call 182; refine (by first | with_reducible exact HX1.out _ | with_reducible exact HX2.out _ : Calls _ _ _ _ _).mono ?_; rintro e w1 ⟨rfl, hb⟩; replace HG := Lib.hid (HG.out.trans (hb.mono HG.out.size)); clear hb)
              have HBn := Lib.hid (HB.out.trans (HG.out.mono (Nat.le_trans hNw HB.out.size)))
              have HOn := Lib.hid (own_keepP HO.out HG.out)
              clear HB HO HG
              have HG := Lib.hid (Below.drew (Below.refl w1.heap.size w1))
              go_region_law (first
                | (refine step_pushT rfl (.tmp 38) (.tmp 52) 165 rfl N 5 (.int .u8 0) 1 1 Tryz.underlying165 info_byte2 rfl (by omega) (.slice Ao mk co) mk _ (by simp [Act.eval]) (own_alloc (own_keepP HOn.out (HG.out.mono (by simp))) (.cells #[.int .u8 (v.toNat : Int)] 5)) [.int .u8 (v.toNat : Int)] rfl _ (by simp [Act.eval]) (cell_new _ [.int .u8 (v.toNat : Int)] 5 _ rfl) (one_int _ _) (by omega) (by unfold maxLen; omega) (by have := HBn.out.size; have := HG.out.size; simp at *; omega) ?_
                   intro g5 c5 w5 own5 hg5 hgg5 hb5
                   have HO5 := Lib.hid own5
                   have HB5 := Lib.hid (((HBn.out.trans (HG.out.mono (Nat.le_trans hNw HBn.out.size))).alloc (by have := HBn.out.size; have := HG.out.size; omega) (.cells #[.int .u8 (v.toNat : Int)] 5)).trans hb5)
                   clear own5 hg5 hgg5 hb5)
                | (go_simp
                   go_at_call 182
                   refine (by first | with_reducible exact HX1.out _ | with_reducible exact HX2.out _ : Calls _ _ _ _ _).mono ?_
                   rintro e w2 ⟨rfl, hb⟩
                   replace HG := Lib.hid (HG.out.trans (hb.mono HG.out.size))
                   clear hb))
              all_goals
                (try go_wp2_with fail)
                go_roundw
                case rel => exact ⟨k + 3, mk + 1, _, _, out ++ [v], by omega, by go_num, rfl, by omega, Lib.hid (row_more v HO5.out rfl), HB5, HD1⟩
                case measure => simp [intOf]; omega
            · have HD1 := Lib.hid (HD.out.one hlt (by rw [HA.out, decide_eq_false hq0, Bool.and_false]))
              clear HVv HA
              go_wp2_with (first | (go_at_call 182; refine (by first | with_reducible exact HX1.out _ | with_reducible exact HX2.out _ : Calls _ _ _ _ _).mono ?_; rintro e w1 ⟨rfl, hb⟩; replace HG := Lib.hid (HG.out.trans (hb.mono HG.out.size)); clear hb) | (at_builtin; go_loud (have HBn := Lib.hid (HB.out.trans (HG.out.mono (Nat.le_trans hNw HB.out.size))); have HOn := Lib.hid (own_keepP HO.out HG.out); clear HB HO; have HB := HBn; have HO := HOn; clear HBn HOn; have hh := own_alloc HO.out (.cells #[.int .u8 (c0.toNat : Int)] 5); have k1 : (mk + 1) * 1 ≤ 140737488355328 := (by omega); have k2 : mk + 1 ≤ maxLen := (by unfold maxLen; omega); have k3 : N ≤ (World.alloc w1 (.cells #[.int .u8 (c0.toNat : Int)] 5)).heap.size := (by have := HB.out.size; simp; omega); have k4 := cell_new w1 [.int .u8 (c0.toNat : Int)] 5 (World.heap w1).size rfl; go_must (refine wpList_push _ rfl (.tmp 56) (.tmp 60) 165 rfl N 5 (.int .u8 0) 1 1 Tryz.underlying165 info_byte2 rfl (by omega) (.slice Ao mk co) mk _ rfl hh [.int .u8 (c0.toNat : Int)] rfl _ (by first | rfl | simp) k4 (one_int _ _) k1 k2 k3 ?_); clear hh k1 k2 k3 k4; intro g5 c5 w5 own5 hg5 hgg5 hb5; have HO5 := Lib.hid own5; have HB5 := Lib.hid ((HB.out.alloc (Nat.le_trans hNw HB.out.size) (.cells #[.int .u8 (c0.toNat : Int)] 5)).trans hb5); clear own5 hg5 hgg5 hb5)))
              go_roundw
              case rel => exact ⟨k + 1, mk + 1, _, _, out ++ [c0], by omega, by go_num, rfl, by omega, Lib.hid (row_more c0 HO5.out rfl), HB5, by have := HD1.out; rw [HC0.out] at this; exact this⟩
              case measure => simp [intOf]; omega
          · have HD1 := Lib.hid (HD.out.one hlt (by rw [HA.out, decide_eq_false hp0, Bool.false_and]))
            clear HVv HA
            go_wp2_with (first | (go_at_call 182; refine (by first | with_reducible exact HX1.out _ | with_reducible exact HX2.out _ : Calls _ _ _ _ _).mono ?_; rintro e w1 ⟨rfl, hb⟩; replace HG := Lib.hid (HG.out.trans (hb.mono HG.out.size)); clear hb) | (at_builtin; go_loud (have HBn := Lib.hid (HB.out.trans (HG.out.mono (Nat.le_trans hNw HB.out.size))); have HOn := Lib.hid (own_keepP HO.out HG.out); clear HB HO; have HB := HBn; have HO := HOn; clear HBn HOn; have hh := own_alloc HO.out (.cells #[.int .u8 (c0.toNat : Int)] 5); have k1 : (mk + 1) * 1 ≤ 140737488355328 := (by omega); have k2 : mk + 1 ≤ maxLen := (by unfold maxLen; omega); have k3 : N ≤ (World.alloc w1 (.cells #[.int .u8 (c0.toNat : Int)] 5)).heap.size := (by have := HB.out.size; simp; omega); have k4 := cell_new w1 [.int .u8 (c0.toNat : Int)] 5 (World.heap w1).size rfl; go_must (refine wpList_push _ rfl (.tmp 56) (.tmp 60) 165 rfl N 5 (.int .u8 0) 1 1 Tryz.underlying165 info_byte2 rfl (by omega) (.slice Ao mk co) mk _ rfl hh [.int .u8 (c0.toNat : Int)] rfl _ (by first | rfl | simp) k4 (one_int _ _) k1 k2 k3 ?_); clear hh k1 k2 k3 k4; intro g5 c5 w5 own5 hg5 hgg5 hb5; have HO5 := Lib.hid own5; have HB5 := Lib.hid ((HB.out.alloc (Nat.le_trans hNw HB.out.size) (.cells #[.int .u8 (c0.toNat : Int)] 5)).trans hb5); clear own5 hg5 hgg5 hb5)))
            go_roundw
            case rel => exact ⟨k + 1, mk + 1, _, _, out ++ [c0], by omega, by go_num, rfl, by omega, Lib.hid (row_more c0 HO5.out rfl), HB5, by have := HD1.out; rw [HC0.out] at this; exact this⟩
            case measure => simp [intOf]; omega
        · have HD1 := Lib.hid (HD.out.one hlt (hexAt_end (by omega)))
          have h2i : ¬ (k : Int) + 2 < (s.size : Int) := by omega
          go_wp2_with (first | (at_builtin; go_loud (have hh := own_alloc HO.out (.cells #[.int .u8 (c0.toNat : Int)] 5); have k1 : (mk + 1) * 1 ≤ 140737488355328 := (by omega); have k2 : mk + 1 ≤ maxLen := (by unfold maxLen; omega); have k3 : N ≤ (World.alloc wr (.cells #[.int .u8 (c0.toNat : Int)] 5)).heap.size := (by have := HB.out.size; simp; omega); have k4 := cell_new wr [.int .u8 (c0.toNat : Int)] 5 (World.heap wr).size rfl; go_must (refine wpList_push _ rfl (.tmp 56) (.tmp 60) 165 rfl N 5 (.int .u8 0) 1 1 Tryz.underlying165 info_byte2 rfl (by omega) (.slice Ao mk co) mk _ rfl hh [.int .u8 (c0.toNat : Int)] rfl _ (by first | rfl | simp) k4 (one_int _ _) k1 k2 k3 ?_); clear hh k1 k2 k3 k4; intro g5 c5 w5 own5 hg5 hgg5 hb5; have HO5 := Lib.hid own5; have HB5 := Lib.hid ((HB.out.alloc (Nat.le_trans hNw HB.out.size) (.cells #[.int .u8 (c0.toNat : Int)] 5)).trans hb5); clear own5 hg5 hgg5 hb5)))
          go_roundw
          case rel => exact ⟨k + 1, mk + 1, _, _, out ++ [c0], by omega, by go_num, rfl, by omega, Lib.hid (row_more c0 HO5.out rfl), HB5, by have := HD1.out; rw [HC0.out] at this; exact this⟩
          case measure => simp [intOf]; omega
      · have HD1 := Lib.hid (HD.out.one hlt (hexAt_not hlt (by rw [hc0]; intro e; subst e; exact h37 rfl)))
        have e0 : ((c0.toNat : Int) == 37) = false := by rw [beq_eq_false_iff_ne]; exact h37
        go_wp2_with (first | (at_builtin; go_loud (have hh := own_alloc HO.out (.cells #[.int .u8 (c0.toNat : Int)] 5); have k1 : (mk + 1) * 1 ≤ 140737488355328 := (by omega); have k2 : mk + 1 ≤ maxLen := (by unfold maxLen; omega); have k3 : N ≤ (World.alloc wr (.cells #[.int .u8 (c0.toNat : Int)] 5)).heap.size := (by have := HB.out.size; simp; omega); have k4 := cell_new wr [.int .u8 (c0.toNat : Int)] 5 (World.heap wr).size rfl; go_must (refine wpList_push _ rfl (.tmp 56) (.tmp 60) 165 rfl N 5 (.int .u8 0) 1 1 Tryz.underlying165 info_byte2 rfl (by omega) (.slice Ao mk co) mk _ rfl hh [.int .u8 (c0.toNat : Int)] rfl _ (by first | rfl | simp) k4 (one_int _ _) k1 k2 k3 ?_); clear hh k1 k2 k3 k4; intro g5 c5 w5 own5 hg5 hgg5 hb5; have HO5 := Lib.hid own5; have HB5 := Lib.hid ((HB.out.alloc (Nat.le_trans hNw HB.out.size) (.cells #[.int .u8 (c0.toNat : Int)] 5)).trans hb5); clear own5 hg5 hgg5 hb5)))
        go_roundw
        case rel => exact ⟨k + 1, mk + 1, _, _, out ++ [c0], by omega, by go_num, rfl, by omega, Lib.hid (row_more c0 HO5.out rfl), HB5, by have := HD1.out; rw [HC0.out] at this; exact this⟩
        case measure => simp [intOf]; omega
    · have HE := Lib.hid (HD.out.fin (by omega))
      have hcv := conv_row HO.out
      rw [HE.out] at hcv
      have HR := Lib.hid (show (⟨(decL s.data.toList).toArray⟩ : ByteArray) = decS s from rfl)
      rw [HR.out] at hcv
      clear HR
      go_wp2_with fail
      go_ret
      exact ⟨rfl, HB.out⟩

end Go.Proofs.YtbhildmalcfhiaaGreatDoor

namespace Go.Proofs.YtbhildmalcfhiaaGreatDoor
open Go.RowKit Go.Deep

theorem splitC_append (c : UInt8) (t : List UInt8) : ∀ u : List UInt8, splitC c (u ++ c :: t) = splitC c u ++ splitC c t
  | [] => by simp [splitC]
  | b :: u => by
    have ih := splitC_append c t u
    rw [List.cons_append, splitC, splitC, ih]
    by_cases h : b = c
    · rw [if_pos h, if_pos h]; rfl
    · rw [if_neg h, if_neg h]
      cases hu : splitC c u with
      | nil => exact absurd hu (splitC_ne c u)
      | cons p r => rfl
theorem splitC_whole (c : UInt8) : ∀ u : List UInt8, c ∉ u → splitC c u = [u]
  | [], _ => rfl
  | b :: u, h => by
    simp only [List.mem_cons, not_or] at h
    rw [splitC, if_neg (fun e => h.1 e.symm), splitC_whole c u h.2]
/-- the parts of an address and of its path -/
theorem addr_parts {s : ByteArray} (h : pathB s = true) : (cutP (addrS s)).tail.dropLast = (cutP s).dropLast ∧ 2 ≤ (cutP (addrS s)).length := by
  have e1 : strs8 (cutP (addrS s)) = splitC 47 (addrL s.data.toList) := by rw [cutP_map, addrS_yes h]
  have e2 : strs8 (cutP s) = splitC 47 s.data.toList := cutP_map s
  have e3 : (splitC 47 (addrL s.data.toList)).tail.dropLast = (splitC 47 s.data.toList).dropLast ∧ 2 ≤ (splitC 47 (addrL s.data.toList)).length := by
    unfold addrL
    by_cases hs : Lib.hasSuffix (47 :: s.data.toList) (47 :: idx) = true
    · rw [if_pos hs]
      simp only [Lib.hasSuffix, List.isSuffixOf_iff_suffix] at hs
      obtain ⟨u, hu⟩ := hs
      have hl : (47 :: s.data.toList).take (s.data.toList.length - 9) = u ++ [47] := by
        have h2 := congrArg List.length hu
        simp only [List.length_append, List.length_cons, idx, List.length_nil] at h2
        rw [← hu, show s.data.toList.length - 9 = u.length + 1 by omega, List.take_append]
        simp [idx]
        exact List.take_of_length_le (by omega)
      rw [hl, splitC_append]
      have h3 : splitC 47 (47 :: s.data.toList) = [] :: splitC 47 s.data.toList := by rw [splitC, if_pos rfl]
      rw [← hu, splitC_append, splitC_whole 47 idx (by decide)] at h3
      cases hh : splitC 47 u with
      | nil => exact absurd hh (splitC_ne 47 u)
      | cons x xs =>
        rw [hh] at h3
        simp only [List.cons_append, List.cons.injEq] at h3
        rw [← h3.2]
        refine ⟨?_, by simp [splitC]⟩
        show (xs ++ [[]]).dropLast = (xs ++ [idx]).dropLast
        rw [List.dropLast_concat, List.dropLast_concat]
    · rw [if_neg hs, splitC, if_pos rfl]
      refine ⟨rfl, ?_⟩
      have := splitC_ne 47 s.data.toList
      cases hh : splitC 47 s.data.toList with
      | nil => exact absurd hh this
      | cons a r => simp
  refine ⟨strs8_inj ?_, ?_⟩
  · have h1 : ∀ l : List ByteArray, strs8 l.tail.dropLast = (strs8 l).tail.dropLast := fun l => by simp [strs8, List.map_dropLast]
    have h2 : ∀ l : List ByteArray, strs8 l.dropLast = (strs8 l).dropLast := fun l => by simp [strs8, List.map_dropLast]
    rw [h1, h2, e1, e2]
    exact e3.1
  · have h2 := congrArg List.length e1
    rw [strs8, List.length_map] at h2
    rw [h2]
    exact e3.2
/-- pieces that are names -/
def GoodP (L : List ByteArray) : Prop := ∀ p ∈ L, p.data.toList ≠ [] ∧ (47 : UInt8) ∉ p.data.toList
theorem cutP_no {s p : ByteArray} (h : p ∈ cutP s) : (47 : UInt8) ∉ p.data.toList :=
  splitC_no 47 s.data.toList _ (by rw [← cutP_map]; exact List.mem_map.2 ⟨p, h, rfl⟩)
theorem cutP_size {s p : ByteArray} (h : p ∈ cutP s) : p.size ≤ s.size := by
  have h1 := splitC_sum 47 s.data.toList
  have h2 := sumL_mem (a := splitC 47 s.data.toList) (x := p.data.toList) (by rw [← cutP_map]; exact List.mem_map.2 ⟨p, h, rfl⟩)
  rw [size_toList] at h1 h2
  omega
/-- the directory of a page -/
def pageP (f : ByteArray) : List ByteArray := (cutP f).dropLast
theorem pageP_good {f : ByteArray} (h : pathB f = true) : GoodP (pageP f) := by
  intro p hp
  have hp2 : p ∈ cutP f := List.dropLast_subset _ hp
  refine ⟨fun e => ?_, cutP_no hp2⟩
  simp only [pathB, Bool.and_eq_true, List.all_eq_true] at h
  have := h.2 p hp2
  rw [e] at this
  simp [partL] at this
theorem pageP_sum (f : ByteArray) : sumL (strs8 (pageP f)) ≤ f.size + 1 := by
  have h : strs8 (pageP f) = (splitC 47 f.data.toList).take (cutP f).dropLast.length := by
    rw [← cutP_map, pageP, strs8, strs8, List.dropLast_eq_take, List.map_take, List.length_take]
    congr 1
    omega
  rw [h]
  have h1 := sumL_take (splitC 47 f.data.toList) (cutP f).dropLast.length
  rw [splitC_sum, size_toList] at h1
  exact h1

open Classical in
/-- one piece of a target -/
noncomputable def stepP (L : List ByteArray) (p : ByteArray) : Option (List ByteArray) :=
  if p.data.toList = [] ∨ p.data.toList = [46] then some L
  else if p.data.toList = [46, 46] then (if L = [] then none else some L.dropLast) else some (L ++ [p])
noncomputable def walkP : List ByteArray → List ByteArray → Option (List ByteArray)
  | L, [] => some L
  | L, p :: r => match stepP L p with | none => none | some M => walkP M r
theorem stepP_same {L : List ByteArray} {p : ByteArray} (h : p.data.toList = [] ∨ p.data.toList = [46]) : stepP L p = some L := by unfold stepP; rw [if_pos h]
theorem stepP_up0 {p : ByteArray} (h : p.data.toList = [46, 46]) : stepP [] p = none := by
  unfold stepP
  rw [if_neg (by rw [h]; decide), if_pos h, if_pos rfl]
theorem stepP_up {L : List ByteArray} {p : ByteArray} (h : p.data.toList = [46, 46]) (hL : L ≠ []) : stepP L p = some L.dropLast := by
  unfold stepP
  rw [if_neg (by rw [h]; decide), if_pos h, if_neg hL]
theorem stepP_push {L : List ByteArray} {p : ByteArray} (h1 : ¬ (p.data.toList = [] ∨ p.data.toList = [46])) (h2 : ¬ p.data.toList = [46, 46]) : stepP L p = some (L ++ [p]) := by
  unfold stepP; rw [if_neg h1, if_neg h2]
/-- how far a target has been walked -/
structure WalkP (o : Option (List ByteArray)) (L ps : List ByteArray) (k : Nat) (L0 : Nat) : Prop where
  rest : o = walkP L (ps.drop k)
  good : GoodP L
  sum : sumL (strs8 L) ≤ L0 + sumL (strs8 (ps.take k))
theorem WalkP.step {o : Option (List ByteArray)} {L M ps : List ByteArray} {k L0 : Nat} {p : ByteArray} (h : WalkP o L ps k L0) (hp : ps[k]? = some p) (hs : stepP L p = some M) (hn : ∀ p ∈ ps, (47 : UInt8) ∉ p.data.toList) : WalkP o M ps (k + 1) L0 := by
  obtain ⟨hk, hk2⟩ := List.getElem?_eq_some_iff.1 hp
  have ht : strs8 (ps.take (k + 1)) = strs8 (ps.take k) ++ [p.data.toList] := by
    rw [List.take_succ_eq_append_getElem hk, hk2]; simp [strs8]
  have hsum : sumL (strs8 (ps.take (k + 1))) = sumL (strs8 (ps.take k)) + (p.data.toList.length + 1) := by
    rw [ht, sumL_append]; simp [sumL]
  have hd : sumL (strs8 L.dropLast) ≤ sumL (strs8 L) := by
    rw [List.dropLast_eq_take, strs8, List.map_take]; exact sumL_take _ _
  refine ⟨?_, ?_, ?_⟩
  · rw [h.rest, List.drop_eq_getElem_cons hk, hk2, walkP, hs]
  · unfold stepP at hs
    split at hs
    · cases hs; exact h.good
    · rename_i h1
      split at hs
      · split at hs
        · cases hs
        · cases hs; exact fun q hq => h.good q (List.dropLast_subset _ hq)
      · cases hs
        intro q hq
        rcases List.mem_append.1 hq with hq | hq
        · exact h.good q hq
        · rw [List.mem_singleton.1 hq]
          exact ⟨fun e => h1 (Or.inl e), hn p (List.mem_of_getElem? hp)⟩
  · have h0 := h.sum
    unfold stepP at hs
    split at hs
    · cases hs; omega
    · split at hs
      · split at hs
        · cases hs
        · cases hs; omega
      · cases hs
        have : sumL (strs8 (L ++ [p])) = sumL (strs8 L) + (p.data.toList.length + 1) := by
          simp only [strs8, List.map_append, sumL_append]; simp [sumL]
        omega
theorem WalkP.bad {o : Option (List ByteArray)} {L ps : List ByteArray} {k L0 : Nat} {p : ByteArray} (h : WalkP o L ps k L0) (hp : ps[k]? = some p) (hs : stepP L p = none) : o = none := by
  obtain ⟨hk, hk2⟩ := List.getElem?_eq_some_iff.1 hp
  rw [h.rest, List.drop_eq_getElem_cons hk, hk2, walkP, hs]
theorem WalkP.fin {o : Option (List ByteArray)} {L ps : List ByteArray} {k L0 : Nat} (h : WalkP o L ps k L0) (hk : ps.length ≤ k) : o = some L := by
  rw [h.rest, List.drop_of_length_le hk, walkP]
theorem WalkP.room {o : Option (List ByteArray)} {L : List ByteArray} {k L0 : Nat} {s : ByteArray} (h : WalkP o L (cutP s) k L0) : sumL (strs8 L) ≤ L0 + s.size + 1 ∧ L.length ≤ L0 + s.size + 1 := by
  have h1 := h.sum
  have h2 : sumL (strs8 ((cutP s).take k)) ≤ s.size + 1 := by
    rw [strs8, List.map_take]
    have h3 := sumL_take ((cutP s).map (·.data.toList)) k
    have h4 : sumL ((cutP s).map (·.data.toList)) = s.size + 1 := by
      have := splitC_sum 47 s.data.toList
      rw [← cutP_map, size_toList] at this
      exact this
    omega
  have h5 := sumL_len (strs8 L)
  have h6 : (strs8 L).length = L.length := by simp [strs8]
  omega
/-- a piece that names a directory -/
def dirL (l : List UInt8) : Bool := (l == []) || (l == [46]) || (l == [46, 46])
def slashS : ByteArray := ⟨#[47]⟩
def idxN : ByteArray := ⟨#[105, 110, 100, 101, 120, 46, 104, 116, 109, 108]⟩
def endP (L : List ByteArray) (d : Bool) : ByteArray := if d = true then (if (joinP L).size = 0 then idxN else joinP L ++ slashS ++ idxN) else joinP L
theorem endP_no (L : List ByteArray) : endP L false = joinP L := rfl
theorem endP_zero {L : List ByteArray} (h : (joinP L).size = 0) : endP L true = idxN := by rw [endP, if_pos rfl, if_pos h]
theorem endP_more {L : List ByteArray} (h : ¬ (joinP L).size = 0) : endP L true = joinP L ++ slashS ++ idxN := by rw [endP, if_pos rfl, if_neg h]
/-- a joined path of names does not begin with a stroke -/
theorem joinP_head {L : List ByteArray} (hg : GoodP L) (h : ¬ (joinP L).size = 0) : Lib.hasPrefix (joinP L ++ slashS ++ idxN).data.toList [47] = false := by
  cases L with
  | nil => exact absurd rfl h
  | cons p r =>
    have e : (joinP (p :: r)).data.toList = p.data.toList ++ Lib.joinTail [47] (strs8 r) := by
      show Lib.join (strs8 (p :: r)) [47] = _
      rw [strs8, List.map_cons, Lib.join_cons]; rfl
    have e2 : (joinP (p :: r) ++ slashS ++ idxN).data.toList = p.data.toList ++ (Lib.joinTail [47] (strs8 r) ++ ([47] ++ idxN.data.toList)) := by
      rw [ByteArray.data_append, ByteArray.data_append, Array.toList_append, Array.toList_append, e]
      simp [slashS]
    have hp := hg p (by simp)
    rw [e2]
    cases hh : p.data.toList with
    | nil => exact absurd hh hp.1
    | cons b q =>
      rw [hh] at hp
      have hb : b ≠ 47 := fun e => hp.2 (by rw [e]; simp)
      rw [List.cons_append]
      show ((47 : UInt8) == b && _) = false
      rw [show ((47 : UInt8) == b) = false from by rw [beq_eq_false_iff_ne]; exact fun e => hb e.symm]
      rfl
theorem trimP_end {L : List ByteArray} (hg : GoodP L) : (⟨(Lib.trimPrefix (joinP L ++ slashS ++ idxN).data.toList [47]).toArray⟩ : ByteArray) = endP L true := by
  by_cases h : (joinP L).size = 0
  · have h0 : joinP L = ⟨#[]⟩ := bytes_ext (List.eq_nil_of_length_eq_zero (by rw [size_toList]; exact h))
    rw [endP_zero h, h0]
    rfl
  · rw [endP_more h, Lib.trimPrefix, joinP_head hg h]
    apply bytes_ext
    simp
/-- where a decoded target leads from a page's directory -/
noncomputable def resP (L0 : List ByteArray) (s : ByteArray) : Option (List ByteArray) := walkP (if Lib.hasPrefix s.data.toList [47] = true then [] else L0) (cutP s)
def lastP (s : ByteArray) : List UInt8 := ((cutP s).getLastD ⟨#[]⟩).data.toList

end Go.Proofs.YtbhildmalcfhiaaGreatDoor

namespace Go.Proofs.YtbhildmalcfhiaaGreatDoor
open Go.RowKit Go.Deep

theorem emptyP_false {s : ByteArray} (h : ¬ s.size = 0) : s.toList.isEmpty = false := by
  have hne : ¬ s.data.toList = [] := by intro hs; exact absurd (by rw [← size_toList, hs]; rfl) h
  have h2 : ¬ s.toList = [] := by rw [Go.ByteArray.toList_eq]; exact hne
  cases hs : s.toList with | nil => exact absurd hs h2 | cons a r => rfl
theorem emptyP_true {s : ByteArray} (h : s.size = 0) : s.toList = [] := by rw [Go.ByteArray.toList_eq]; exact List.eq_nil_of_length_eq_zero (by rw [size_toList]; exact h)
def SpPost2 (s : ByteArray) (n : Nat) (w : World) (e : Ending) (w' : World) : Prop := e = .returned (.slice (some ⟨w.heap.size, 0, none⟩) n n) ∧ PL w' (.slice (some ⟨w.heap.size, 0, none⟩) n n) (cutP s) ∧ Below w.heap.size w w'
theorem splitS_q2 (s : ByteArray) (n : Nat) (w : World) (hm : MaxAt w) (hs : s.size ≤ 1048576) (hn : (cutP s).length = n) : Calls Tryz.prog 54 #[.string s, .string ⟨#[47]⟩] w (SpPost2 s n w) := by
  subst hn; exact splitS_q s w hm hs
/-- what leads returns -/
def leadsV (o : Option (List ByteArray)) (d : Bool) : Value := match o with
  | some L => .tuple #[.string (endP L d), .bool d, .bool true]
  | none => .tuple #[.string ⟨#[]⟩, .bool false, .bool false]
def LeadsPost (o : Option (List ByteArray)) (d : Bool) (w : World) (e : Ending) (w' : World) : Prop := e = .returned (leadsV o d) ∧ Below w.heap.size w w'

set_option maxRecDepth 100000 in
set_option maxHeartbeats 8000000 in
theorem leads_q (f t s : ByteArray) (o : Option (List ByteArray)) (d : Bool) (w : World) (hm : MaxAt w) (hp : pathB f = true) (ht : t.size ≤ 1048000) (hs : decS t = s) (ho : resP (pageP f) s = o) (hd : dirL (lastP s) = d) :
    Calls Tryz.prog 120 #[.string f, .string t] w (LeadsPost o d w) := by
  have hss : s.size ≤ 1048000 := by have := decS_le t; rw [hs] at this; omega
  have hfs : f.size ≤ 200 := path_size hp
  have HS := Lib.hid hs; clear hs
  have HP := Lib.hid hp; clear hp
  obtain ⟨q, hq⟩ : ∃ q, (cutP f).length = q + 1 := ⟨(cutP f).length - 1, by have := cutP_ne f; omega⟩
  have hq2 : q ≤ 201 := by have := cutP_len f; omega
  obtain ⟨r, hr⟩ : ∃ r, (cutP s).length = r + 1 := ⟨(cutP s).length - 1, by have := cutP_ne s; omega⟩
  have hr2 : r ≤ 1048001 := by have := cutP_len s; omega
  have HQ := Lib.hid hq; clear hq
  have HR := Lib.hid hr; clear hr
  obtain ⟨last, hlast⟩ : ∃ x, (cutP s)[r]? = some x := ⟨_, List.getElem?_eq_getElem (by rw [HR.out]; omega)⟩
  have HLa := Lib.hid (show dirL last.data.toList = d by
    rw [← hd, lastP, List.getLastD_eq_getLast?, List.getLast?_eq_getElem?, HR.out, Nat.add_sub_cancel, hlast]; rfl)
  have HLc := Lib.hid hlast
  clear hlast hd
  obtain ⟨bp, hbp⟩ : ∃ bp, Lib.hasPrefix s.data.toList (⟨#[47]⟩ : ByteArray).data.toList = bp := ⟨_, rfl⟩
  have HBp := Lib.hid hbp
  have HO0 := Lib.hid (show o = walkP (if bp = true then [] else pageP f) (cutP s) by rw [← ho, resP]; rw [show Lib.hasPrefix s.data.toList [47] = bp from hbp])
  clear hbp ho
  have HM := Lib.hid hm; clear hm
  have HDec := Lib.hid (fun w => by have := decodedR_q t w (by omega); rw [HS.out] at this; exact this : ∀ w, Calls Tryz.prog 158 #[.string t] w fun e w' => e = .returned (.string s) ∧ Below w.heap.size w w')
  have HG := Lib.hid (Below.refl w.heap.size w)
  have HL0 : ∃ (A : Option Addr) (m c : Nat) (L : List ByteArray), m = L.length ∧ L = (if bp = true then [] else pageP f) := ⟨none, _, 0, _, rfl, rfl⟩
  clear HL0
  cases bp
  go_enter Tryz.func120, Tryz.ntmps120
  go_upto_region 6 with (first
    | (go_at_call 158; go_must (refine (HDec.out _).mono ?_); rintro e w1 ⟨rfl, hb⟩; replace HG := Lib.hid (HG.out.trans (hb.mono HG.out.size)); clear hb)
    | (go_at_call 28; go_must (refine (hasPrefix_v _ _ _ _ HBp.out).mono ?_); rintro e w3 ⟨rfl, rfl⟩)
    | (go_at_call 54; go_must (refine (splitS_q2 f _ _ (HM.out.keep (Keeps.of_below HG.out)) (by omega) HQ.out).mono ?_); rintro e w1 ⟨rfl, hpl, hb⟩; replace HG := Lib.hid (HG.out.trans (hb.mono HG.out.size)); have HPL0 := Lib.hid hpl; clear hb hpl))
  have HPL1 := Lib.hid (show PL w1 (.slice (some ⟨_, 0, none⟩) q (q + 1)) (pageP f) from by have := HPL0.out.init; rw [Nat.add_sub_cancel] at this; exact this)
  have HL := Lib.hid (show (pageP f).length = q by rw [pageP, List.length_dropLast, HQ.out, Nat.add_sub_cancel])
  clear HPL0
  have HW0 := Lib.hid (show WalkP o (pageP f) (cutP s) 0 (f.size + 1) from ⟨HO0.out, pageP_good HP.out, by have := pageP_sum f; omega⟩)
  obtain ⟨L, hL⟩ : ∃ L, pageP f = L := ⟨_, rfl⟩
  rw [hL] at HPL1 HL HW0
  clear hL
  have hql : q ≤ 201 := hq2
  rotate_left
  go_enter Tryz.func120, Tryz.ntmps120
  go_upto_region 6 with (first
    | (go_at_call 158; go_must (refine (HDec.out _).mono ?_); rintro e w1 ⟨rfl, hb⟩; replace HG := Lib.hid (HG.out.trans (hb.mono HG.out.size)); clear hb)
    | (go_at_call 28; go_must (refine (hasPrefix_v _ _ _ _ HBp.out).mono ?_); rintro e w3 ⟨rfl, rfl⟩)
    | (go_at_call 54; go_must (refine (splitS_q2 f _ _ (HM.out.keep (Keeps.of_below HG.out)) (by omega) HQ.out).mono ?_); rintro e w1 ⟨rfl, hpl, hb⟩; replace HG := Lib.hid (HG.out.trans (hb.mono HG.out.size)); have HPL0 := Lib.hid hpl; clear hb hpl))
  have HPL1 := Lib.hid (PL.nil w1)
  have HL := Lib.hid (show ([] : List ByteArray).length = 0 from rfl)
  have HW0 := Lib.hid (show WalkP o [] (cutP s) 0 (f.size + 1) from ⟨HO0.out, (fun p hp => by cases hp), by simp [strs8, sumL]⟩)
  obtain ⟨L, hL⟩ : ∃ L : List ByteArray, [] = L := ⟨_, rfl⟩
  rw [hL] at HPL1 HL HW0
  clear hL
  have hql : 0 ≤ 201 := by omega
  all_goals
    clear HO0
    go_wp2_with (go_at_call 54; go_must (refine (splitS_q2 s _ _ (HM.out.keep (Keeps.of_below HG.out)) (by omega) HR.out).mono ?_); rintro e w2 ⟨rfl, hpl, hb⟩; have HB2 := Lib.hid (HG.out.trans (hb.mono HG.out.size)); have HPs := Lib.hid hpl; have HPL2 := Lib.hid (HPL1.out.keep (Keeps.of_below hb)); clear HG HPL1 hb hpl)
    go_loopw [8, 30] (fun t8 t30 wr => ∃ (k m : Nat) (L : List ByteArray) (A : Option Addr) (c : Nat), k ≤ r + 1 ∧ t8 = .slice A m c ∧ t30 = .int .i64 k ∧ Hid (L.length = m) ∧ Hid (PL wr (.slice A m c) L) ∧ Hid (WalkP o L (cutP s) k (f.size + 1)) ∧ Hid (Below w2.heap.size w2 wr)) (fun _ t30 _ => r + 1 - (intOf t30).toNat)
    case atStart => exact ⟨0, _, L, _, _, Nat.zero_le _, rfl, rfl, HL, HPL2, HW0, Below.refl _ _⟩
    case round =>
      clear HPL2 HW0 HL hql
      obtain ⟨k, m, L, A, c, hk, rfl, rfl, HmL, HPL, HW, HB⟩ := hrel
      have hroom := HW.out.room
      have hm2 : m ≤ 1048300 := by have := HmL.out; omega
      obtain ⟨A9, c9, b9, o9, hv9, hlc9, hcm9, hA9, hcell9⟩ := HPs.out
      rw [HR.out] at hv9 hlc9
      obtain rfl : (some ⟨w1.heap.size, 0, none⟩ : Option Addr) = A9 := by injection hv9
      obtain rfl : r + 1 = c9 := by injection hv9
      have hA10 : (⟨b9, o9, none⟩ : Addr) = ⟨w1.heap.size, 0, none⟩ := by
        rcases hA9 with h | h
        · cases h.1
        · injection h with h; exact h.symm
      cases hA10
      have HC := Lib.hid hcell9
      clear hv9 hlc9 hcm9 hA9 hcell9
      by_cases hlt : k < r + 1
      · obtain ⟨p, hp⟩ : ∃ p, (cutP s)[k]? = some p := ⟨_, List.getElem?_eq_getElem (by rw [HR.out]; exact hlt)⟩
        have p0 := Keeps.of_below HB.out _ _ (HC.out k p hp)
        rw [Nat.zero_add] at p0
        have hpsz : p.size ≤ 1048000 := by have := cutP_size (List.mem_of_getElem? hp); omega
        have HPp := Lib.hid hp
        clear hp
        have hlt2 : (k : Int) < (r : Int) + 1 := by omega
        have HNo := Lib.hid (show ∀ p ∈ cutP s, (47 : UInt8) ∉ p.data.toList from fun p hp => cutP_no hp)
        by_cases h0 : p.size = 0
        · have e0 := emptyP_true h0
          have HS2 := Lib.hid (HW.out.step HPp.out (stepP_same (Or.inl (by rw [← Go.ByteArray.toList_eq]; exact e0))) HNo.out)
          go_wp2_with fail
          go_roundw
          case rel => exact ⟨k + 1, m, L, A, c, by omega, rfl, by go_num, HmL, HPL, HS2, HB⟩
          case measure => simp [intOf]; omega
        have e0 := emptyP_false h0
        by_cases h1 : p.toList = [46]
        · have HS2 := Lib.hid (HW.out.step HPp.out (stepP_same (Or.inr (by rw [← Go.ByteArray.toList_eq]; exact h1))) HNo.out)
          have f2 : p.size = 1 := by rw [← size_toList, ← Go.ByteArray.toList_eq, h1]; rfl
          go_wp2_with fail
          go_roundw
          case rel => exact ⟨k + 1, m, L, A, c, by omega, rfl, by go_num, HmL, HPL, HS2, HB⟩
          case measure => simp [intOf]; omega
        have f1 : (p.toList == [46]) = false := by simpa using h1
        by_cases h2 : p.toList = [46, 46]
        · have f2 : p.size = 2 := by rw [← size_toList, ← Go.ByteArray.toList_eq, h2]; rfl
          have h2d : p.data.toList = [46, 46] := by rw [← Go.ByteArray.toList_eq]; exact h2
          by_cases hm0 : m = 0
          · subst hm0
            obtain rfl : L = [] := List.eq_nil_of_length_eq_zero HmL.out
            have HX := Lib.hid (HW.out.bad HPp.out (stepP_up0 h2d))
            clear h1 h2d
            go_wp2_with fail
            go_ret3
            obtain rfl := HX.out
            exact ⟨rfl, HB2.out.trans (HB.out.mono HB2.out.size)⟩
          obtain ⟨q9, rfl⟩ : ∃ q, m = q + 1 := ⟨m - 1, by omega⟩
          have hLn : L ≠ [] := by intro e; rw [e] at HmL; have := HmL.out; simp at this
          have HS2 := Lib.hid (HW.out.step HPp.out (stepP_up h2d hLn) HNo.out)
          have HPL3 := Lib.hid (show PL wr (.slice A q9 c) L.dropLast by have := HPL.out.init; rw [show q9 + 1 - 1 = q9 by omega] at this; exact this)
          have hqc : q9 + 1 ≤ c := by obtain ⟨A9, c9, _, _, h9, h8, _⟩ := HPL.out; have h7 := HmL.out; injection h9 with _ _ e3; omega
          clear h1 h2d hm0 hLn
          go_wp2_with fail
          go_roundw
          case rel => exact ⟨k + 1, q9, L.dropLast, A, c, by omega, by first | rfl | go_num, by go_num, Lib.hid (by rw [List.length_dropLast, HmL.out]; omega), HPL3, HS2, HB⟩
          case measure => simp [intOf]; omega
        have f3 : (p.toList == [46, 46]) = false := by simpa using h2
        have HS2 := Lib.hid (HW.out.step HPp.out (stepP_push (by
          rw [← Go.ByteArray.toList_eq]
          rintro (h | h)
          · rw [h] at e0; cases e0
          · exact h1 h) (by rw [← Go.ByteArray.toList_eq]; exact h2)) HNo.out)
        clear h1 h2
        have hbs := HB.out.size
        have HP1 := Lib.hid (HPL.out.keep (Keeps.of_below ((Below.refl wr.heap.size wr).alloc (Nat.le_refl _) (.cells #[] 9))))
        go_wp2_with (first
          | (at_builtin; go_loud (refine wpList_copy0 _ rfl (.tmp 35) (.tmp 36) 23 rfl 9 _ 16 Tryz.underlying23 info_strR rfl wr.heap.size _ rfl (own_fresh0 _ _) (by simp) A m c L rfl HP1.out (by omega) (by unfold maxLen; omega) ?_); intro A5 c5 w5 own5 hb5)
          | (at_builtin; go_loud (have hh := own_alloc own5 (.cells #[.string p] 9); have k1 : (m + 1) * 16 ≤ 140737488355328 := (by omega); have k2 : m + 1 ≤ maxLen := (by unfold maxLen; omega); have k3 : wr.heap.size ≤ (w5.alloc (.cells #[.string p] 9)).heap.size := (by have := hb5.size; simp at *; omega); have k4 := cell_new w5 [.string p] 9 w5.heap.size rfl; go_must (refine wpList_push _ rfl (.tmp 37) (.tmp 39) 23 rfl wr.heap.size 9 _ 1 16 Tryz.underlying23 info_strR rfl (by omega) (.slice A5 m c5) m _ rfl hh [.string p] rfl _ rfl k4 (one_str _) k1 k2 k3 ?_); clear hh k1 k2 k3 k4; intro g6 c6 w6 own6 hg6 hgg6 hb6)))
        have HPL6 := Lib.hid (PL.of_own (l := L ++ [p]) (by rw [pstrs_push]; exact own6))
        have HB6 := Lib.hid (HB.out.trans (((((Below.refl wr.heap.size wr).alloc (Nat.le_refl _) (.cells #[] 9)).trans hb5).alloc (by have := hb5.size; simp at *; omega) (.cells #[.string p] 9)).trans hb6 |>.mono hbs))
        clear own5 hb5 own6 hg6 hgg6 hb6
        go_roundw
        case rel => exact ⟨k + 1, m + 1, L ++ [p], some ⟨g6, 0, none⟩, c6, by omega, rfl, by go_num, Lib.hid (by rw [List.length_append, HmL.out]; rfl), HPL6, HS2, HB6⟩
        case measure => simp [intOf]; omega
      · have hke : k = r + 1 := by omega
        have hlt2 : ¬ (k : Int) < (r : Int) + 1 := by omega
        have HX := Lib.hid (HW.out.fin (by rw [HR.out]; omega))
        have HGd := Lib.hid HW.out.good
        have p0 := Keeps.of_below HB.out _ _ (HC.out r last HLc.out)
        rw [Nat.zero_add] at p0
        have hsum := hroom.1
        obtain ⟨x, hx⟩ : ∃ x, joinP L = x := ⟨_, rfl⟩
        have hxs : x.size ≤ 1048300 := by
          have := join_le (strs8 L)
          have h2 : x.size = (Lib.join (strs8 L) [47]).length := by rw [← hx, ← size_toList]; rfl
          omega
        have HJ := Lib.hid (fun w (h : PL w (.slice A m c) L) => by have := joinP_q L _ w h (by omega); rw [hx] at this; exact this)
        have HXx := Lib.hid hx
        clear hx hsum hroom hke
        by_cases h0 : last.size = 0
        · have e0 := emptyP_true h0
          obtain rfl : true = d := by rw [← HLa.out, dirL, show last.data.toList = [] by rw [← Go.ByteArray.toList_eq]; exact e0]; rfl
          clear HLa
          by_cases hx0 : x.size = 0
          · obtain rfl : x = ⟨#[]⟩ := bytes_ext (List.eq_nil_of_length_eq_zero (by rw [size_toList]; exact hx0))
            clear hx0
            have HV := Lib.hid (show leadsV o true = .tuple #[.string idxN, .bool true, .bool true] by rw [HX.out]; show Value.tuple #[.string (endP L true), _, _] = _; rw [endP_zero (by rw [HXx.out]; rfl)])
            go_wp2_with (go_at_call 115; go_must (refine (HJ.out _ HPL.out).mono ?_); rintro e w3 ⟨rfl, hb⟩; have HB3 := Lib.hid (HB2.out.trans ((HB.out.trans (hb.mono HB.out.size)).mono HB2.out.size)); clear hb)
            go_ret3
            exact ⟨by rw [HV.out]; rfl, HB3.out⟩
          · have e1 := emptyP_false hx0
            have e2 : (x.toList == []) = false := by cases hh : x.toList with | nil => rw [hh] at e1; cases e1 | cons a b => rfl
            obtain ⟨z1, hz1⟩ : ∃ z, x ++ (⟨#[47]⟩ : ByteArray) = z := ⟨_, rfl⟩
            obtain ⟨z, hz⟩ : ∃ z, z1 ++ (⟨#[105, 110, 100, 101, 120, 46, 104, 116, 109, 108]⟩ : ByteArray) = z := ⟨_, rfl⟩
            have hq1 : x.size + 1 ≤ 9223372036854775807 := by omega
            have hq2 : z1.size + 10 ≤ 9223372036854775807 := by rw [← hz1, ByteArray.size_append, show (⟨#[47]⟩ : ByteArray).size = 1 from rfl]; omega
            have HV := Lib.hid (show leadsV o true = .tuple #[.string z, .bool true, .bool true] by rw [HX.out]; show Value.tuple #[.string (endP L true), _, _] = _; rw [endP_more (by rw [HXx.out]; exact hx0), HXx.out, ← hz, ← hz1]; rfl)
            clear hx0
            go_wp2_with (go_at_call 115; go_must (refine (HJ.out _ HPL.out).mono ?_); rintro e w3 ⟨rfl, hb⟩; have HB3 := Lib.hid (HB2.out.trans ((HB.out.trans (hb.mono HB.out.size)).mono HB2.out.size)); clear hb)
            go_ret3
            exact ⟨by rw [HV.out]; rfl, HB3.out⟩
        have e0 := emptyP_false h0
        by_cases h1 : last.toList = [46]
        · obtain rfl : true = d := by rw [← HLa.out, dirL, show last.data.toList = [46] by rw [← Go.ByteArray.toList_eq]; exact h1]; rfl
          have f2 : last.size = 1 := by rw [← size_toList, ← Go.ByteArray.toList_eq, h1]; rfl
          clear HLa
          by_cases hx0 : x.size = 0
          · obtain rfl : x = ⟨#[]⟩ := bytes_ext (List.eq_nil_of_length_eq_zero (by rw [size_toList]; exact hx0))
            clear hx0
            have HV := Lib.hid (show leadsV o true = .tuple #[.string idxN, .bool true, .bool true] by rw [HX.out]; show Value.tuple #[.string (endP L true), _, _] = _; rw [endP_zero (by rw [HXx.out]; rfl)])
            go_wp2_with (go_at_call 115; go_must (refine (HJ.out _ HPL.out).mono ?_); rintro e w3 ⟨rfl, hb⟩; have HB3 := Lib.hid (HB2.out.trans ((HB.out.trans (hb.mono HB.out.size)).mono HB2.out.size)); clear hb)
            go_ret3
            exact ⟨by rw [HV.out]; rfl, HB3.out⟩
          · have e1 := emptyP_false hx0
            have e2 : (x.toList == []) = false := by cases hh : x.toList with | nil => rw [hh] at e1; cases e1 | cons a b => rfl
            obtain ⟨z1, hz1⟩ : ∃ z, x ++ (⟨#[47]⟩ : ByteArray) = z := ⟨_, rfl⟩
            obtain ⟨z, hz⟩ : ∃ z, z1 ++ (⟨#[105, 110, 100, 101, 120, 46, 104, 116, 109, 108]⟩ : ByteArray) = z := ⟨_, rfl⟩
            have hq1 : x.size + 1 ≤ 9223372036854775807 := by omega
            have hq2 : z1.size + 10 ≤ 9223372036854775807 := by rw [← hz1, ByteArray.size_append, show (⟨#[47]⟩ : ByteArray).size = 1 from rfl]; omega
            have HV := Lib.hid (show leadsV o true = .tuple #[.string z, .bool true, .bool true] by rw [HX.out]; show Value.tuple #[.string (endP L true), _, _] = _; rw [endP_more (by rw [HXx.out]; exact hx0), HXx.out, ← hz, ← hz1]; rfl)
            clear hx0
            go_wp2_with (go_at_call 115; go_must (refine (HJ.out _ HPL.out).mono ?_); rintro e w3 ⟨rfl, hb⟩; have HB3 := Lib.hid (HB2.out.trans ((HB.out.trans (hb.mono HB.out.size)).mono HB2.out.size)); clear hb)
            go_ret3
            exact ⟨by rw [HV.out]; rfl, HB3.out⟩
        have f1 : (last.toList == [46]) = false := by simpa using h1
        by_cases h2 : last.toList = [46, 46]
        · obtain rfl : true = d := by rw [← HLa.out, dirL, show last.data.toList = [46, 46] by rw [← Go.ByteArray.toList_eq]; exact h2]; rfl
          have f2 : last.size = 2 := by rw [← size_toList, ← Go.ByteArray.toList_eq, h2]; rfl
          clear HLa h1
          by_cases hx0 : x.size = 0
          · obtain rfl : x = ⟨#[]⟩ := bytes_ext (List.eq_nil_of_length_eq_zero (by rw [size_toList]; exact hx0))
            clear hx0
            have HV := Lib.hid (show leadsV o true = .tuple #[.string idxN, .bool true, .bool true] by rw [HX.out]; show Value.tuple #[.string (endP L true), _, _] = _; rw [endP_zero (by rw [HXx.out]; rfl)])
            go_wp2_with (go_at_call 115; go_must (refine (HJ.out _ HPL.out).mono ?_); rintro e w3 ⟨rfl, hb⟩; have HB3 := Lib.hid (HB2.out.trans ((HB.out.trans (hb.mono HB.out.size)).mono HB2.out.size)); clear hb)
            go_ret3
            exact ⟨by rw [HV.out]; rfl, HB3.out⟩
          · have e1 := emptyP_false hx0
            have e2 : (x.toList == []) = false := by cases hh : x.toList with | nil => rw [hh] at e1; cases e1 | cons a b => rfl
            obtain ⟨z1, hz1⟩ : ∃ z, x ++ (⟨#[47]⟩ : ByteArray) = z := ⟨_, rfl⟩
            obtain ⟨z, hz⟩ : ∃ z, z1 ++ (⟨#[105, 110, 100, 101, 120, 46, 104, 116, 109, 108]⟩ : ByteArray) = z := ⟨_, rfl⟩
            have hq1 : x.size + 1 ≤ 9223372036854775807 := by omega
            have hq2 : z1.size + 10 ≤ 9223372036854775807 := by rw [← hz1, ByteArray.size_append, show (⟨#[47]⟩ : ByteArray).size = 1 from rfl]; omega
            have HV := Lib.hid (show leadsV o true = .tuple #[.string z, .bool true, .bool true] by rw [HX.out]; show Value.tuple #[.string (endP L true), _, _] = _; rw [endP_more (by rw [HXx.out]; exact hx0), HXx.out, ← hz, ← hz1]; rfl)
            clear hx0
            go_wp2_with (go_at_call 115; go_must (refine (HJ.out _ HPL.out).mono ?_); rintro e w3 ⟨rfl, hb⟩; have HB3 := Lib.hid (HB2.out.trans ((HB.out.trans (hb.mono HB.out.size)).mono HB2.out.size)); clear hb)
            go_ret3
            exact ⟨by rw [HV.out]; rfl, HB3.out⟩
        have f3 : (last.toList == [46, 46]) = false := by simpa using h2
        obtain rfl : false = d := by
          rw [← HLa.out, dirL, ← Go.ByteArray.toList_eq, f1, f3]
          cases hh : last.toList with
          | nil => rw [hh] at e0; cases e0
          | cons a b => rfl
        have HV := Lib.hid (show leadsV o false = .tuple #[.string x, .bool false, .bool true] by rw [HX.out]; show Value.tuple #[.string (endP L false), _, _] = _; rw [endP_no, HXx.out])
        clear h1 h2 h0 HLa
        go_wp2_with (go_at_call 115; go_must (refine (HJ.out _ HPL.out).mono ?_); rintro e w3 ⟨rfl, hb⟩; have HB3 := Lib.hid (HB2.out.trans ((HB.out.trans (hb.mono HB.out.size)).mono HB2.out.size)); clear hb)
        go_ret3
        exact ⟨by rw [HV.out]; rfl, HB3.out⟩

end Go.Proofs.YtbhildmalcfhiaaGreatDoor

namespace Go.Proofs.YtbhildmalcfhiaaGreatDoor
open Go.RowKit Go.Deep

def placeC (s : ByteArray) (d z : Bool) : Array Value := #[.string s, .bool d, .bool z]
theorem place_done {fn : Func} {a : Act} {W : World} {Post : Ending → World → Prop} {n : Nat} {cs : Array Value} {ok : Bool} (hfn : fn.results = #[.cell 4 126, .tmp 5]) (hb : CB W n 126 cs) (hs : cs.size = 3)
    (hp : a.tmps.getD 4 undef = .pointer (some ⟨n, 0, none⟩)) (hc : a.tmps.getD 5 undef = .bool ok) (hd : a.defers = []) (h : Post (.returned (.tuple #[.agg cs, .bool ok])) W) : bodyPost Tryz.prog fn Post .ret a W := by
  refine bodyPost_ret ?_ hd h
  rw [results_cell_tmp hfn, hp, hc]
  have h2 := run_loadVar_row (P := Tryz.prog) W n 126 126 cs (0, 0) _ hb Tryz.underlying126 rfl (by rw [hs]; kernel_rfl)
  simp [asAddr, h2, Result.andThen]
def bareS (t : ByteArray) : ByteArray := ⟨(bareA t.data.toList).toArray⟩
/-- what resolved returns -/
def resV (f t : ByteArray) (o : Option (List ByteArray)) (d : Bool) : Value :=
  if (bareS t).size = 0 then .tuple #[.agg (placeC f false true), .bool true] else match o with
  | some L => .tuple #[.agg (placeC (endP L d) d false), .bool true]
  | none => .tuple #[.agg (placeC ⟨#[]⟩ false false), .bool false]
def ResPostP (f t : ByteArray) (o : Option (List ByteArray)) (d : Bool) (w : World) (e : Ending) (w' : World) : Prop := e = .returned (resV f t o d) ∧ Below w.heap.size w w'
theorem bareS_le (t : ByteArray) : (bareS t).size ≤ t.size := by
  have h1 : ∀ (c : UInt8) (l : List UInt8), (bef c l).length ≤ l.length := fun c l => by
    have := congrArg List.length (bef_aft c l)
    rw [List.length_append] at this; omega
  have h2 := h1 63 (bef 35 t.data.toList)
  have h3 := h1 35 t.data.toList
  rw [size_toList] at h3
  show (bareA t.data.toList).length ≤ _
  unfold bareA
  omega
/-- a cut, with its piece named -/
theorem cutAt_q2 (s x : ByteArray) (c : UInt8) (n : Int) (w : World) (hn : (c.toNat : Int) = n) (hx : bef c s.data.toList = x.data.toList) :
    Calls Tryz.prog 112 #[.string s, .int .u8 n] w fun e w' => ∃ y : ByteArray, e = .returned (.tuple #[.string x, .string y]) ∧ Below w.heap.size w w' :=
  (cutAt_q s c n w hn).mono fun e w' ⟨x9, y, h1, _, h3, h4⟩ => by
    have : x9 = x := bytes_ext (h1.trans hx)
    subst this
    exact ⟨y, h3, h4⟩

theorem resV_self {f t : ByteArray} {o : Option (List ByteArray)} {d : Bool} (h : (bareS t).size = 0) : resV f t o d = .tuple #[.agg (placeC f false true), .bool true] := by unfold resV; exact if_pos h
theorem resV_some {f t : ByteArray} {L : List ByteArray} {d : Bool} (h : ¬ (bareS t).size = 0) : resV f t (some L) d = .tuple #[.agg (placeC (endP L d) d false), .bool true] := by unfold resV; exact if_neg h
theorem resV_none {f t : ByteArray} {d : Bool} (h : ¬ (bareS t).size = 0) : resV f t none d = .tuple #[.agg (placeC ⟨#[]⟩ false false), .bool false] := by unfold resV; exact if_neg h


set_option maxRecDepth 100000 in
set_option maxHeartbeats 8000000 in
theorem resolved_q (f t s : ByteArray) (o : Option (List ByteArray)) (d : Bool) (w : World) (hm : MaxAt w) (hp : pathB f = true) (ht : t.size ≤ 1048000) (hs : decS (bareS t) = s) (ho : resP (pageP f) s = o) (hd : dirL (lastP s) = d) :
    Calls Tryz.prog 74 #[.string f, .string t] w (ResPostP f t o d w) := by
  have hfs : f.size ≤ 200 := path_size hp
  have HP := Lib.hid hp; clear hp
  obtain ⟨N, hN⟩ : ∃ N, w.heap.size = N := ⟨_, rfl⟩
  have HB := Lib.hid (show Below N w (w.alloc (.cells #[.string ⟨#[]⟩, .bool false, .bool false] 126)) by rw [← hN]; exact (Below.refl _ _).alloc (Nat.le_refl _) _)
  have HC := Lib.hid (show CB (w.alloc (.cells #[.string ⟨#[]⟩, .bool false, .bool false] 126)) N 126 #[.string ⟨#[]⟩, .bool false, .bool false] by rw [← hN]; exact CB.new _ _ _)
  have HN := Lib.hid hN
  obtain ⟨x1, hx1⟩ : ∃ x : ByteArray, (⟨(bef 35 t.data.toList).toArray⟩ : ByteArray) = x := ⟨_, rfl⟩
  obtain ⟨x2, hx2⟩ : ∃ x : ByteArray, bareS t = x := ⟨_, rfl⟩
  have HX1 := Lib.hid (show bef 35 t.data.toList = x1.data.toList by rw [← hx1])
  have HX2 := Lib.hid (show bef 63 x1.data.toList = x2.data.toList by rw [← hx1, ← hx2]; rfl)
  have HX2s := Lib.hid hx2
  have hx2s : x2.size ≤ 1048000 := by rw [← hx2]; exact Nat.le_trans (bareS_le t) ht
  rw [hx2] at hs
  clear hx1 hx2
  unfold ResPostP
  by_cases h0 : x2.size = 0
  · have e0 := emptyP_true h0
    have HV := Lib.hid (show resV f t o d = .tuple #[.agg (placeC f false true), .bool true] from resV_self (by rw [HX2s.out]; exact h0))
    clear h0
    go_enter Tryz.func74, Tryz.ntmps74
    go_upto_region 2 with (go_at_call 112; go_must (refine (cutAt_q2 t x1 35 _ _ rfl HX1.out).mono ?_); rintro e w1 ⟨y1, rfl, hb⟩; replace HB := Lib.hid (HB.out.trans (hb.mono (Nat.le_of_lt HC.out.lt))); replace HC := Lib.hid (HC.out.below hb); clear hb)
    clear HX1
    go_upto_region 3 with (go_at_call 112; go_must (refine (cutAt_q2 x1 x2 63 _ _ rfl HX2.out).mono ?_); rintro e w2 ⟨y2, rfl, hb⟩; replace HB := Lib.hid (HB.out.trans (hb.mono (Nat.le_of_lt HC.out.lt))); replace HC := Lib.hid (HC.out.below hb); clear hb)
    clear hN
    have c0 : w2.cell? ⟨N, 0, none⟩ = some (.string ⟨#[]⟩) := HC.out.c 0
    have c1 : w2.cell? ⟨N, 1, none⟩ = some (.bool false) := HC.out.c 1
    have c2 : w2.cell? ⟨N, 2, none⟩ = some (.bool false) := HC.out.c 2
    have f0 := HC.out.f 0
    have f1 := HC.out.f 1
    have f2 := HC.out.f 2
    have fs : w2.shape? N = some (126, 3) := HC.out.sh
    go_wp2_with fail
    refine place_done rfl (((HC.out.put 0 _).put 1 _).put 2 _) rfl rfl rfl rfl ⟨by rw [HV.out]; rfl, by rw [HN.out]; exact ((HB.out.setCell (Nat.le_refl _) _).setCell (Nat.le_refl _) _).setCell (Nat.le_refl _) _⟩
  · have e0 := emptyP_false h0
    have e0b : (x2.toList == []) = false := by cases hh : x2.toList with | nil => rw [hh] at e0; cases e0 | cons a b => rfl
    have HX0 := Lib.hid (show ¬ (bareS t).size = 0 by rw [HX2s.out]; exact h0)
    have hss : s.size ≤ 1048000 := by have := decS_le x2; rw [hs] at this; omega
    have HS := Lib.hid hs; clear hs h0
    obtain ⟨ad, had⟩ : ∃ ad, addrS f = ad := ⟨_, rfl⟩
    have HAd := Lib.hid had
    have HPar := Lib.hid (addr_parts HP.out)
    rw [had] at HPar
    have hads : ad.size ≤ 201 := by
      rw [← size_toList, ← had, addrS_yes HP.out, addrL]
      have := size_toList f
      split
      · rw [List.length_take]; simp; omega
      · simp; omega
    clear had
    obtain ⟨q, hq⟩ : ∃ q, (cutP ad).length = q + 2 := ⟨(cutP ad).length - 2, by have := HPar.out.2; omega⟩
    have hq2 : q ≤ 201 := by have := cutP_len ad; omega
    obtain ⟨r, hr⟩ : ∃ r, (cutP s).length = r + 1 := ⟨(cutP s).length - 1, by have := cutP_ne s; omega⟩
    have hr2 : r ≤ 1048001 := by have := cutP_len s; omega
    have HQ := Lib.hid hq; clear hq
    have HR := Lib.hid hr; clear hr
    obtain ⟨last, hlast⟩ : ∃ x, (cutP s)[r]? = some x := ⟨_, List.getElem?_eq_getElem (by rw [HR.out]; omega)⟩
    have HLa := Lib.hid (show dirL last.data.toList = d by
      rw [← hd, lastP, List.getLastD_eq_getLast?, List.getLast?_eq_getElem?, HR.out, Nat.add_sub_cancel, hlast]; rfl)
    have HLc := Lib.hid hlast
    clear hlast hd
    obtain ⟨bp, hbp⟩ : ∃ bp, Lib.hasPrefix s.data.toList (⟨#[47]⟩ : ByteArray).data.toList = bp := ⟨_, rfl⟩
    have HBp := Lib.hid hbp
    have HO0 := Lib.hid (show o = walkP (if bp = true then [] else pageP f) (cutP s) by rw [← ho, resP]; rw [show Lib.hasPrefix s.data.toList [47] = bp from hbp])
    clear hbp ho
    have HM := Lib.hid hm; clear hm
    have HDec := Lib.hid (fun w => by have := decodedP_q x2 w (by omega); rw [HS.out] at this; exact this : ∀ w, Calls Tryz.prog 113 #[.string x2] w fun e w' => e = .returned (.string s) ∧ Below w.heap.size w w')
    go_enter Tryz.func74, Tryz.ntmps74
    go_upto_region 2 with (go_at_call 112; go_must (refine (cutAt_q2 t x1 35 _ _ rfl HX1.out).mono ?_); rintro e w1 ⟨y1, rfl, hb⟩; replace HB := Lib.hid (HB.out.trans (hb.mono (Nat.le_of_lt HC.out.lt))); replace HC := Lib.hid (HC.out.below hb); clear hb)
    clear HX1
    go_upto_region 3 with (go_at_call 112; go_must (refine (cutAt_q2 x1 x2 63 _ _ rfl HX2.out).mono ?_); rintro e w2 ⟨y2, rfl, hb⟩; replace HB := Lib.hid (HB.out.trans (hb.mono (Nat.le_of_lt HC.out.lt))); replace HC := Lib.hid (HC.out.below hb); clear hb)
    clear hN
    have hq3 : (1 : Int) ≤ (q : Int) + 1 := by omega
    have hq4 : (q : Int) + 1 ≤ (q : Int) + 2 := by omega
    cases bp
    go_upto_region 11 with (first
      | (go_at_call 113; go_must (refine (HDec.out _).mono ?_); rintro e w1 ⟨rfl, hb⟩; replace HB := Lib.hid (HB.out.trans (hb.mono (Nat.le_of_lt HC.out.lt))); replace HC := Lib.hid (HC.out.below hb); clear hb)
      | (go_at_call 28; go_must (refine (hasPrefix_v _ _ _ _ HBp.out).mono ?_); rintro e w3 ⟨rfl, rfl⟩)
      | (go_at_call 114; go_must (refine (address_q2 f ad _ HAd.out HP.out (HM.out.keep (Keeps.of_below (by rw [HN.out]; exact HB.out)))).mono ?_); rintro e w1 ⟨rfl, hb⟩; replace HB := Lib.hid (HB.out.trans (hb.mono (Nat.le_of_lt HC.out.lt))); replace HC := Lib.hid (HC.out.below hb); clear hb)
      | (go_at_call 54; go_must (refine (splitS_q2 ad _ _ (HM.out.keep (Keeps.of_below (by rw [HN.out]; exact HB.out))) (by omega) HQ.out).mono ?_); rintro e w1 ⟨rfl, hpl, hb⟩; have HPL0 := Lib.hid hpl; replace HB := Lib.hid (HB.out.trans (hb.mono (Nat.le_of_lt HC.out.lt))); replace HC := Lib.hid (HC.out.below hb); clear hb))
    have HPL1 := Lib.hid (show PL w1 (.slice (some ⟨_, 1, none⟩) (q + 2 - 1 - 1) (q + 1)) (pageP f) from by
      rcases HPL0.out.inner with h | h
      · rw [HPar.out.1] at h; exact h
      · omega)
    have HL := Lib.hid (show (pageP f).length = q + 2 - 1 - 1 by rw [pageP, ← HPar.out.1, List.length_dropLast, List.length_tail, HQ.out])
    clear HPL0
    have HW0 := Lib.hid (show WalkP o (pageP f) (cutP s) 0 (f.size + 1) from ⟨HO0.out, pageP_good HP.out, by have := pageP_sum f; omega⟩)
    obtain ⟨L, hL⟩ : ∃ L, pageP f = L := ⟨_, rfl⟩
    rw [hL] at HPL1 HL HW0
    clear hL
    rotate_left
    go_upto_region 11 with (first
      | (go_at_call 113; go_must (refine (HDec.out _).mono ?_); rintro e w1 ⟨rfl, hb⟩; replace HB := Lib.hid (HB.out.trans (hb.mono (Nat.le_of_lt HC.out.lt))); replace HC := Lib.hid (HC.out.below hb); clear hb)
      | (go_at_call 28; go_must (refine (hasPrefix_v _ _ _ _ HBp.out).mono ?_); rintro e w3 ⟨rfl, rfl⟩))
    have HPL1 := Lib.hid (PL.nil w1)
    have HL := Lib.hid (show ([] : List ByteArray).length = 0 from rfl)
    have HW0 := Lib.hid (show WalkP o [] (cutP s) 0 (f.size + 1) from ⟨HO0.out, (fun p hp => by cases hp), by simp [strs8, sumL]⟩)
    obtain ⟨L, hL⟩ : ∃ L : List ByteArray, [] = L := ⟨_, rfl⟩
    rw [hL] at HPL1 HL HW0
    clear hL
    all_goals
      clear HO0
      go_wp2_with (go_at_call 54; go_must (refine (splitS_q2 s _ _ (HM.out.keep (Keeps.of_below (by rw [HN.out]; exact HB.out))) (by omega) HR.out).mono ?_); rintro e w2 ⟨rfl, hpl, hb⟩; have HPs := Lib.hid hpl; have HPL2 := Lib.hid (HPL1.out.keep (Keeps.of_below hb)); clear HPL1 hpl; replace HB := Lib.hid (HB.out.trans (hb.mono (Nat.le_of_lt HC.out.lt))); replace HC := Lib.hid (HC.out.below hb); clear hb)
      have HB2 := HB
      have HC2 := HC
      clear HB HC
      go_loopw [8, 51] (fun t8 t30 wr => ∃ (k m : Nat) (L : List ByteArray) (A : Option Addr) (c : Nat), k ≤ r + 1 ∧ t8 = .slice A m c ∧ t30 = .int .i64 k ∧ Hid (L.length = m) ∧ Hid (PL wr (.slice A m c) L) ∧ Hid (WalkP o L (cutP s) k (f.size + 1)) ∧ Hid (Below w2.heap.size w2 wr)) (fun _ t30 _ => r + 1 - (intOf t30).toNat)
      case atStart => exact ⟨0, _, L, _, _, Nat.zero_le _, rfl, rfl, HL, HPL2, HW0, Below.refl _ _⟩
      case round =>
        clear HPL2 HW0 HL
        obtain ⟨k, m, L, A, c, hk, rfl, rfl, HmL, HPL, HW, HB⟩ := hrel
        have hroom := HW.out.room
        have hm2 : m ≤ 1048300 := by have := HmL.out; omega
        obtain ⟨A9, c9, b9, o9, hv9, hlc9, hcm9, hA9, hcell9⟩ := HPs.out
        rw [HR.out] at hv9 hlc9
        obtain rfl : (some ⟨w1.heap.size, 0, none⟩ : Option Addr) = A9 := by injection hv9
        obtain rfl : r + 1 = c9 := by injection hv9
        have hA10 : (⟨b9, o9, none⟩ : Addr) = ⟨w1.heap.size, 0, none⟩ := by
          rcases hA9 with h | h
          · cases h.1
          · injection h with h; exact h.symm
        cases hA10
        have HC := Lib.hid hcell9
        clear hv9 hlc9 hcm9 hA9 hcell9
        by_cases hlt : k < r + 1
        · obtain ⟨p, hp⟩ : ∃ p, (cutP s)[k]? = some p := ⟨_, List.getElem?_eq_getElem (by rw [HR.out]; exact hlt)⟩
          have p0 := Keeps.of_below HB.out _ _ (HC.out k p hp)
          rw [Nat.zero_add] at p0
          have hpsz : p.size ≤ 1048000 := by have := cutP_size (List.mem_of_getElem? hp); omega
          have HPp := Lib.hid hp
          clear hp
          have hlt2 : (k : Int) < (r : Int) + 1 := by omega
          have HNo := Lib.hid (show ∀ p ∈ cutP s, (47 : UInt8) ∉ p.data.toList from fun p hp => cutP_no hp)
          by_cases h0 : p.size = 0
          · have e0 := emptyP_true h0
            have HS2 := Lib.hid (HW.out.step HPp.out (stepP_same (Or.inl (by rw [← Go.ByteArray.toList_eq]; exact e0))) HNo.out)
            go_wp2_with fail
            go_roundw
            case rel => exact ⟨k + 1, m, L, A, c, by omega, rfl, by go_num, HmL, HPL, HS2, HB⟩
            case measure => simp [intOf]; omega
          have e0 := emptyP_false h0
          by_cases h1 : p.toList = [46]
          · have HS2 := Lib.hid (HW.out.step HPp.out (stepP_same (Or.inr (by rw [← Go.ByteArray.toList_eq]; exact h1))) HNo.out)
            have f2 : p.size = 1 := by rw [← size_toList, ← Go.ByteArray.toList_eq, h1]; rfl
            go_wp2_with fail
            go_roundw
            case rel => exact ⟨k + 1, m, L, A, c, by omega, rfl, by go_num, HmL, HPL, HS2, HB⟩
            case measure => simp [intOf]; omega
          have f1 : (p.toList == [46]) = false := by simpa using h1
          by_cases h2 : p.toList = [46, 46]
          · have f2 : p.size = 2 := by rw [← size_toList, ← Go.ByteArray.toList_eq, h2]; rfl
            have h2d : p.data.toList = [46, 46] := by rw [← Go.ByteArray.toList_eq]; exact h2
            by_cases hm0 : m = 0
            · subst hm0
              obtain rfl : L = [] := List.eq_nil_of_length_eq_zero HmL.out
              have HX := Lib.hid (HW.out.bad HPp.out (stepP_up0 h2d))
              clear h1 h2d
              have HC := Lib.hid (HC2.out.below HB.out)
              have HB3 := Lib.hid (HB2.out.trans (HB.out.mono (Nat.le_of_lt HC2.out.lt)))
              have c0 : wr.cell? ⟨N, 0, none⟩ = some (.string ⟨#[]⟩) := HC.out.c 0
              have c1 : wr.cell? ⟨N, 1, none⟩ = some (.bool false) := HC.out.c 1
              have c2 : wr.cell? ⟨N, 2, none⟩ = some (.bool false) := HC.out.c 2
              have f0 := HC.out.f 0
              have f1 := HC.out.f 1
              have f2 := HC.out.f 2
              have fs : wr.shape? N = some (126, 3) := HC.out.sh
              go_wp2_with fail
              obtain rfl := HX.out
              refine place_done rfl (((HC.out.put 0 _).put 1 _).put 2 _) rfl rfl rfl rfl ⟨by rw [resV_none HX0.out]; rfl, by rw [HN.out]; exact ((HB3.out.setCell (Nat.le_refl _) _).setCell (Nat.le_refl _) _).setCell (Nat.le_refl _) _⟩
            obtain ⟨q9, rfl⟩ : ∃ q, m = q + 1 := ⟨m - 1, by omega⟩
            have hLn : L ≠ [] := by intro e; rw [e] at HmL; have := HmL.out; simp at this
            have HS2 := Lib.hid (HW.out.step HPp.out (stepP_up h2d hLn) HNo.out)
            have HPL3 := Lib.hid (show PL wr (.slice A q9 c) L.dropLast by have := HPL.out.init; rw [show q9 + 1 - 1 = q9 by omega] at this; exact this)
            have hqc : q9 + 1 ≤ c := by obtain ⟨A9, c9, _, _, h9, h8, _⟩ := HPL.out; have h7 := HmL.out; injection h9 with _ _ e3; omega
            clear h1 h2d hm0 hLn
            go_wp2_with fail
            go_roundw
            case rel => exact ⟨k + 1, q9, L.dropLast, A, c, by omega, by first | rfl | go_num, by go_num, Lib.hid (by rw [List.length_dropLast, HmL.out]; omega), HPL3, HS2, HB⟩
            case measure => simp [intOf]; omega
          have f3 : (p.toList == [46, 46]) = false := by simpa using h2
          have HS2 := Lib.hid (HW.out.step HPp.out (stepP_push (by
            rw [← Go.ByteArray.toList_eq]
            rintro (h | h)
            · rw [h] at e0; cases e0
            · exact h1 h) (by rw [← Go.ByteArray.toList_eq]; exact h2)) HNo.out)
          clear h1 h2
          have hbs := HB.out.size
          go_wp2_with (first
            | (at_builtin; go_loud (refine wpList_copy _ rfl (.const (.slice none 0 0)) (.tmp 56) 23 rfl 9 _ 16 Tryz.underlying23 info_strR rfl rfl A m c L rfl HPL.out (by omega) (by unfold maxLen; omega) ?_); intro A5 c5 w5 own5 hb5)
            | (at_builtin; go_loud (have hh := own_alloc own5 (.cells #[.string p] 9); have k1 : (m + 1) * 16 ≤ 140737488355328 := (by omega); have k2 : m + 1 ≤ maxLen := (by unfold maxLen; omega); have k3 : wr.heap.size ≤ (w5.alloc (.cells #[.string p] 9)).heap.size := (by have := hb5.size; simp at *; omega); have k4 := cell_new w5 [.string p] 9 w5.heap.size rfl; go_must (refine wpList_push _ rfl (.tmp 57) (.tmp 59) 23 rfl wr.heap.size 9 _ 1 16 Tryz.underlying23 info_strR rfl (by omega) (.slice A5 m c5) m _ rfl hh [.string p] rfl _ rfl k4 (one_str _) k1 k2 k3 ?_); clear hh k1 k2 k3 k4; intro g6 c6 w6 own6 hg6 hgg6 hb6)))
          have HPL6 := Lib.hid (PL.of_own (l := L ++ [p]) (by rw [pstrs_push]; exact own6))
          have HB6 := Lib.hid (HB.out.trans ((hb5.alloc (by have := hb5.size; simp at *; omega) (.cells #[.string p] 9)).trans hb6 |>.mono hbs))
          clear own5 hb5 own6 hg6 hgg6 hb6
          go_roundw
          case rel => exact ⟨k + 1, m + 1, L ++ [p], some ⟨g6, 0, none⟩, c6, by omega, rfl, by go_num, Lib.hid (by rw [List.length_append, HmL.out]; rfl), HPL6, HS2, HB6⟩
          case measure => simp [intOf]; omega
        · have hke : k = r + 1 := by omega
          have hlt2 : ¬ (k : Int) < (r : Int) + 1 := by omega
          have HX := Lib.hid (HW.out.fin (by rw [HR.out]; omega))
          have HGd := Lib.hid HW.out.good
          have p0 := Keeps.of_below HB.out _ _ (HC.out r last HLc.out)
          rw [Nat.zero_add] at p0
          have hsum := hroom.1
          obtain ⟨x, hx⟩ : ∃ x, joinP L = x := ⟨_, rfl⟩
          have hxs : x.size ≤ 1048300 := by
            have := join_le (strs8 L)
            have h2 : x.size = (Lib.join (strs8 L) [47]).length := by rw [← hx, ← size_toList]; rfl
            omega
          have HJ := Lib.hid (fun w (h : PL w (.slice A m c) L) => by have := joinP_q L _ w h (by omega); rw [hx] at this; exact this)
          have HXx := Lib.hid hx
          clear hx hsum hroom hke
          by_cases h0 : last.size = 0
          · have e0 := emptyP_true h0
            obtain rfl : true = d := by rw [← HLa.out, dirL, show last.data.toList = [] by rw [← Go.ByteArray.toList_eq]; exact e0]; rfl
            clear HLa
            obtain ⟨z1, hz1⟩ : ∃ z, x ++ (⟨#[47]⟩ : ByteArray) = z := ⟨_, rfl⟩
            obtain ⟨z0, hz0⟩ : ∃ z, z1 ++ (⟨#[105, 110, 100, 101, 120, 46, 104, 116, 109, 108]⟩ : ByteArray) = z := ⟨_, rfl⟩
            have hq1 : x.size + 1 ≤ 9223372036854775807 := by omega
            have hq2 : z1.size + 10 ≤ 9223372036854775807 := by rw [← hz1, ByteArray.size_append, show (⟨#[47]⟩ : ByteArray).size = 1 from rfl]; omega
            obtain ⟨z, hz⟩ : ∃ z, endP L true = z := ⟨_, rfl⟩
            have HV := Lib.hid (show resV f t o true = .tuple #[.agg (placeC z true false), .bool true] by rw [HX.out, resV_some HX0.out, hz])
            have HTr := Lib.hid (fun w => by
              have h9 := Tryz.strings_TrimPrefix z0 ⟨#[47]⟩ w
              have h8 := trimP_end HGd.out
              rw [HXx.out] at h8
              rw [← hz0, ← hz1] at h9
              rw [show (x ++ (⟨#[47]⟩ : ByteArray) ++ (⟨#[105, 110, 100, 101, 120, 46, 104, 116, 109, 108]⟩ : ByteArray)) = x ++ slashS ++ idxN from rfl, show (⟨#[47]⟩ : ByteArray).data.toList = [47] from rfl, h8, hz] at h9
              rw [← hz0, ← hz1]
              exact h9 : ∀ w, Calls Tryz.prog 116 #[.string z0, .string ⟨#[47]⟩] w fun e w' => e = .returned (.string z) ∧ w' = w)
            clear hz
            go_upto_region 26 with (go_at_call 115; go_must (refine (HJ.out _ HPL.out).mono ?_); rintro e w3 ⟨rfl, hb⟩; have HB3 := Lib.hid (HB2.out.trans ((HB.out.trans (hb.mono HB.out.size)).mono (Nat.le_of_lt HC2.out.lt))); have HC3 := Lib.hid (HC2.out.below (HB.out.trans (hb.mono HB.out.size))); clear hb)
            obtain ⟨T, hT⟩ : ∃ T, w3.heap.size = T := ⟨_, rfl⟩
            have hTN : ¬ T = N := by have := HC3.out.lt; omega
            have hNT : ¬ N = T := fun e => hTN e.symm
            have hNw : N ≤ T := by have := HC3.out.lt; omega
            rw [hT]
            obtain ⟨W4, hW⟩ : ∃ W, w3.alloc (.cells #[.string x, .bool false, .bool false] 126) = W := ⟨_, rfl⟩
            have HBW4 := Lib.hid (show Below N w W4 by rw [← hW]; exact (HB3.out.alloc (by omega) _))
            have HNW4 := Lib.hid (show CB W4 N 126 #[.string ⟨#[]⟩, .bool false, .bool false] by rw [← hW]; exact HC3.out.alloc _)
            have HTW4 := Lib.hid (show CB W4 T 126 #[.string x, .bool false, .bool false] by rw [← hW]; exact (by rw [← hT]; exact CB.new _ _ _))
            rw [hW]
            clear hW
            clear hT
            have c0 : W4.cell? ⟨N, 0, none⟩ = some (.string ⟨#[]⟩) := HNW4.out.c 0
            have c1 : W4.cell? ⟨N, 1, none⟩ = some (.bool false) := HNW4.out.c 1
            have c2 : W4.cell? ⟨N, 2, none⟩ = some (.bool false) := HNW4.out.c 2
            have f0 := HNW4.out.f 0
            have f1 := HNW4.out.f 1
            have f2 := HNW4.out.f 2
            have fs : W4.shape? N = some (126, 3) := HNW4.out.sh
            have d0 : W4.cell? ⟨T, 0, none⟩ = some (.string x) := HTW4.out.c 0
            have d1 : W4.cell? ⟨T, 1, none⟩ = some (.bool false) := HTW4.out.c 1
            have d2 : W4.cell? ⟨T, 2, none⟩ = some (.bool false) := HTW4.out.c 2
            have g0 := HTW4.out.f 0
            have g1 := HTW4.out.f 1
            have gs : W4.shape? T = some (126, 3) := HTW4.out.sh
            go_upto_region 28 with fail
            clear c0 c1 c2 f0 f1 f2 fs d0 d1 d2 g0 g1 gs
            obtain ⟨W5, hW⟩ : ∃ W, W4.setCell ⟨T, 1, none⟩ (.bool true) = W := ⟨_, rfl⟩
            have HBW5 := Lib.hid (show Below N w W5 by rw [← hW]; exact (HBW4.out.setCell hNw _))
            have HNW5 := Lib.hid (show CB W5 N 126 #[.string ⟨#[]⟩, .bool false, .bool false] by rw [← hW]; exact HNW4.out.other (grown_setB _ _ _ _) (by simp [hNT]))
            have HTW5 := Lib.hid (show CB W5 T 126 #[.string x, .bool true, .bool false] by rw [← hW]; exact (HTW4.out.put 1 _))
            rw [hW]
            clear hW
            have c0 : W5.cell? ⟨N, 0, none⟩ = some (.string ⟨#[]⟩) := HNW5.out.c 0
            have c1 : W5.cell? ⟨N, 1, none⟩ = some (.bool false) := HNW5.out.c 1
            have c2 : W5.cell? ⟨N, 2, none⟩ = some (.bool false) := HNW5.out.c 2
            have f0 := HNW5.out.f 0
            have f1 := HNW5.out.f 1
            have f2 := HNW5.out.f 2
            have fs : W5.shape? N = some (126, 3) := HNW5.out.sh
            have d0 : W5.cell? ⟨T, 0, none⟩ = some (.string x) := HTW5.out.c 0
            have d1 : W5.cell? ⟨T, 1, none⟩ = some (.bool true) := HTW5.out.c 1
            have d2 : W5.cell? ⟨T, 2, none⟩ = some (.bool false) := HTW5.out.c 2
            have g0 := HTW5.out.f 0
            have g1 := HTW5.out.f 1
            have gs : W5.shape? T = some (126, 3) := HTW5.out.sh
            go_upto_region 29 with (go_at_call 116; go_must (refine (HTr.out _).mono ?_); rintro e w7 ⟨rfl, hw7⟩; subst w7)
            clear c0 c1 c2 f0 f1 f2 fs d0 d1 d2 g0 g1 gs
            obtain ⟨W6, hW⟩ : ∃ W, W5.setCell ⟨T, 0, none⟩ (.string z) = W := ⟨_, rfl⟩
            have HBW6 := Lib.hid (show Below N w W6 by rw [← hW]; exact (HBW5.out.setCell hNw _))
            have HNW6 := Lib.hid (show CB W6 N 126 #[.string ⟨#[]⟩, .bool false, .bool false] by rw [← hW]; exact HNW5.out.other (grown_setB _ _ _ _) (by simp [hNT]))
            have HTW6 := Lib.hid (show CB W6 T 126 #[.string z, .bool true, .bool false] by rw [← hW]; exact (HTW5.out.put 0 _))
            rw [hW]
            clear hW
            have c0 : W6.cell? ⟨N, 0, none⟩ = some (.string ⟨#[]⟩) := HNW6.out.c 0
            have c1 : W6.cell? ⟨N, 1, none⟩ = some (.bool false) := HNW6.out.c 1
            have c2 : W6.cell? ⟨N, 2, none⟩ = some (.bool false) := HNW6.out.c 2
            have f0 := HNW6.out.f 0
            have f1 := HNW6.out.f 1
            have f2 := HNW6.out.f 2
            have fs : W6.shape? N = some (126, 3) := HNW6.out.sh
            have d0 : W6.cell? ⟨T, 0, none⟩ = some (.string z) := HTW6.out.c 0
            have d1 : W6.cell? ⟨T, 1, none⟩ = some (.bool true) := HTW6.out.c 1
            have d2 : W6.cell? ⟨T, 2, none⟩ = some (.bool false) := HTW6.out.c 2
            have g0 := HTW6.out.f 0
            have g1 := HTW6.out.f 1
            have gs : W6.shape? T = some (126, 3) := HTW6.out.sh
            go_wp2_with fail
            refine place_done rfl (((HNW6.out.put 0 _).put 1 _).put 2 _) rfl rfl rfl rfl ⟨by rw [HV.out]; rfl, by rw [HN.out]; exact ((HBW6.out.setCell (Nat.le_refl _) _).setCell (Nat.le_refl _) _).setCell (Nat.le_refl _) _⟩
          have e0 := emptyP_false h0
          by_cases h1 : last.toList = [46]
          · obtain rfl : true = d := by rw [← HLa.out, dirL, show last.data.toList = [46] by rw [← Go.ByteArray.toList_eq]; exact h1]; rfl
            have f2 : last.size = 1 := by rw [← size_toList, ← Go.ByteArray.toList_eq, h1]; rfl
            clear HLa
            obtain ⟨z1, hz1⟩ : ∃ z, x ++ (⟨#[47]⟩ : ByteArray) = z := ⟨_, rfl⟩
            obtain ⟨z0, hz0⟩ : ∃ z, z1 ++ (⟨#[105, 110, 100, 101, 120, 46, 104, 116, 109, 108]⟩ : ByteArray) = z := ⟨_, rfl⟩
            have hq1 : x.size + 1 ≤ 9223372036854775807 := by omega
            have hq2 : z1.size + 10 ≤ 9223372036854775807 := by rw [← hz1, ByteArray.size_append, show (⟨#[47]⟩ : ByteArray).size = 1 from rfl]; omega
            obtain ⟨z, hz⟩ : ∃ z, endP L true = z := ⟨_, rfl⟩
            have HV := Lib.hid (show resV f t o true = .tuple #[.agg (placeC z true false), .bool true] by rw [HX.out, resV_some HX0.out, hz])
            have HTr := Lib.hid (fun w => by
              have h9 := Tryz.strings_TrimPrefix z0 ⟨#[47]⟩ w
              have h8 := trimP_end HGd.out
              rw [HXx.out] at h8
              rw [← hz0, ← hz1] at h9
              rw [show (x ++ (⟨#[47]⟩ : ByteArray) ++ (⟨#[105, 110, 100, 101, 120, 46, 104, 116, 109, 108]⟩ : ByteArray)) = x ++ slashS ++ idxN from rfl, show (⟨#[47]⟩ : ByteArray).data.toList = [47] from rfl, h8, hz] at h9
              rw [← hz0, ← hz1]
              exact h9 : ∀ w, Calls Tryz.prog 116 #[.string z0, .string ⟨#[47]⟩] w fun e w' => e = .returned (.string z) ∧ w' = w)
            clear hz
            go_upto_region 26 with (go_at_call 115; go_must (refine (HJ.out _ HPL.out).mono ?_); rintro e w3 ⟨rfl, hb⟩; have HB3 := Lib.hid (HB2.out.trans ((HB.out.trans (hb.mono HB.out.size)).mono (Nat.le_of_lt HC2.out.lt))); have HC3 := Lib.hid (HC2.out.below (HB.out.trans (hb.mono HB.out.size))); clear hb)
            obtain ⟨T, hT⟩ : ∃ T, w3.heap.size = T := ⟨_, rfl⟩
            have hTN : ¬ T = N := by have := HC3.out.lt; omega
            have hNT : ¬ N = T := fun e => hTN e.symm
            have hNw : N ≤ T := by have := HC3.out.lt; omega
            rw [hT]
            obtain ⟨W4, hW⟩ : ∃ W, w3.alloc (.cells #[.string x, .bool false, .bool false] 126) = W := ⟨_, rfl⟩
            have HBW4 := Lib.hid (show Below N w W4 by rw [← hW]; exact (HB3.out.alloc (by omega) _))
            have HNW4 := Lib.hid (show CB W4 N 126 #[.string ⟨#[]⟩, .bool false, .bool false] by rw [← hW]; exact HC3.out.alloc _)
            have HTW4 := Lib.hid (show CB W4 T 126 #[.string x, .bool false, .bool false] by rw [← hW]; exact (by rw [← hT]; exact CB.new _ _ _))
            rw [hW]
            clear hW
            clear hT
            have c0 : W4.cell? ⟨N, 0, none⟩ = some (.string ⟨#[]⟩) := HNW4.out.c 0
            have c1 : W4.cell? ⟨N, 1, none⟩ = some (.bool false) := HNW4.out.c 1
            have c2 : W4.cell? ⟨N, 2, none⟩ = some (.bool false) := HNW4.out.c 2
            have f0 := HNW4.out.f 0
            have f1 := HNW4.out.f 1
            have f2 := HNW4.out.f 2
            have fs : W4.shape? N = some (126, 3) := HNW4.out.sh
            have d0 : W4.cell? ⟨T, 0, none⟩ = some (.string x) := HTW4.out.c 0
            have d1 : W4.cell? ⟨T, 1, none⟩ = some (.bool false) := HTW4.out.c 1
            have d2 : W4.cell? ⟨T, 2, none⟩ = some (.bool false) := HTW4.out.c 2
            have g0 := HTW4.out.f 0
            have g1 := HTW4.out.f 1
            have gs : W4.shape? T = some (126, 3) := HTW4.out.sh
            go_upto_region 28 with fail
            clear c0 c1 c2 f0 f1 f2 fs d0 d1 d2 g0 g1 gs
            obtain ⟨W5, hW⟩ : ∃ W, W4.setCell ⟨T, 1, none⟩ (.bool true) = W := ⟨_, rfl⟩
            have HBW5 := Lib.hid (show Below N w W5 by rw [← hW]; exact (HBW4.out.setCell hNw _))
            have HNW5 := Lib.hid (show CB W5 N 126 #[.string ⟨#[]⟩, .bool false, .bool false] by rw [← hW]; exact HNW4.out.other (grown_setB _ _ _ _) (by simp [hNT]))
            have HTW5 := Lib.hid (show CB W5 T 126 #[.string x, .bool true, .bool false] by rw [← hW]; exact (HTW4.out.put 1 _))
            rw [hW]
            clear hW
            have c0 : W5.cell? ⟨N, 0, none⟩ = some (.string ⟨#[]⟩) := HNW5.out.c 0
            have c1 : W5.cell? ⟨N, 1, none⟩ = some (.bool false) := HNW5.out.c 1
            have c2 : W5.cell? ⟨N, 2, none⟩ = some (.bool false) := HNW5.out.c 2
            have f0 := HNW5.out.f 0
            have f1 := HNW5.out.f 1
            have f2 := HNW5.out.f 2
            have fs : W5.shape? N = some (126, 3) := HNW5.out.sh
            have d0 : W5.cell? ⟨T, 0, none⟩ = some (.string x) := HTW5.out.c 0
            have d1 : W5.cell? ⟨T, 1, none⟩ = some (.bool true) := HTW5.out.c 1
            have d2 : W5.cell? ⟨T, 2, none⟩ = some (.bool false) := HTW5.out.c 2
            have g0 := HTW5.out.f 0
            have g1 := HTW5.out.f 1
            have gs : W5.shape? T = some (126, 3) := HTW5.out.sh
            go_upto_region 29 with (go_at_call 116; go_must (refine (HTr.out _).mono ?_); rintro e w7 ⟨rfl, hw7⟩; subst w7)
            clear c0 c1 c2 f0 f1 f2 fs d0 d1 d2 g0 g1 gs
            obtain ⟨W6, hW⟩ : ∃ W, W5.setCell ⟨T, 0, none⟩ (.string z) = W := ⟨_, rfl⟩
            have HBW6 := Lib.hid (show Below N w W6 by rw [← hW]; exact (HBW5.out.setCell hNw _))
            have HNW6 := Lib.hid (show CB W6 N 126 #[.string ⟨#[]⟩, .bool false, .bool false] by rw [← hW]; exact HNW5.out.other (grown_setB _ _ _ _) (by simp [hNT]))
            have HTW6 := Lib.hid (show CB W6 T 126 #[.string z, .bool true, .bool false] by rw [← hW]; exact (HTW5.out.put 0 _))
            rw [hW]
            clear hW
            have c0 : W6.cell? ⟨N, 0, none⟩ = some (.string ⟨#[]⟩) := HNW6.out.c 0
            have c1 : W6.cell? ⟨N, 1, none⟩ = some (.bool false) := HNW6.out.c 1
            have c2 : W6.cell? ⟨N, 2, none⟩ = some (.bool false) := HNW6.out.c 2
            have f0 := HNW6.out.f 0
            have f1 := HNW6.out.f 1
            have f2 := HNW6.out.f 2
            have fs : W6.shape? N = some (126, 3) := HNW6.out.sh
            have d0 : W6.cell? ⟨T, 0, none⟩ = some (.string z) := HTW6.out.c 0
            have d1 : W6.cell? ⟨T, 1, none⟩ = some (.bool true) := HTW6.out.c 1
            have d2 : W6.cell? ⟨T, 2, none⟩ = some (.bool false) := HTW6.out.c 2
            have g0 := HTW6.out.f 0
            have g1 := HTW6.out.f 1
            have gs : W6.shape? T = some (126, 3) := HTW6.out.sh
            go_wp2_with fail
            refine place_done rfl (((HNW6.out.put 0 _).put 1 _).put 2 _) rfl rfl rfl rfl ⟨by rw [HV.out]; rfl, by rw [HN.out]; exact ((HBW6.out.setCell (Nat.le_refl _) _).setCell (Nat.le_refl _) _).setCell (Nat.le_refl _) _⟩
          have f1 : (last.toList == [46]) = false := by simpa using h1
          by_cases h2 : last.toList = [46, 46]
          · obtain rfl : true = d := by rw [← HLa.out, dirL, show last.data.toList = [46, 46] by rw [← Go.ByteArray.toList_eq]; exact h2]; rfl
            have f2 : last.size = 2 := by rw [← size_toList, ← Go.ByteArray.toList_eq, h2]; rfl
            clear HLa h1
            obtain ⟨z1, hz1⟩ : ∃ z, x ++ (⟨#[47]⟩ : ByteArray) = z := ⟨_, rfl⟩
            obtain ⟨z0, hz0⟩ : ∃ z, z1 ++ (⟨#[105, 110, 100, 101, 120, 46, 104, 116, 109, 108]⟩ : ByteArray) = z := ⟨_, rfl⟩
            have hq1 : x.size + 1 ≤ 9223372036854775807 := by omega
            have hq2 : z1.size + 10 ≤ 9223372036854775807 := by rw [← hz1, ByteArray.size_append, show (⟨#[47]⟩ : ByteArray).size = 1 from rfl]; omega
            obtain ⟨z, hz⟩ : ∃ z, endP L true = z := ⟨_, rfl⟩
            have HV := Lib.hid (show resV f t o true = .tuple #[.agg (placeC z true false), .bool true] by rw [HX.out, resV_some HX0.out, hz])
            have HTr := Lib.hid (fun w => by
              have h9 := Tryz.strings_TrimPrefix z0 ⟨#[47]⟩ w
              have h8 := trimP_end HGd.out
              rw [HXx.out] at h8
              rw [← hz0, ← hz1] at h9
              rw [show (x ++ (⟨#[47]⟩ : ByteArray) ++ (⟨#[105, 110, 100, 101, 120, 46, 104, 116, 109, 108]⟩ : ByteArray)) = x ++ slashS ++ idxN from rfl, show (⟨#[47]⟩ : ByteArray).data.toList = [47] from rfl, h8, hz] at h9
              rw [← hz0, ← hz1]
              exact h9 : ∀ w, Calls Tryz.prog 116 #[.string z0, .string ⟨#[47]⟩] w fun e w' => e = .returned (.string z) ∧ w' = w)
            clear hz
            go_upto_region 26 with (go_at_call 115; go_must (refine (HJ.out _ HPL.out).mono ?_); rintro e w3 ⟨rfl, hb⟩; have HB3 := Lib.hid (HB2.out.trans ((HB.out.trans (hb.mono HB.out.size)).mono (Nat.le_of_lt HC2.out.lt))); have HC3 := Lib.hid (HC2.out.below (HB.out.trans (hb.mono HB.out.size))); clear hb)
            obtain ⟨T, hT⟩ : ∃ T, w3.heap.size = T := ⟨_, rfl⟩
            have hTN : ¬ T = N := by have := HC3.out.lt; omega
            have hNT : ¬ N = T := fun e => hTN e.symm
            have hNw : N ≤ T := by have := HC3.out.lt; omega
            rw [hT]
            obtain ⟨W4, hW⟩ : ∃ W, w3.alloc (.cells #[.string x, .bool false, .bool false] 126) = W := ⟨_, rfl⟩
            have HBW4 := Lib.hid (show Below N w W4 by rw [← hW]; exact (HB3.out.alloc (by omega) _))
            have HNW4 := Lib.hid (show CB W4 N 126 #[.string ⟨#[]⟩, .bool false, .bool false] by rw [← hW]; exact HC3.out.alloc _)
            have HTW4 := Lib.hid (show CB W4 T 126 #[.string x, .bool false, .bool false] by rw [← hW]; exact (by rw [← hT]; exact CB.new _ _ _))
            rw [hW]
            clear hW
            clear hT
            have c0 : W4.cell? ⟨N, 0, none⟩ = some (.string ⟨#[]⟩) := HNW4.out.c 0
            have c1 : W4.cell? ⟨N, 1, none⟩ = some (.bool false) := HNW4.out.c 1
            have c2 : W4.cell? ⟨N, 2, none⟩ = some (.bool false) := HNW4.out.c 2
            have f0 := HNW4.out.f 0
            have f1 := HNW4.out.f 1
            have f2 := HNW4.out.f 2
            have fs : W4.shape? N = some (126, 3) := HNW4.out.sh
            have d0 : W4.cell? ⟨T, 0, none⟩ = some (.string x) := HTW4.out.c 0
            have d1 : W4.cell? ⟨T, 1, none⟩ = some (.bool false) := HTW4.out.c 1
            have d2 : W4.cell? ⟨T, 2, none⟩ = some (.bool false) := HTW4.out.c 2
            have g0 := HTW4.out.f 0
            have g1 := HTW4.out.f 1
            have gs : W4.shape? T = some (126, 3) := HTW4.out.sh
            go_upto_region 28 with fail
            clear c0 c1 c2 f0 f1 f2 fs d0 d1 d2 g0 g1 gs
            obtain ⟨W5, hW⟩ : ∃ W, W4.setCell ⟨T, 1, none⟩ (.bool true) = W := ⟨_, rfl⟩
            have HBW5 := Lib.hid (show Below N w W5 by rw [← hW]; exact (HBW4.out.setCell hNw _))
            have HNW5 := Lib.hid (show CB W5 N 126 #[.string ⟨#[]⟩, .bool false, .bool false] by rw [← hW]; exact HNW4.out.other (grown_setB _ _ _ _) (by simp [hNT]))
            have HTW5 := Lib.hid (show CB W5 T 126 #[.string x, .bool true, .bool false] by rw [← hW]; exact (HTW4.out.put 1 _))
            rw [hW]
            clear hW
            have c0 : W5.cell? ⟨N, 0, none⟩ = some (.string ⟨#[]⟩) := HNW5.out.c 0
            have c1 : W5.cell? ⟨N, 1, none⟩ = some (.bool false) := HNW5.out.c 1
            have c2 : W5.cell? ⟨N, 2, none⟩ = some (.bool false) := HNW5.out.c 2
            have f0 := HNW5.out.f 0
            have f1 := HNW5.out.f 1
            have f2 := HNW5.out.f 2
            have fs : W5.shape? N = some (126, 3) := HNW5.out.sh
            have d0 : W5.cell? ⟨T, 0, none⟩ = some (.string x) := HTW5.out.c 0
            have d1 : W5.cell? ⟨T, 1, none⟩ = some (.bool true) := HTW5.out.c 1
            have d2 : W5.cell? ⟨T, 2, none⟩ = some (.bool false) := HTW5.out.c 2
            have g0 := HTW5.out.f 0
            have g1 := HTW5.out.f 1
            have gs : W5.shape? T = some (126, 3) := HTW5.out.sh
            go_upto_region 29 with (go_at_call 116; go_must (refine (HTr.out _).mono ?_); rintro e w7 ⟨rfl, hw7⟩; subst w7)
            clear c0 c1 c2 f0 f1 f2 fs d0 d1 d2 g0 g1 gs
            obtain ⟨W6, hW⟩ : ∃ W, W5.setCell ⟨T, 0, none⟩ (.string z) = W := ⟨_, rfl⟩
            have HBW6 := Lib.hid (show Below N w W6 by rw [← hW]; exact (HBW5.out.setCell hNw _))
            have HNW6 := Lib.hid (show CB W6 N 126 #[.string ⟨#[]⟩, .bool false, .bool false] by rw [← hW]; exact HNW5.out.other (grown_setB _ _ _ _) (by simp [hNT]))
            have HTW6 := Lib.hid (show CB W6 T 126 #[.string z, .bool true, .bool false] by rw [← hW]; exact (HTW5.out.put 0 _))
            rw [hW]
            clear hW
            have c0 : W6.cell? ⟨N, 0, none⟩ = some (.string ⟨#[]⟩) := HNW6.out.c 0
            have c1 : W6.cell? ⟨N, 1, none⟩ = some (.bool false) := HNW6.out.c 1
            have c2 : W6.cell? ⟨N, 2, none⟩ = some (.bool false) := HNW6.out.c 2
            have f0 := HNW6.out.f 0
            have f1 := HNW6.out.f 1
            have f2 := HNW6.out.f 2
            have fs : W6.shape? N = some (126, 3) := HNW6.out.sh
            have d0 : W6.cell? ⟨T, 0, none⟩ = some (.string z) := HTW6.out.c 0
            have d1 : W6.cell? ⟨T, 1, none⟩ = some (.bool true) := HTW6.out.c 1
            have d2 : W6.cell? ⟨T, 2, none⟩ = some (.bool false) := HTW6.out.c 2
            have g0 := HTW6.out.f 0
            have g1 := HTW6.out.f 1
            have gs : W6.shape? T = some (126, 3) := HTW6.out.sh
            go_wp2_with fail
            refine place_done rfl (((HNW6.out.put 0 _).put 1 _).put 2 _) rfl rfl rfl rfl ⟨by rw [HV.out]; rfl, by rw [HN.out]; exact ((HBW6.out.setCell (Nat.le_refl _) _).setCell (Nat.le_refl _) _).setCell (Nat.le_refl _) _⟩
          have f3 : (last.toList == [46, 46]) = false := by simpa using h2
          obtain rfl : false = d := by
            rw [← HLa.out, dirL, ← Go.ByteArray.toList_eq, f1, f3]
            cases hh : last.toList with
            | nil => rw [hh] at e0; cases e0
            | cons a b => rfl
          have HV := Lib.hid (show resV f t o false = .tuple #[.agg (placeC x false false), .bool true] by rw [HX.out, resV_some HX0.out, endP_no, HXx.out])
          clear h1 h2 h0 HLa
          go_upto_region 26 with (go_at_call 115; go_must (refine (HJ.out _ HPL.out).mono ?_); rintro e w3 ⟨rfl, hb⟩; have HB3 := Lib.hid (HB2.out.trans ((HB.out.trans (hb.mono HB.out.size)).mono (Nat.le_of_lt HC2.out.lt))); have HC3 := Lib.hid (HC2.out.below (HB.out.trans (hb.mono HB.out.size))); clear hb)
          obtain ⟨T, hT⟩ : ∃ T, w3.heap.size = T := ⟨_, rfl⟩
          have hTN : ¬ T = N := by have := HC3.out.lt; omega
          have hNT : ¬ N = T := fun e => hTN e.symm
          have hNw : N ≤ T := by have := HC3.out.lt; omega
          rw [hT]
          obtain ⟨W4, hW⟩ : ∃ W, w3.alloc (.cells #[.string x, .bool false, .bool false] 126) = W := ⟨_, rfl⟩
          have HBW4 := Lib.hid (show Below N w W4 by rw [← hW]; exact (HB3.out.alloc (by omega) _))
          have HNW4 := Lib.hid (show CB W4 N 126 #[.string ⟨#[]⟩, .bool false, .bool false] by rw [← hW]; exact HC3.out.alloc _)
          have HTW4 := Lib.hid (show CB W4 T 126 #[.string x, .bool false, .bool false] by rw [← hW]; exact (by rw [← hT]; exact CB.new _ _ _))
          rw [hW]
          clear hW
          clear hT
          go_upto_region 29 with fail
          have c0 : W4.cell? ⟨N, 0, none⟩ = some (.string ⟨#[]⟩) := HNW4.out.c 0
          have c1 : W4.cell? ⟨N, 1, none⟩ = some (.bool false) := HNW4.out.c 1
          have c2 : W4.cell? ⟨N, 2, none⟩ = some (.bool false) := HNW4.out.c 2
          have f0 := HNW4.out.f 0
          have f1 := HNW4.out.f 1
          have f2 := HNW4.out.f 2
          have fs : W4.shape? N = some (126, 3) := HNW4.out.sh
          have d0 : W4.cell? ⟨T, 0, none⟩ = some (.string x) := HTW4.out.c 0
          have d1 : W4.cell? ⟨T, 1, none⟩ = some (.bool false) := HTW4.out.c 1
          have d2 : W4.cell? ⟨T, 2, none⟩ = some (.bool false) := HTW4.out.c 2
          have g0 := HTW4.out.f 0
          have g1 := HTW4.out.f 1
          have gs : W4.shape? T = some (126, 3) := HTW4.out.sh
          go_wp2_with fail
          refine place_done rfl (((HNW4.out.put 0 _).put 1 _).put 2 _) rfl rfl rfl rfl ⟨by rw [HV.out]; rfl, by rw [HN.out]; exact ((HBW4.out.setCell (Nat.le_refl _) _).setCell (Nat.le_refl _) _).setCell (Nat.le_refl _) _⟩

end Go.Proofs.YtbhildmalcfhiaaGreatDoor

namespace Go.Proofs.YtbhildmalcfhiaaGreatDoor
open Go.RowKit Go.Deep

/-- the paths of outputs as a set -/
def pathsF (l : List OutV) : List UInt8 → Option Bool := fun s => if l.any (fun o => o.path.data.toList == s) then some true else none
theorem pathsF_take {l : List OutV} {j : Nat} {o : OutV} (h : l[j]? = some o) : pathsF (l.take (j + 1)) = putF (pathsF (l.take j)) o.path.data.toList true := by
  funext s
  have e : l.take (j + 1) = l.take j ++ [o] := by rw [List.take_add_one, h]; rfl
  rw [pathsF, e, List.any_append, putF, pathsF]
  by_cases h1 : s = o.path.data.toList
  · subst h1; simp
  · have h2 : (o.path.data.toList == s) = false := by rw [beq_eq_false_iff_ne]; exact fun e => h1 e.symm
    simp [h1, h2]
def PathsPost (l : List OutV) (w : World) (e : Ending) (w' : World) : Prop := ∃ bm : Nat, e = .returned (.map (some bm)) ∧ BMap Tryz.prog 9 4 w' bm l.length (pathsF l) ∧ w.heap.size ≤ bm ∧ Below w.heap.size w w'
set_option maxRecDepth 100000 in
set_option maxHeartbeats 2000000 in
theorem paths_q (l : List OutV) (v : Value) (w : World) (h : OutsAt w v l) (hz : ∀ x ∈ l, x.path.size ≤ 1048576) :
    Calls Tryz.prog 38 #[v] w (PathsPost l w) := by
  obtain ⟨A, c, b, o, rfl, hlc, hc, hA, hcell⟩ := h
  have HC := Lib.hid hcell; clear hcell
  have HA := Lib.hid hA; clear hA
  have HZ := Lib.hid hz; clear hz
  obtain ⟨K, hK⟩ : ∃ K, w.heap.size = K := ⟨_, rfl⟩
  have HK := Lib.hid hK
  have HM0 := Lib.hid (show BMap Tryz.prog 9 4 (w.alloc (.map #[] 0)) K 0 (pathsF (l.take 0)) by rw [← hK]; exact mapR_made w)
  have HB0 := Lib.hid (show Below K w (w.alloc (.map #[] 0)) from (Below.refl _ _).alloc (by omega) _)
  clear hK
  unfold maxLen at hc
  have hmm := @run_makeMap Tryz.prog
  go_enter Tryz.func38, Tryz.ntmps38
  go_wp2
  rw [HK.out]
  go_loopw [9] (fun t9 wr => ∃ j : Nat, j ≤ l.length ∧ t9 = .int .i64 j ∧ Hid (BMap Tryz.prog 9 4 wr K j (pathsF (l.take j))) ∧ Hid (Below K w wr)) (fun t _ => l.length - (intOf t).toNat)
  case atStart => exact ⟨0, Nat.zero_le _, rfl, HM0, HB0⟩
  case round =>
    obtain ⟨j, hj, rfl, HM, HB⟩ := hrel
    by_cases hlt : j < l.length
    · obtain ⟨x, hx⟩ : ∃ x, l[j]? = some x := ⟨_, List.getElem?_eq_getElem hlt⟩
      obtain rfl : A = some ⟨b, o, none⟩ := HA.out (by intro h0; rw [h0] at hlt; simp at hlt)
      have kc := (HC.out j x hx).keep (Keeps.of_below (by have := HB.out; rw [← HK.out] at this; exact this))
      have k0 := kc.c0
      have k1 := kc.c1
      have HZ1 := Lib.hid (HZ.out x (List.mem_of_getElem? hx))
      have HS := Lib.hid (pathsF_take hx)
      clear hx kc
      go_wp2_with (at_mapUpdate; go_must (refine wpList_storeR rfl _ _ _ 77 rfl Tryz.underlying9 Tryz.underlying77 (HM.out.alloc _) (by unfold maxLen; omega) rfl x.path (by have := HZ1.out; unfold maxLen; omega) _ true rfl rfl (plainElem_bool Tryz.underlying4 true) ?_); intro w1 hm1 ht1; have HM1 := Lib.hid hm1; have HT1 := Lib.hid ht1; clear hm1 ht1)
      go_roundw
      case rel => exact ⟨j + 1, by omega, by go_num, by rw [HS.out]; exact HM1.out, (HB.out.alloc (by have := HM.out.lt; omega) _).trans (turned_below HT1.out (Nat.le_refl _) (by have := HM.out.lt; rw [World.size_alloc]; omega))⟩
      case measure => simp [intOf]; omega
    · obtain rfl : j = l.length := by omega
      go_wp2
      go_ret
      exact ⟨K, rfl, by have := HM.out; rw [List.take_length] at this; exact this, by have := HK.out; omega, by rw [HK.out]; exact HB.out⟩

end Go.Proofs.YtbhildmalcfhiaaGreatDoor

namespace Go.Proofs.YtbhildmalcfhiaaGreatDoor
open Go.RowKit Go.Deep

def idxP : ByteArray := ⟨#[47, 105, 110, 100, 101, 120, 46, 104, 116, 109, 108]⟩
def hasF (f : List UInt8 → Option Bool) (s : ByteArray) : Bool := (f s.data.toList).getD false
def leadF (f : List UInt8 → Option Bool) (path : ByteArray) (dir : Bool) : Option ByteArray := if hasF f path = true then some path else if dir = false ∧ hasF f (path ++ idxP) = true then some (path ++ idxP) else none
def leadV : Option ByteArray → Value
  | some s => .tuple #[.string s, .bool true]
  | none => .tuple #[.string ⟨#[]⟩, .bool false]
theorem idxP_two (p : ByteArray) : p ++ (⟨#[47]⟩ : ByteArray) ++ (⟨#[105, 110, 100, 101, 120, 46, 104, 116, 109, 108]⟩ : ByteArray) = p ++ idxP := by
  apply Go.WideShapes.bytes_inj
  simp [idxP, ByteArray.data_append, Array.toList_append]

/-- a look-up whose run is known, at an operation that is wanted -/
theorem wpList_lookW {P : Program} {w : World} {b : Nat} {ops : Array Oper} {rest : List Oper} {o : Oper} {a : Act} {Q : Exit → Act → World → Prop} (hw : Region.wanted o (yielded ops a.tmps) = true) (m x : Operand) (t : TypeId) (c : Bool) (hop : o.op = Op.lookup t m x c) (s : ByteArray) (y : Value)
    (hm : a.eval m = .map (some b)) (hx : a.eval x = .string s) (hrun : (Instr.lookup t (.map (some b)) (.string s) c).run P w = .ok y w)
    (hK : wpList P ops Q rest (a.put o.dst y) w) : wpList P ops Q (o :: rest) a w := by
  refine wpList_step fun K' hK' => ?_
  rw [if_pos hw]
  unfold Oper.wp
  simp [execOp, hop, hm, hx, hrun, Result.andThen]
  exact hK' _ _ hK
def LeadPost (r : Option ByteArray) (w : World) (e : Ending) (w' : World) : Prop := e = .returned (leadV r) ∧ Below w.heap.size w w'
set_option maxRecDepth 100000 in
set_option maxHeartbeats 2000000 in
theorem lead_q (bm n : Nat) (f : List UInt8 → Option Bool) (path : ByteArray) (dir self : Bool) (w : World) (h : BMap Tryz.prog 9 4 w bm n f) (hs : path.size ≤ 1048576) :
    Calls Tryz.prog 75 #[.map (some bm), .agg #[.string path, .bool dir, .bool self]] w (LeadPost (leadF f path dir) w) := by
  have HM := Lib.hid (h.alloc (.cells #[.string path, .bool dir, .bool self] 126))
  have HB := Lib.hid (show Below w.heap.size w (w.alloc (.cells #[.string path, .bool dir, .bool self] 126)) from (Below.refl _ _).alloc (Nat.le_refl _) _)
  clear h
  have HRun := Lib.hid (fun (s : ByteArray) (v : Bool) (hz : s.size ≤ maxLen) (hv : hasF f s = v) => (by
    have := bmap_look HM.out Tryz.underlying9 Tryz.underlying4 Tryz.underlying77 hz (by kernel_rfl)
    rw [show (f s.data.toList).getD false = v from hv] at this
    exact this : (Instr.lookup 77 (.map (some bm)) (.string s) false).run Tryz.prog (w.alloc (.cells #[.string path, .bool dir, .bool self] 126)) = .ok (.bool v) (w.alloc (.cells #[.string path, .bool dir, .bool self] 126))))
  clear HM
  obtain ⟨v, hv⟩ : ∃ v, hasF f path = v := ⟨_, rfl⟩
  have HV := Lib.hid hv; clear hv
  cases v with
  | true =>
    have HL := Lib.hid (show leadF f path dir = some path by rw [leadF, if_pos HV.out])
    go_enter Tryz.func75, Tryz.ntmps75
    go_wp2_with (at_lookup; go_must (refine wpList_lookR rfl _ _ 77 false rfl path _ rfl rfl (HRun.out path true (by unfold maxLen; omega) HV.out) ?_))
    go_ret2
    exact ⟨by rw [HL.out]; rfl, HB.out⟩
  | false =>
    obtain ⟨z1, hz1⟩ : ∃ z, path ++ (⟨#[47]⟩ : ByteArray) = z := ⟨_, rfl⟩
    obtain ⟨z, hz⟩ : ∃ z, z1 ++ (⟨#[105, 110, 100, 101, 120, 46, 104, 116, 109, 108]⟩ : ByteArray) = z := ⟨_, rfl⟩
    have HZ := Lib.hid (show path ++ idxP = z by rw [← hz, ← hz1, idxP_two])
    have hs1 : z1.size = path.size + 1 := by rw [← hz1, ByteArray.size_append]; rfl
    have hs2 : z.size = path.size + 11 := by rw [← hz, ByteArray.size_append, hs1]; rfl
    have HS := Lib.hid hs2; have HS1 := Lib.hid hs1
    have hq1 : path.size + 1 ≤ 9223372036854775807 := by omega
    have hq2 : z1.size + 10 ≤ 9223372036854775807 := by omega
    clear hs1 hs2
    cases dir with
    | true =>
      have HL := Lib.hid (show leadF f path true = none by rw [leadF, if_neg (by rw [HV.out]; simp), if_neg (by simp)])
      go_enter Tryz.func75, Tryz.ntmps75
      go_wp2_with (at_lookup; go_must (refine wpList_lookR rfl _ _ 77 false rfl path _ rfl rfl (HRun.out path false (by unfold maxLen; omega) HV.out) ?_))
      go_ret2
      exact ⟨by rw [HL.out]; rfl, HB.out⟩
    | false =>
      obtain ⟨v2, hv2⟩ : ∃ v, hasF f z = v := ⟨_, rfl⟩
      have HV2 := Lib.hid hv2; clear hv2
      have HL := Lib.hid (show leadF f path false = if v2 = true then some z else none by rw [leadF, if_neg (by rw [HV.out]; simp), HZ.out, HV2.out]; simp)
      cases v2 <;>
      (go_enter Tryz.func75, Tryz.ntmps75
       go_upto_region 3 with (at_lookup; go_must (refine wpList_lookR rfl _ _ 77 false rfl path _ rfl rfl (HRun.out path false (by unfold maxLen; omega) HV.out) ?_))
       go_wp2_with (at_lookup; go_must (refine wpList_lookW (by go_simp) _ _ 77 false rfl z _ rfl rfl (HRun.out z _ (by have := HS.out; unfold maxLen; omega) HV2.out) ?_))
       go_ret2
       exact ⟨by rw [HL.out]; rfl, HB.out⟩)

end Go.Proofs.YtbhildmalcfhiaaGreatDoor

namespace Go.Proofs.YtbhildmalcfhiaaGreatDoor
open Go.RowKit Go.Deep

def Asc (s : ByteArray) : Prop := ∀ b ∈ s.data.toList, b.toNat < 128

theorem indexByte_noA {l : List UInt8} {c : UInt8} (h : ∀ b ∈ l, b ≠ c) : Lib.indexByte l c = -1 := by
  induction l with
  | nil => rfl
  | cons b l ih =>
    have hb : (b == c) = false := by simpa using h b (List.mem_cons_self ..)
    rw [Lib.indexByte, hb, ih (fun x hx => h x (List.mem_cons_of_mem _ hx))]
    rfl
theorem quietAdd {P : Program} {f : FuncId} {args : Array Value} {w : World} {a n : Nat} {v : Value} (h : Calls P f args (w.drewN (a + n)) fun e w' => e = .returned v ∧ w' = w.drewN (a + n)) :
    Calls P f args (w.drewN (a + n)) fun e w'' => e = .returned v ∧ ∃ m, w'' = w.drewN (a + m) := h.mono fun _ _ h => ⟨h.1, n, h.2⟩
theorem indexByte_high (s : ByteArray) (a e : Nat) (c : UInt8) (n : Int) (w : World) (ha : Asc s) (hn : (c.toNat : Int) = n) (hc : 128 ≤ c.toNat) :
    Calls Tryz.prog 150 #[.string (s.extract a e), .int .u8 n] w fun e w' => e = .returned (.int .i64 (-1)) ∧ w' = w := by
  subst hn
  have hback : ((c.toNat : Int)).toNat.toUInt8 = c := by simp
  refine (Tryz.strings_IndexByte (s.extract a e) (c.toNat : Int) w).mono fun e w' ⟨he, hw⟩ => ⟨?_, hw⟩
  rw [he, hback, indexByte_noA (fun b hb hbc => by have := ha b (mem_extract hb); rw [hbc] at this; omega)]

set_option maxRecDepth 100000 in
set_option maxHeartbeats 2000000 in
theorem indexRune_high (s : ByteArray) (r : Int) (w : World) (ha : Asc s) (h1 : 128 ≤ r) (hv : Utf8.valid r = true) (hne : r ≠ 65533) :
    Calls Tryz.prog 147 #[.string s, .int .i32 r] w fun e w' => e = .returned (.int .i64 (-1)) ∧ Below w.heap.size w w' := by
  obtain ⟨hf1, hf2, hf3⟩ := encode_facts r hv h1
  obtain ⟨rs, hrs⟩ : ∃ rs, Utf8.encode r = rs := ⟨_, rfl⟩
  rw [hrs] at hf1 hf2 hf3
  have hr0 : 0 ≤ r := by omega
  have hr1 : ¬ r < 128 := by omega
  have hb : (r == 65533) = false := by simpa using hne
  have hvr : Lib.validRune r = true := by
    rw [Utf8.valid] at hv
    simp only [Lib.validRune, decide_eq_true_eq]
    simp at hv
    omega
  have HV := Lib.hid hvr; clear hvr
  have HA := Lib.hid ha; clear ha
  have hf4 := hf3 (by omega)
  clear hf3 hv hne
  obtain ⟨m, hm⟩ : ∃ m : Nat, rs.size = m + 1 := ⟨rs.size - 1, by omega⟩
  have hm1 : (rs.size : Int) - 1 = (m : Int) := by omega
  have hmr : m < rs.size := by omega
  have hf5 : 128 ≤ (rs[m]'hmr).toNat := by
    have e : rs.size - 1 = m := by omega
    simpa only [e] using hf4
  have HM := Lib.hid hm; clear hm hf4
  go_enter Tryz.func147, Tryz.ntmps147
  go_wp2_with (go_at_call 173; go_must (refine (Tryz.utf8_ValidRune r _).mono ?_); rintro e w1 ⟨rfl, hw⟩; rw [HV.out, hw])
  go_step3
  go_wp2_with fail
  go_loopw [4, 9] (fun t4 t9 wr => t9 = .int .i64 (m : Int) ∧ t4 = .int .i64 0 ∧ EqW wr w) (fun _ _ _ => 0)
  case atStart => exact ⟨rfl, rfl, EqW.refl _⟩
  case round =>
    obtain ⟨rfl, rfl, hww⟩ := hrel
    unfold EqW at hww
    subst hww
    by_cases hlt : m < s.size
    · have hc1 : (s[m]'hlt).toNat < 128 := HA.out _ (Array.getElem_mem_toList (xs := s.data) hlt)
      have hne : ((s[m].toNat : Int) != (rs[m].toNat : Int)) = true := by simp; omega
      go_wp2_with fail
      go_step3
      go_wp2_with fail
      go_quiet (fail)
      go_wp2_with fail
      have hle : (m : Int) + 1 ≤ (s.size : Int) := by omega
      have h01 : 0 ≤ (m : Int) + 1 := by omega
      have htn : ((m : Int) + 1).toNat = m + 1 := by omega
      have hsum : IntKind.i64.wrap ((m : Int) + 1) = (m : Int) + 1 := IntWalk.i64_in _ (by omega)
      go_quiet ((go_at_call 150; exact quietAdd (indexByte_high s _ _ rs[m] _ _ HA.out rfl hf5)))
      go_wp2_with fail
      rw [Exit.noGoto_ret]
      simp only [Exit.inBlock]
      go_wp2_with fail
      rw [Exit.noGoto_ret]
      simp only [Exit.inBlock]
      first | go_ret | (go_wp2_with fail; go_ret)
      exact ⟨rfl, Below.drewN' (Below.refl _ _) _⟩
    · go_wp2_with fail
      first | (rw [Exit.noGoto_ret]; go_ret) | go_ret
      exact ⟨rfl, Below.refl _ _⟩

/-- what a rune beyond ASCII takes: a rune that is valid, bytes beyond ASCII alone -/
def Skip (s : ByteArray) (pos : Nat) (d : Nat × Nat) : Prop := 128 ≤ d.1 ∧ Utf8.valid (d.1 : Int) = true ∧ 1 ≤ d.2 ∧ pos + d.2 ≤ s.size ∧ ∀ (j : Nat) (b : UInt8), pos ≤ j → j < pos + d.2 → s.data.toList[j]? = some b → 128 ≤ b.toNat
theorem decode_skip (s : ByteArray) (pos : Nat) (h : pos < s.size) (ha : 128 ≤ (s[pos]'h).toNat) : Skip s pos (Utf8.decode s pos) := by
  have hn : ¬ (s[pos]'h).toNat < 128 := by omega
  have hat : ∀ (k : Nat) (b : UInt8), s.data.toList[pos + k]? = some b → s.get! (pos + k) = b := by
    intro k b hb
    obtain ⟨h1, h2⟩ := List.getElem?_eq_some_iff.1 hb
    rw [size_toList] at h1
    rw [← h2]
    show s.data[pos + k]! = _
    rw [getElem!_pos s.data (pos + k) h1]
    rfl
  have h0 : ∀ b, s.data.toList[pos]? = some b → 128 ≤ b.toNat := by
    intro b hb
    obtain ⟨h1, h2⟩ := List.getElem?_eq_some_iff.1 hb
    rw [← h2]
    exact ha
  have one : Skip s pos (65533, 1) := by
    refine ⟨by decide, by decide, by decide, by simp; omega, fun j b h1 h2 hb => ?_⟩
    simp only at h2
    obtain rfl : j = pos := by omega
    exact h0 b hb
  have c128 : ∀ (k : Nat) (b : UInt8), (s.get! (pos + k)).toNat / 64 = 2 → s.data.toList[pos + k]? = some b → 128 ≤ b.toNat := by
    intro k b h1 hb
    rw [hat k b hb] at h1
    omega
  simp only [Utf8.decode, get_at s pos h, hn, if_false]
  split
  · rename_i hc
    simp only [Bool.and_eq_true, beq_iff_eq, decide_eq_true_eq] at hc
    obtain ⟨_, hk1, hc1⟩ := hc
    split
    · rename_i hv
      refine ⟨by simpa using hv, ?_, by simp, by simp; omega, fun j b h1 h2 hb => ?_⟩
      · simp [Utf8.valid]; omega
      · simp only at h2
        rcases Nat.lt_or_ge pos j with h3 | h3
        · obtain rfl : j = pos + 1 := by omega
          exact c128 1 b hc1 hb
        · obtain rfl : j = pos := by omega
          exact h0 b hb
    · exact one
  split
  · rename_i hc
    simp only [Bool.and_eq_true, beq_iff_eq, decide_eq_true_eq] at hc
    obtain ⟨⟨_, hk1, hc1⟩, hk2, hc2⟩ := hc
    split
    · rename_i hv
      simp only [Bool.and_eq_true, decide_eq_true_eq] at hv
      refine ⟨by have := hv.1; simp at this ⊢; omega, by simpa using hv.2, by simp, by simp; omega, fun j b h1 h2 hb => ?_⟩
      simp only at h2
      rcases (show j = pos ∨ j = pos + 1 ∨ j = pos + 2 by omega) with rfl | rfl | rfl
      · exact h0 b hb
      · exact c128 1 b hc1 hb
      · exact c128 2 b hc2 hb
    · exact one
  split
  · rename_i hc
    simp only [Bool.and_eq_true, beq_iff_eq, decide_eq_true_eq] at hc
    obtain ⟨⟨⟨_, hk1, hc1⟩, hk2, hc2⟩, hk3, hc3⟩ := hc
    split
    · rename_i hv
      simp only [Bool.and_eq_true, decide_eq_true_eq] at hv
      refine ⟨by have := hv.1; simp at this ⊢; omega, by simpa using hv.2, by simp, by simp; omega, fun j b h1 h2 hb => ?_⟩
      simp only at h2
      rcases (show j = pos ∨ j = pos + 1 ∨ j = pos + 2 ∨ j = pos + 3 by omega) with rfl | rfl | rfl | rfl
      · exact h0 b hb
      · exact c128 1 b hc1 hb
      · exact c128 2 b hc2 hb
      · exact c128 3 b hc3 hb
    · exact one
  · exact one

set_option maxRecDepth 100000 in
set_option maxHeartbeats 2000000 in
theorem indexRune_err (s : ByteArray) (w : World) (ha : Asc s) :
    Calls Tryz.prog 147 #[.string s, .int .i32 65533] w fun e w' => e = .returned (.int .i64 (-1)) ∧ Below w.heap.size w w' := by
  have HA := Lib.hid ha; clear ha
  go_enter Tryz.func147, Tryz.ntmps147
  go_wp2_with fail
  go_loopg [5, 6] s.size (fun g _ _ wx => ∃ i : Nat, i + g = s.size ∧ wx = w.iter s i)
  case atStart => exact ⟨0, by omega, rfl⟩
  case round =>
    obtain ⟨i, hig, rfl⟩ := hrel
    cases gk with
    | zero =>
      obtain rfl : i = s.size := by omega
      have hnx := run_next_end (P := Tryz.prog) w s s.size
      go_wp2_with fail
      go_ret
      exact ⟨rfl, (Below.refl _ _).alloc (Nat.le_refl _) _⟩
    | succ g =>
      have hi : i < s.size := by omega
      have hx128 : (s[i]'hi).toNat < 128 := HA.out _ (Array.getElem_mem_toList (xs := s.data) hi)
      have hnx := fun ty => run_next_ascii (P := Tryz.prog) w s i ty hi hx128
      have hne : ((s[i].toNat : Int) == 65533) = false := by simp; omega
      go_wp2_with fail
      go_roundg g
      case measure => omega
      case rel => exact ⟨i + 1, by omega, rfl⟩

theorem indexRune_beyond (s : ByteArray) (r : Int) (w : World) (ha : Asc s) (h1 : 128 ≤ r) (hv : Utf8.valid r = true) :
    Calls Tryz.prog 147 #[.string s, .int .i32 r] w fun e w' => e = .returned (.int .i64 (-1)) ∧ Below w.heap.size w w' := by
  by_cases h : r = 65533
  · subst h; exact indexRune_err s w ha
  · exact indexRune_high s r w ha h1 hv h

set_option maxRecDepth 100000 in
set_option maxHeartbeats 4000000 in
theorem indexAny_short (s chars : ByteArray) (w : World) (h2 : 2 ≤ chars.size) (h8 : s.size ≤ 8) (ha : Asc chars) :
    Calls Tryz.prog 111 #[.string s, .string chars] w fun e w' => e = .returned (.int .i64 (Lib.indexAny s.data.toList chars.data.toList)) ∧ Below w.heap.size w w' := by
  have HA := Lib.hid ha; clear ha
  have hemp : chars.toList.isEmpty = false := by
    rw [Go.ByteArray.toList_eq]
    cases h : chars.data.toList with
    | nil => have := size_toList chars; rw [h, List.length_nil] at this; omega
    | cons _ _ => rfl
  have hn1 : ((chars.size : Int) == 1) = false := beq_eq_false_iff_ne.2 (by omega)
  have h8z : decide ((8 : Int) < (s.size : Int)) = false := decide_eq_false (by omega)
  go_enter Tryz.func111, Tryz.ntmps111
  go_wp2_with (go_at_call 148; go_must (refine (Tryz.strings_shouldUseASCIISet _ _).mono ?_); rintro e w' ⟨rfl, hw⟩; rw [hw, h8z])
  go_loopg [9, 10] s.size (fun g _ _ wx => ∃ i : Nat, i + g = s.size ∧ Hid (wx.heap[w.heap.size]? = some (.stringIter s i)) ∧ Hid (Below w.heap.size w wx) ∧ Hid (Lib.NoAny s.data.toList chars.data.toList i))
  case atStart => exact ⟨0, by omega, heap_alloc_new w _, (Below.refl _ _).alloc (Nat.le_refl _) _, Lib.NoAny.zero _ _⟩
  case round =>
    obtain ⟨i, hig, HI, HB, HN⟩ := hrel
    cases gk with
    | zero =>
      obtain rfl : i = s.size := by omega
      have hnx := fun ty => Lib.run_next_end_at (P := Tryz.prog) wr w.heap.size s s.size ty HI.out (by omega)
      go_wp2_with fail
      go_ret
      exact ⟨by rw [Lib.indexAny_none (by rw [size_toList]; exact HN.out)]; rfl, HB.out⟩
    | succ g =>
      have hi : i < s.size := by omega
      have hxl : s.data.toList[i]? = some (s[i]'hi) := List.getElem?_eq_getElem (by rw [size_toList]; exact hi)
      have HX := Lib.hid hxl; clear hxl
      have HI2 := fun p => Lib.hid (Lib.iterAt_heap wr w.heap.size s i p HI.out)
      have HB2 := fun p => Lib.hid (Lib.below_iterAt HB.out (Nat.le_refl _) s p)
      by_cases hx : (s[i]'hi).toNat < 128
      · have hnx := fun ty => Lib.run_next_ascii_at (P := Tryz.prog) wr w.heap.size s i ty HI.out hi hx
        have HI3 := HI2 (i + 1)
        have HB3 := HB2 (i + 1)
        clear HI2 HB2
        obtain ⟨x, hxx⟩ : ∃ x : UInt8, (s[i]'hi) = x := ⟨_, rfl⟩
        rw [hxx] at HX hx hnx
        clear hxx
        have hcon := Lib.contains_iff_indexByte chars.data.toList x
        have hback : ((x.toNat : Int)).toNat.toUInt8 = x := by simp
        cases hin : chars.data.toList.contains x
        · rw [hin] at hcon
          have hlt : ¬ ((0 : Int) ≤ Lib.indexByte chars.data.toList x) := of_decide_eq_false hcon.symm
          have HN2 := Lib.hid (HN.out.succ HX.out hin)
          clear hcon hin
          go_wp2_with (go_at_call 147; refine (Tryz.strings_IndexRune_ascii _ _ _ (by omega) (by omega)).mono ?_; rintro e w' ⟨rfl, hw⟩; rw [hw, hback])
          go_roundg g
          case measure => omega
          case rel => exact ⟨i + 1, by omega, HI3.out, HB3.out, HN2.out⟩
        · rw [hin] at hcon
          have hge : (0 : Int) ≤ Lib.indexByte chars.data.toList x := of_decide_eq_true hcon.symm
          have HH := Lib.hid (Lib.indexAny_hit HN.out HX.out hin)
          clear hcon hin
          go_wp2_with (go_at_call 147; refine (Tryz.strings_IndexRune_ascii _ _ _ (by omega) (by omega)).mono ?_; rintro e w' ⟨rfl, hw⟩; rw [hw, hback])
          go_ret
          exact ⟨by rw [HH.out]; rfl, HB3.out⟩
      · have hsk := decode_skip s i hi (by omega)
        have hnx := fun ty => Lib.run_next_any_at (P := Tryz.prog) wr w.heap.size s i ty HI.out hi
        obtain ⟨⟨r, wd⟩, hd⟩ : ∃ d, Utf8.decode s i = d := ⟨_, rfl⟩
        rw [hd] at hsk hnx
        clear hd hx
        obtain ⟨hs1, hs2, hs3, hs4, hs5⟩ := hsk
        simp only at hs1 hs2 hs3 hs4 hs5 hnx
        have HI3 := HI2 (i + wd)
        have HB3 := HB2 (i + wd)
        clear HI2 HB2
        have HN2 := Lib.hid (show Lib.NoAny s.data.toList chars.data.toList (i + wd) from fun j b hj hb => by
          rcases Nat.lt_or_ge j i with h3 | h3
          · exact HN.out j b h3 hb
          · have h4 := hs5 j b h3 hj hb
            cases h5 : chars.data.toList.contains b
            · rfl
            · have := HA.out b (by simpa using h5)
              omega)
        clear hs5
        have HV := Lib.hid hs2; clear hs2
        go_wp2_with (go_at_call 147; refine (indexRune_beyond chars r _ HA.out (by omega) HV.out).mono ?_; rintro e w' ⟨rfl, hb⟩; have HB4 := Lib.hid (HB3.out.trans (hb.mono HB3.out.size)); have HI4 := Lib.hid ((hb.block _ (Array.getElem?_eq_some_iff.1 HI3.out).1).trans HI3.out); clear hb)
        go_roundg (s.size - (i + wd))
        case measure => omega
        case rel => exact ⟨i + wd, by omega, HI4.out, HB4.out, HN2.out⟩

theorem indexAny_q (s chars : ByteArray) (w : World) (hs : s.size ≤ 1048576) (h2 : 2 ≤ chars.size) (hc : chars.size ≤ 1000) (ha : Asc chars) :
    Calls Tryz.prog 111 #[.string s, .string chars] w fun e w' => e = .returned (.int .i64 (Lib.indexAny s.data.toList chars.data.toList)) ∧ Below w.heap.size w w' := by
  by_cases h8 : 8 < s.size
  · refine (Tryz.strings_IndexAny_long (fun w => by kernel_rfl) s chars w h2 h8 (by omega) (by omega) (fun j b hb => ha b (List.mem_of_getElem? hb))).mono fun e w' ⟨he, hw⟩ => ⟨he, ?_⟩
    rw [hw]
    exact ((Below.refl _ _).alloc (Nat.le_refl _) _).alloc (by rw [World.size_alloc]; omega) _
  · exact indexAny_short s chars w h2 (by omega) ha

end Go.Proofs.YtbhildmalcfhiaaGreatDoor

namespace Go.Proofs.YtbhildmalcfhiaaGreatDoor
open Go.RowKit Go.Deep

/-- where the colon of a scheme stands -/
def colonB : List UInt8 → Option Nat
  | [] => none
  | b :: r => if b = 58 then some 0 else if b = 47 ∨ b = 63 ∨ b = 35 then none else (colonB r).map (· + 1)
theorem colon_prog : ∀ l : List UInt8, (colonB l = none ∧ (Lib.indexAny l [58, 47, 63, 35] = -1 ∨ ∃ (k : Nat) (b : UInt8), Lib.indexAny l [58, 47, 63, 35] = k ∧ l[k]? = some b ∧ b ≠ 58)) ∨ ∃ k : Nat, colonB l = some k ∧ Lib.indexAny l [58, 47, 63, 35] = k ∧ l[k]? = some 58
  | [] => Or.inl ⟨rfl, Or.inl rfl⟩
  | b :: r => by
    by_cases h1 : b = 58
    · subst h1
      exact Or.inr ⟨0, by simp [colonB], by simp [Lib.indexAny], rfl⟩
    by_cases h2 : b = 47 ∨ b = 63 ∨ b = 35
    · refine Or.inl ⟨by rw [colonB, if_neg h1, if_pos h2], Or.inr ⟨0, b, ?_, rfl, h1⟩⟩
      rcases h2 with rfl | rfl | rfl <;> simp [Lib.indexAny]
    · have hc : ([58, 47, 63, 35] : List UInt8).contains b = false := by
        simp only [List.contains_cons, List.contains_nil, Bool.or_false, Bool.or_eq_false_iff, beq_eq_false_iff_ne]
        exact ⟨h1, fun h => h2 (Or.inl h), fun h => h2 (Or.inr (Or.inl h)), fun h => h2 (Or.inr (Or.inr h))⟩
      have e : colonB (b :: r) = (colonB r).map (· + 1) := by rw [colonB, if_neg h1, if_neg h2]
      have e2 : Lib.indexAny (b :: r) [58, 47, 63, 35] = if Lib.indexAny r [58, 47, 63, 35] == -1 then -1 else Lib.indexAny r [58, 47, 63, 35] + 1 := by rw [Lib.indexAny, hc]; rfl
      rw [e, e2]
      rcases colon_prog r with ⟨h3, h4 | ⟨k, x, h4, h5, h6⟩⟩ | ⟨k, h3, h4, h5⟩
      · exact Or.inl ⟨by rw [h3]; rfl, Or.inl (by rw [h4]; rfl)⟩
      · refine Or.inl ⟨by rw [h3]; rfl, Or.inr ⟨k + 1, x, ?_, h5, h6⟩⟩
        rw [h4, if_neg (by simp)]; omega
      · refine Or.inr ⟨k + 1, by rw [h3]; rfl, ?_, h5⟩
        rw [h4, if_neg (by simp)]; omega
theorem colon_ref : ∀ l : List UInt8, (colonB l = none ∧ (Lib.indexByte l 58 = -1 ∨ ∃ k j : Nat, Lib.indexByte l 58 = k ∧ Lib.indexAny l [47, 63, 35] = j ∧ j < k)) ∨ ∃ k : Nat, colonB l = some k ∧ Lib.indexByte l 58 = k ∧ l[k]? = some 58 ∧ (Lib.indexAny l [47, 63, 35] = -1 ∨ ∃ j : Nat, Lib.indexAny l [47, 63, 35] = j ∧ k < j)
  | [] => Or.inl ⟨rfl, Or.inl rfl⟩
  | b :: r => by
    by_cases h1 : b = 58
    · subst h1
      refine Or.inr ⟨0, by simp [colonB], by simp [Lib.indexByte], rfl, ?_⟩
      have hc : ([47, 63, 35] : List UInt8).contains 58 = false := by decide
      have e2 : Lib.indexAny (58 :: r) [47, 63, 35] = if Lib.indexAny r [47, 63, 35] == -1 then -1 else Lib.indexAny r [47, 63, 35] + 1 := by rw [Lib.indexAny, hc]; rfl
      rw [e2]
      have h3 := Lib.indexAny_ge [47, 63, 35] r
      by_cases h4 : Lib.indexAny r [47, 63, 35] = -1
      · rw [h4]; exact Or.inl rfl
      · obtain ⟨j, hj⟩ : ∃ j : Nat, Lib.indexAny r [47, 63, 35] = j := ⟨(Lib.indexAny r [47, 63, 35]).toNat, by omega⟩
        refine Or.inr ⟨j + 1, ?_, by omega⟩
        rw [hj, if_neg (by simp)]; omega
    have hb : (b == 58) = false := by simpa using h1
    have e1 : Lib.indexByte (b :: r) 58 = if Lib.indexByte r 58 == -1 then -1 else Lib.indexByte r 58 + 1 := by rw [Lib.indexByte, hb]; rfl
    by_cases h2 : b = 47 ∨ b = 63 ∨ b = 35
    · refine Or.inl ⟨by rw [colonB, if_neg h1, if_pos h2], ?_⟩
      have e2 : Lib.indexAny (b :: r) [47, 63, 35] = 0 := by rcases h2 with rfl | rfl | rfl <;> simp [Lib.indexAny]
      have h3 := Lib.indexByte_ge r 58
      by_cases h4 : Lib.indexByte r 58 = -1
      · exact Or.inl (by rw [e1, h4]; rfl)
      · obtain ⟨j, hj⟩ : ∃ j : Nat, Lib.indexByte r 58 = j := ⟨(Lib.indexByte r 58).toNat, by omega⟩
        refine Or.inr ⟨j + 1, 0, ?_, e2, by omega⟩
        rw [e1, hj, if_neg (by simp)]; omega
    · have hc : ([47, 63, 35] : List UInt8).contains b = false := by
        simp only [List.contains_cons, List.contains_nil, Bool.or_false, Bool.or_eq_false_iff, beq_eq_false_iff_ne]
        exact ⟨fun h => h2 (Or.inl h), fun h => h2 (Or.inr (Or.inl h)), fun h => h2 (Or.inr (Or.inr h))⟩
      have e : colonB (b :: r) = (colonB r).map (· + 1) := by rw [colonB, if_neg h1, if_neg h2]
      have e2 : Lib.indexAny (b :: r) [47, 63, 35] = if Lib.indexAny r [47, 63, 35] == -1 then -1 else Lib.indexAny r [47, 63, 35] + 1 := by rw [Lib.indexAny, hc]; rfl
      rw [e, e1, e2]
      rcases colon_ref r with ⟨h3, h4 | ⟨k, j, h4, h5, h6⟩⟩ | ⟨k, h3, h4, h5, h6⟩
      · exact Or.inl ⟨by rw [h3]; rfl, Or.inl (by rw [h4]; rfl)⟩
      · refine Or.inl ⟨by rw [h3]; rfl, Or.inr ⟨k + 1, j + 1, ?_, ?_, by omega⟩⟩
        · rw [h4, if_neg (by simp)]; omega
        · rw [h5, if_neg (by simp)]; omega
      · refine Or.inr ⟨k + 1, by rw [h3]; rfl, ?_, h5, ?_⟩
        · rw [h4, if_neg (by simp)]; omega
        · rcases h6 with h6 | ⟨j, h6, h7⟩
          · rw [h6]; exact Or.inl rfl
          · refine Or.inr ⟨j + 1, ?_, by omega⟩
            rw [h6, if_neg (by simp)]; omega

theorem asc_colon : Asc ⟨#[58, 47, 63, 35]⟩ := by intro b hb; simp at hb; rcases hb with rfl | rfl | rfl | rfl <;> decide
theorem asc_three : Asc ⟨#[47, 63, 35]⟩ := by intro b hb; simp at hb; rcases hb with rfl | rfl | rfl <;> decide
theorem any_v (s chars : ByteArray) (v : Int) (w : World) (hs : s.size ≤ 1048576) (h2 : 2 ≤ chars.size) (hc : chars.size ≤ 1000) (ha : Asc chars) (hv : Lib.indexAny s.data.toList chars.data.toList = v) :
    Calls Tryz.prog 111 #[.string s, .string chars] w fun e w' => e = .returned (.int .i64 v) ∧ Below w.heap.size w w' := by
  subst hv; exact indexAny_q s chars w hs h2 hc ha
theorem byte_v (s : ByteArray) (c : UInt8) (n v : Int) (w : World) (hn : (c.toNat : Int) = n) (hv : Lib.indexByte s.data.toList c = v) :
    Calls Tryz.prog 150 #[.string s, .int .u8 n] w fun e w' => e = .returned (.int .i64 v) ∧ w = w' := by
  subst hn
  have hback : ((c.toNat : Int)).toNat.toUInt8 = c := by simp
  refine (Tryz.strings_IndexByte s (c.toNat : Int) w).mono fun e w' ⟨he, hw⟩ => ⟨?_, hw.symm⟩
  rw [he, hback, hv]

def dblS : ByteArray := ⟨#[47, 47]⟩
def outB (l : List UInt8) : Bool := (colonB l).isSome || Lib.hasPrefix l dblS.data.toList
def OutBPost (v : Bool) (w : World) (e : Ending) (w' : World) : Prop := e = .returned (.bool v) ∧ Below w.heap.size w w'
set_option maxRecDepth 100000 in
set_option maxHeartbeats 4000000 in
theorem outsideP_q (s : ByteArray) (w : World) (hs : s.size ≤ 1048576) :
    Calls Tryz.prog 73 #[.string s] w (OutBPost (outB s.data.toList) w) := by
  obtain ⟨p, hp⟩ : ∃ p, Lib.hasPrefix s.data.toList dblS.data.toList = p := ⟨_, rfl⟩
  have HP := Lib.hid (show Lib.hasPrefix s.data.toList (⟨#[47, 47]⟩ : ByteArray).data.toList = p from hp)
  rcases colon_prog s.data.toList with ⟨h1, h2 | ⟨k, b, h2, h3, h4⟩⟩ | ⟨k, h1, h2, h3⟩
  · have HI := Lib.hid (any_v s ⟨#[58, 47, 63, 35]⟩ (-1) w hs (by decide) (by decide) asc_colon h2)
    have HV := Lib.hid (show outB s.data.toList = p by rw [outB, h1, hp]; rfl)
    clear h1 h2 hp
    go_enter Tryz.func73, Tryz.ntmps73
    go_wp2_with (first
      | (go_at_call 111; go_must (refine HI.out.mono ?_); rintro e w1 ⟨rfl, hb⟩; have HB1 := Lib.hid hb; clear hb)
      | (go_at_call 28; go_must (refine (hasPrefix_v _ _ p _ HP.out).mono ?_); rintro e w2 ⟨rfl, rfl⟩))
    go_ret
    exact ⟨by rw [HV.out]; rfl, HB1.out⟩
  · have HI := Lib.hid (any_v s ⟨#[58, 47, 63, 35]⟩ k w hs (by decide) (by decide) asc_colon h2)
    have HV := Lib.hid (show outB s.data.toList = p by rw [outB, h1, hp]; rfl)
    have hk : k < s.size := by have := (List.getElem?_eq_some_iff.1 h3).1; rwa [size_toList] at this
    have hk2 : (k : Int) < (s.size : Int) := by omega
    have hk0 : (0 : Int) ≤ (k : Int) := by omega
    have hb : s[k]'hk = b := by
      have e := h3
      rw [List.getElem?_eq_getElem (by rw [size_toList]; exact hk)] at e
      exact Option.some.inj e
    have hne : (((s[k]'hk).toNat : Int) == 58) = false := by
      rw [hb, beq_eq_false_iff_ne]
      intro e
      apply h4
      apply UInt8.toNat_inj.1
      show b.toNat = 58
      omega
    clear h1 h2 h3 h4 hb hp
    go_enter Tryz.func73, Tryz.ntmps73
    go_wp2_with (first
      | (go_at_call 111; go_must (refine HI.out.mono ?_); rintro e w1 ⟨rfl, hb⟩; have HB1 := Lib.hid hb; clear hb)
      | (go_at_call 28; go_must (refine (hasPrefix_v _ _ p _ HP.out).mono ?_); rintro e w2 ⟨rfl, rfl⟩))
    go_ret
    exact ⟨by rw [HV.out]; rfl, HB1.out⟩
  · have HI := Lib.hid (any_v s ⟨#[58, 47, 63, 35]⟩ k w hs (by decide) (by decide) asc_colon h2)
    have HV := Lib.hid (show outB s.data.toList = true by rw [outB, h1]; rfl)
    have hk : k < s.size := by have := (List.getElem?_eq_some_iff.1 h3).1; rwa [size_toList] at this
    have hk2 : (k : Int) < (s.size : Int) := by omega
    have hk0 : (0 : Int) ≤ (k : Int) := by omega
    have hb : (((s[k]'hk).toNat : Int) == 58) = true := by
      have e := h3
      rw [List.getElem?_eq_getElem (by rw [size_toList]; exact hk)] at e
      have e2 : s[k]'hk = 58 := Option.some.inj e
      rw [e2]; rfl
    clear h1 h2 h3 hp
    go_enter Tryz.func73, Tryz.ntmps73
    go_wp2_with (first
      | (go_at_call 111; go_must (refine HI.out.mono ?_); rintro e w1 ⟨rfl, hb⟩; have HB1 := Lib.hid hb; clear hb)
      | (go_at_call 28; go_must (refine (hasPrefix_v _ _ p _ HP.out).mono ?_); rintro e w2 ⟨rfl, rfl⟩))
    go_ret
    exact ⟨by rw [HV.out]; rfl, HB1.out⟩

set_option maxRecDepth 100000 in
set_option maxHeartbeats 4000000 in
theorem outsideR_q (s : ByteArray) (w : World) (hs : s.size ≤ 1048576) :
    Calls Tryz.prog 119 #[.string s] w (OutBPost (outB s.data.toList) w) := by
  obtain ⟨p, hp⟩ : ∃ p, Lib.hasPrefix s.data.toList dblS.data.toList = p := ⟨_, rfl⟩
  have HP := Lib.hid (show Lib.hasPrefix s.data.toList (⟨#[47, 47]⟩ : ByteArray).data.toList = p from hp)
  rcases colon_ref s.data.toList with ⟨h1, h2 | ⟨k, j, h2, h3, h4⟩⟩ | ⟨k, h1, h2, _, h3 | ⟨j, h3, h4⟩⟩
  · obtain ⟨u, hu⟩ : ∃ u, Lib.indexAny s.data.toList [47, 63, 35] = u := ⟨_, rfl⟩
    have HJ := Lib.hid (fun w => byte_v s 58 58 (-1) w rfl h2)
    have HI := Lib.hid (fun w => any_v s ⟨#[47, 63, 35]⟩ u w hs (by decide) (by decide) asc_three hu)
    have HV := Lib.hid (show outB s.data.toList = p by rw [outB, h1, hp]; rfl)
    clear h1 h2 hp hu
    cases p <;>
    (
    go_enter Tryz.func119, Tryz.ntmps119
    go_wp2_with (first
      | (go_at_call 150; go_must (refine (HJ.out _).mono ?_); rintro e w1 ⟨rfl, rfl⟩)
      | (go_at_call 111; go_must (refine (HI.out _).mono ?_); rintro e w1 ⟨rfl, hb⟩; have HB1 := Lib.hid hb; clear hb)
      | (go_at_call 28; go_must (refine (hasPrefix_v _ _ _ _ HP.out).mono ?_); rintro e w2 ⟨rfl, rfl⟩))
    go_ret
    exact ⟨by rw [HV.out]; rfl, HB1.out⟩
    )
  · have HJ := Lib.hid (fun w => byte_v s 58 58 k w rfl h2)
    have HI := Lib.hid (fun w => any_v s ⟨#[47, 63, 35]⟩ j w hs (by decide) (by decide) asc_three h3)
    have HV := Lib.hid (show outB s.data.toList = p by rw [outB, h1, hp]; rfl)
    have t1 : decide ((j : Int) < 0) = false := by simp
    have t2 : decide ((k : Int) < (j : Int)) = false := by simp; omega
    have t3 : decide (k < j) = false := by simp; omega
    clear h1 h2 hp h3 h4
    cases p <;>
    (
    go_enter Tryz.func119, Tryz.ntmps119
    go_wp2_with (first
      | (go_at_call 150; go_must (refine (HJ.out _).mono ?_); rintro e w1 ⟨rfl, rfl⟩)
      | (go_at_call 111; go_must (refine (HI.out _).mono ?_); rintro e w1 ⟨rfl, hb⟩; have HB1 := Lib.hid hb; clear hb)
      | (go_at_call 28; go_must (refine (hasPrefix_v _ _ _ _ HP.out).mono ?_); rintro e w2 ⟨rfl, rfl⟩))
    go_ret
    exact ⟨by rw [HV.out]; rfl, HB1.out⟩
    )
  · have HJ := Lib.hid (fun w => byte_v s 58 58 k w rfl h2)
    have HI := Lib.hid (fun w => any_v s ⟨#[47, 63, 35]⟩ (-1) w hs (by decide) (by decide) asc_three h3)
    have HV := Lib.hid (show outB s.data.toList = true by rw [outB, h1]; rfl)
    have t1 : (0 : Int) ≤ (k : Int) := by omega
    clear h1 h2 hp h3
    cases p <;>
    (
    go_enter Tryz.func119, Tryz.ntmps119
    go_wp2_with (first
      | (go_at_call 150; go_must (refine (HJ.out _).mono ?_); rintro e w1 ⟨rfl, rfl⟩)
      | (go_at_call 111; go_must (refine (HI.out _).mono ?_); rintro e w1 ⟨rfl, hb⟩; have HB1 := Lib.hid hb; clear hb)
      | (go_at_call 28; go_must (refine (hasPrefix_v _ _ _ _ HP.out).mono ?_); rintro e w2 ⟨rfl, rfl⟩))
    go_ret
    exact ⟨by rw [HV.out]; rfl, HB1.out⟩
    )
  · have HJ := Lib.hid (fun w => byte_v s 58 58 k w rfl h2)
    have HI := Lib.hid (fun w => any_v s ⟨#[47, 63, 35]⟩ j w hs (by decide) (by decide) asc_three h3)
    have HV := Lib.hid (show outB s.data.toList = true by rw [outB, h1]; rfl)
    have t1 : (0 : Int) ≤ (k : Int) := by omega
    have t2 : decide ((k : Int) < (j : Int)) = true := by simp; omega
    have t3 : decide (k < j) = true := by simp; omega
    clear h1 h2 hp h3 h4
    cases p <;>
    (
    go_enter Tryz.func119, Tryz.ntmps119
    go_wp2_with (first
      | (go_at_call 150; go_must (refine (HJ.out _).mono ?_); rintro e w1 ⟨rfl, rfl⟩)
      | (go_at_call 111; go_must (refine (HI.out _).mono ?_); rintro e w1 ⟨rfl, hb⟩; have HB1 := Lib.hid hb; clear hb)
      | (go_at_call 28; go_must (refine (hasPrefix_v _ _ _ _ HP.out).mono ?_); rintro e w2 ⟨rfl, rfl⟩))
    go_ret
    exact ⟨by rw [HV.out]; rfl, HB1.out⟩
    )

end Go.Proofs.YtbhildmalcfhiaaGreatDoor

namespace Go.Proofs.YtbhildmalcfhiaaGreatDoor
open Go.RowKit Go.Deep

theorem unBA_le (s : ByteArray) : (unBA s).size ≤ s.size := by
  have h := unU_len s.data.toList
  rw [size_toList] at h
  exact h
theorem ext_le (s : ByteArray) (a b : Nat) : (s.extract a b).size ≤ s.size := by rw [ByteArray.size_extract]; omega
theorem attVal_size (s : ByteArray) (k : Nat) : (attVal s k).1.size ≤ s.size := by
  unfold attVal
  split
  · split
    · exact Nat.le_trans (unBA_le _) (ext_le _ _ _)
    · exact Nat.le_trans (unBA_le _) (ext_le _ _ _)
  · exact Nat.zero_le _
theorem attsF_size (s : ByteArray) : ∀ (f i : Nat) (a : AttrR), a ∈ (attsF s f i).1 → a.value.size ≤ s.size
  | 0, i, a, h => by simp [attsF] at h
  | f + 1, i, a, h => by
    rw [attsF] at h
    split at h
    · split at h
      · simp at h
      · split at h
        · rcases List.mem_cons.1 h with rfl | h
          · exact attVal_size s _
          · exact attsF_size s f _ a h
        · exact attsF_size s f _ a h
    · simp at h
theorem tokAt_size {s : ByteArray} {i : Nat} {a : AttrR} (h : a ∈ (tokAt s i).1.atts) : a.value.size ≤ s.size := by
  unfold tokAt at h
  split at h
  · simp at h
  · simp at h
  · simp at h
  · exact attsF_size s _ _ a h
  · simp at h
theorem charsL_no {s : ByteArray} {a b : Nat} {t : TokR} (h : t ∈ charsL s a b) : t.atts = [] := by
  unfold charsL at h
  split at h
  · simp at h; subst h; rfl
  · simp at h
theorem toksF_size (s : ByteArray) : ∀ (f i a : Nat) (t : TokR), t ∈ toksF s f i a → ∀ x ∈ t.atts, x.value.size ≤ s.size
  | 0, i, a, t, h => fun x hx => by rw [charsL_no h] at hx; cases hx
  | f + 1, i, a, t, h => by
    rw [toksF] at h
    split at h
    · split at h
      · exact toksF_size s f _ _ t h
      · rcases List.mem_append.1 h with h | h
        · rcases List.mem_append.1 h with h | h
          · intro x hx; rw [charsL_no h] at hx; cases hx
          · unfold tokL at h
            rcases List.mem_cons.1 h with rfl | h
            · exact fun x hx => tokAt_size hx
            · split at h
              · intro x hx; rw [charsL_no h] at hx; cases hx
              · simp at h
        · exact toksF_size s f _ _ t h
    · intro x hx; rw [charsL_no h] at hx; cases hx
theorem tokR_size {s : ByteArray} {t : TokR} (h : t ∈ tokR s) : ∀ x ∈ t.atts, x.value.size ≤ 200000 := by
  unfold tokR at h
  split at h
  · rename_i h1
    intro x hx
    have := toksF_size s _ _ _ t h x hx
    unfold tokE at h1
    split at h1
    · cases h1
    · omega
  · simp at h
theorem linksV_size {p s : ByteArray} {x : LinkR} (h : x ∈ linksV p (tokR s)) : x.target.size ≤ 200000 ∧ x.path = p := by
  unfold linksV at h
  obtain ⟨t, ht, h⟩ := List.mem_flatMap.1 h
  unfold linkT at h
  obtain ⟨a, ha, h⟩ := List.mem_flatMap.1 h
  unfold linkA at h
  split at h
  · rw [List.mem_singleton.1 h]
    exact ⟨tokR_size ht a ha, rfl⟩
  · cases h

theorem walkP_sum : ∀ (ps L M : List ByteArray), walkP L ps = some M → sumL (strs8 M) ≤ sumL (strs8 L) + sumL (strs8 ps)
  | [], L, M, h => by rw [walkP] at h; cases h; omega
  | p :: r, L, M, h => by
    rw [walkP] at h
    have hc : sumL (strs8 (p :: r)) = p.data.toList.length + 1 + sumL (strs8 r) := by simp [strs8, sumL]
    have hd : sumL (strs8 L.dropLast) ≤ sumL (strs8 L) := by
      rw [List.dropLast_eq_take, strs8, List.map_take]; exact sumL_take _ _
    cases hs : stepP L p with
    | none => rw [hs] at h; cases h
    | some N =>
      rw [hs] at h
      have ih := walkP_sum r N M h
      unfold stepP at hs
      split at hs
      · cases hs; omega
      · split at hs
        · split at hs
          · cases hs
          · cases hs; omega
        · cases hs
          have : sumL (strs8 (L ++ [p])) = sumL (strs8 L) + (p.data.toList.length + 1) := by
            simp only [strs8, List.map_append, sumL_append]; simp [sumL]
          omega
/-- where a target leads -/
noncomputable def placeOf (p t : ByteArray) : Option (ByteArray × Bool) :=
  if (bareS t).size = 0 then some (p, false) else (resP (pageP p) (decS (bareS t))).map fun L => (endP L (dirL (lastP (decS (bareS t)))), dirL (lastP (decS (bareS t))))
theorem endP_size {L : List ByteArray} {d : Bool} : (endP L d).size ≤ (joinP L).size + 11 := by
  unfold endP
  split
  · split
    · show 10 ≤ _; omega
    · rw [ByteArray.size_append, ByteArray.size_append]
      show (joinP L).size + 1 + 10 ≤ _; omega
  · omega
theorem resV_form {p t : ByteArray} {o : Option (List ByteArray)} {d : Bool} (hp : p.size ≤ 200) (ht : t.size ≤ 1048000) (ho : resP (pageP p) (decS (bareS t)) = o) (hd : dirL (lastP (decS (bareS t))) = d) :
    ∃ (x : ByteArray) (d2 sf ok : Bool), resV p t o d = .tuple #[.agg (placeC x d2 sf), .bool ok] ∧ placeOf p t = (if ok = true then some (x, d2) else none) ∧ x.size ≤ 1048570 := by
  by_cases h0 : (bareS t).size = 0
  · exact ⟨p, false, true, true, resV_self h0, by rw [placeOf, if_pos h0]; rfl, by omega⟩
  · cases o with
    | none => exact ⟨⟨#[]⟩, false, false, false, resV_none h0, by rw [placeOf, if_neg h0, ho]; rfl, Nat.zero_le _⟩
    | some L =>
      refine ⟨endP L d, d, false, true, resV_some h0, by rw [placeOf, if_neg h0, ho, hd]; rfl, ?_⟩
      have h1 := endP_size (L := L) (d := d)
      have h2 := join_le (strs8 L)
      have h3 : (joinP L).size = (Lib.join (strs8 L) [47]).length := by rw [← size_toList]; rfl
      have h4 := walkP_sum _ _ _ ho
      have h5 : sumL (strs8 (cutP (decS (bareS t)))) = (decS (bareS t)).size + 1 := by rw [cutP_map, splitC_sum, size_toList]
      have h6 := decS_le (bareS t)
      have h7 := bareS_le t
      have h8 : sumL (strs8 (if Lib.hasPrefix (decS (bareS t)).data.toList [47] = true then [] else pageP p)) ≤ p.size + 1 := by
        split
        · simp [strs8, sumL]
        · exact pageP_sum p
      omega
/-- the output to which a link's target leads -/
noncomputable def refT (f : List UInt8 → Option Bool) (p t : ByteArray) : Option ByteArray :=
  if outB t.data.toList = true then none else (placeOf p t).bind fun x => leadF f x.1 x.2
noncomputable def refsF (f : List UInt8 → Option Bool) (p : ByteArray) (D : List LinkR) : List ByteArray := D.filterMap fun x => refT f p x.target
theorem refT_out {f : List UInt8 → Option Bool} {p t : ByteArray} (h : outB t.data.toList = true) : refT f p t = none := by rw [refT, if_pos h]
theorem refT_no {f : List UInt8 → Option Bool} {p t : ByteArray} (h : outB t.data.toList = false) (h2 : placeOf p t = none) : refT f p t = none := by rw [refT, if_neg (by rw [h]; simp), h2]; rfl
theorem refT_at {f : List UInt8 → Option Bool} {p t x : ByteArray} {d : Bool} (h : outB t.data.toList = false) (h2 : placeOf p t = some (x, d)) : refT f p t = leadF f x d := by rw [refT, if_neg (by rw [h]; simp), h2]; rfl
theorem refs_step {f : List UInt8 → Option Bool} {p : ByteArray} {D : List LinkR} {k : Nat} {x : LinkR} {R : List ByteArray} {o : Option ByteArray} (h : refsF f p (D.take k) = R) (hx : D[k]? = some x) (ho : refT f p x.target = o) : refsF f p (D.take (k + 1)) = R ++ o.toList := by
  obtain ⟨hk, rfl⟩ := List.getElem?_eq_some_iff.1 hx
  rw [← h, List.take_succ_eq_append_getElem hk, refsF, refsF, List.filterMap_append]
  cases o with
  | none => simp [ho]
  | some y => simp [ho]
end Go.Proofs.YtbhildmalcfhiaaGreatDoor

namespace Go.Proofs.YtbhildmalcfhiaaGreatDoor
open Go.RowKit Go.Deep

def RefsPost (R : List ByteArray) (w : World) (e : Ending) (w' : World) : Prop :=
  ∃ (B : Nat) (A : Option Addr) (c : Nat), w.heap.size ≤ B ∧ e = .returned (.slice A R.length c) ∧ w'.ownsRow B 9 1 (.slice A R.length c) R.length (pstrs R) ∧ Below w.heap.size w w'
theorem RefsPost.mk {R R' : List ByteArray} {A : Option Addr} {B c q : Nat} {w w' : World} (hB : w.heap.size ≤ B) (h : R' = R) (hq : R.length = q) (ho : w'.ownsRow B 9 1 (.slice A q c) q (pstrs R)) (hb : Below w.heap.size w w') : RefsPost R' w (.returned (.slice A q c)) w' := by
  subst h; subst hq
  exact ⟨B, A, c, hB, rfl, ho, hb⟩
theorem linkCells_at {D : List LinkR} {k : Nat} {x : LinkR} (h : D[k]? = some x) : (linkCells D)[k * 3]? = some (.string x.path) ∧ (linkCells D)[k * 3 + 1]? = some (.int .i64 (x.at_ : Int)) ∧ (linkCells D)[k * 3 + 2]? = some (.string x.target) := by
  induction D generalizing k with
  | nil => simp at h
  | cons y r ih =>
    have e : linkCells (y :: r) = .string y.path :: .int .i64 (y.at_ : Int) :: .string y.target :: linkCells r := by simp [linkCells, linkRow]
    cases k with
    | zero => simp only [List.getElem?_cons_zero, Option.some.injEq] at h; subst h; rw [e]; exact ⟨rfl, rfl, rfl⟩
    | succ k =>
      rw [List.getElem?_cons_succ] at h
      have := ih h
      rw [e, show (k + 1) * 3 = k * 3 + 1 + 1 + 1 by omega]
      exact this

set_option maxRecDepth 100000 in
set_option maxHeartbeats 8000000 in
theorem references_q (p : ByteArray) (L : List (TokR × Value)) (v : Value) (D : List LinkR) (bm n : Nat) (f : List UInt8 → Option Bool) (w : World) (h : ToksIn w v L) (hL : L.length ≤ 1048576) (hat : ∀ x ∈ L, x.1.atts.length ≤ 1048576)
    (hD : linksV p (L.map (·.1)) = D) (hDs : ∀ x ∈ D, x.target.size ≤ 1048000) (hDl : D.length ≤ 4000000000) (hp : pathB p = true) (hm : MaxAt w) (hM : BMap Tryz.prog 9 4 w bm n f) :
    Calls Tryz.prog 39 #[.string p, v, .map (some bm)] w (RefsPost (refsF f p D) w) := by
  have HLk := Lib.hid (by have := linksOf_q p L v w h hL hat; rw [hD] at this; exact this)
  have HP := Lib.hid hp; have HM := Lib.hid hM; have HMx := Lib.hid hm; have HDs := Lib.hid hDs
  have hps : p.size ≤ 200 := path_size hp
  clear h hat hD hp hm hM hDs hL
  go_enter Tryz.func39, Tryz.ntmps39
  go_wp2_with (go_at_call 26; go_must (refine HLk.out.mono ?_); rintro e w5 ⟨Ad, cd, rfl, ownD, hb⟩; have HOD := Lib.hid ownD; have HB5 := Lib.hid hb; clear ownD hb)
  clear HLk
  obtain ⟨B, hBe⟩ : ∃ B, w5.heap.size = B := ⟨_, rfl⟩
  have HBe := Lib.hid hBe
  have hBw : B ≤ w5.heap.size := by omega
  have HB0 := Lib.hid (Below.refl B w5)
  have HM5 := Lib.hid (HM.out.below HB5.out)
  have HMx5 := Lib.hid (HMx.out.keep (Keeps.of_below HB5.out))
  have HMB := Lib.hid (show bm < B by rw [← hBe]; exact HM5.out.lt)
  have HCell := Lib.hid (show ∀ wr, Below B w5 wr → ∀ k x, D[k]? = some x → ∃ g, Ad = some ⟨g, 0, none⟩ ∧ wr.cell? ⟨g, k * 3, none⟩ = some (.string x.path) ∧ wr.cell? ⟨g, k * 3 + 1, none⟩ = some (.int .i64 (x.at_ : Int)) ∧ wr.cell? ⟨g, k * 3 + 2, none⟩ = some (.string x.target) from fun wr hb k x hx => by
    rw [← hBe] at hb
    have hk := (List.getElem?_eq_some_iff.1 hx).1
    obtain ⟨A', c', hv, _, _, hA⟩ := own_form HOD.out
    cases hv
    obtain ⟨g, hg, _, _⟩ := hA (by omega)
    subst hg
    have hc := linkCells_at hx
    refine ⟨g, rfl, ?_, ?_, ?_⟩
    · have := HOD.out.cellAt (k * 3) (by omega); rw [hc.1] at this; exact Keeps.of_below hb _ _ this
    · have := HOD.out.cellAt (k * 3 + 1) (by omega); rw [hc.2.1] at this; exact Keeps.of_below hb _ _ this
    · have := HOD.out.cellAt (k * 3 + 2) (by omega); rw [hc.2.2] at this; exact Keeps.of_below hb _ _ this)
  have HM9 := Lib.hid (show ∀ wr, Below B w5 wr → BMap Tryz.prog 9 4 wr bm n f ∧ MaxAt wr from fun wr hb => by rw [← hBe] at hb; exact ⟨HM5.out.below hb, HMx5.out.keep (Keeps.of_below hb)⟩)
  clear hBe HOD HM5 HMx5 HMx HM
  go_loopw [7, 18] (fun t7 t18 wr => ∃ (k : Nat) (R : List ByteArray) (A : Option Addr) (c q : Nat), t7 = .slice A q c ∧ t18 = .int .i64 k ∧ R.length = q ∧ k ≤ D.length ∧ q ≤ k ∧ Hid (refsF f p (D.take k) = R) ∧ Hid (wr.ownsRow B 9 1 (.slice A q c) q (pstrs R)) ∧ Hid (Below B w5 wr)) (fun _ t18 _ => D.length - (intOf t18).toNat)
  case atStart => exact ⟨0, [], none, 0, 0, rfl, rfl, rfl, Nat.zero_le _, Nat.le_refl _, rfl, World.ownsRow_nil _ _ _ _, HB0⟩
  case round =>
    clear HB0
    obtain ⟨k, R, A, c, q, rfl, rfl, hq, hk, hqk, HR, HO, HB⟩ := hrel
    obtain ⟨wo, rfl⟩ : ∃ wo : World, wo = wr := ⟨_, rfl⟩
    by_cases hlt : k < D.length
    · obtain ⟨x, hx⟩ : ∃ x, D[k]? = some x := ⟨_, List.getElem?_eq_getElem hlt⟩
      obtain ⟨g, rfl, p0, p1, p2⟩ := HCell.out wo HB.out k x hx
      have hts := HDs.out x (List.mem_of_getElem? hx)
      have HSt := Lib.hid (fun (o : Option ByteArray) ho => refs_step (o := o) HR.out hx ho)
      have hBo : B ≤ wo.heap.size := by have := HB.out.size; omega
      clear hx
      obtain ⟨lp, la, tg⟩ := x
      simp only at p0 p1 p2 hts HSt
      obtain ⟨vo, hvo⟩ : ∃ b, outB tg.data.toList = b := ⟨_, rfl⟩
      have HOut := Lib.hid (fun w => by have := outsideP_q tg w (by omega); rw [hvo] at this; exact this)
      have HBl := Lib.hid (HB.out.alloc hBo (.cells #[.string lp, .int .i64 (la : Int), .string tg] 34))
      have HOl := Lib.hid (own_alloc HO.out (.cells #[.string lp, .int .i64 (la : Int), .string tg] 34))
      have HTl := Lib.hid (CB.new wo #[.string lp, .int .i64 (la : Int), .string tg] 34)
      obtain ⟨T, hT⟩ : ∃ T, wo.heap.size = T := ⟨_, rfl⟩
      rw [hT] at HTl
      cases vo with
      | true =>
        have HR2 := Lib.hid (HSt.out none (refT_out hvo))
        clear hvo HSt
        go_wp2_with (go_at_call 73; go_must (refine (HOut.out _).mono ?_); rintro e w6 ⟨rfl, hb⟩; have HB6 := Lib.hid (HBl.out.trans (hb.mono (by simp; omega))); have HO6 := Lib.hid (own_stay HOl.out hb); clear hb)
        go_roundw
        case rel => exact ⟨k + 1, R, A, c, q, rfl, by go_num, hq, by omega, by omega, Lib.hid (by have := HR2.out; rw [Option.toList_none, List.append_nil] at this; exact this), HO6, HB6⟩
        case measure => simp [intOf]; omega
      | false =>
        obtain ⟨x, d2, sf, ok, hv, hpl, hxs⟩ := resV_form (d := dirL (lastP (decS (bareS tg)))) hps (by omega) rfl rfl
        have HRs := Lib.hid (fun w hm => (resolved_q p tg _ _ _ w hm HP.out (by omega) rfl rfl rfl).mono fun e w' h9 => (⟨h9.1.trans (congrArg Ending.returned hv), h9.2⟩ : e = .returned (.tuple #[.agg #[.string x, .bool d2, .bool sf], .bool ok]) ∧ Below w.heap.size w w'))
        clear hv
        cases ok with
        | false =>
          have HR2 := Lib.hid (HSt.out none (refT_no hvo hpl))
          clear hvo HSt hpl
          go_upto_region 6 with (go_at_call 73; go_loud (refine (HOut.out _).mono ?_; rintro e w6 ⟨rfl, hb⟩; have HB6 := Lib.hid (HBl.out.trans (hb.mono (by simp; omega))); have HO6 := Lib.hid (own_stay HOl.out hb); have HT6 := Lib.hid (HTl.out.below hb); clear hb))
          have hB6 : B ≤ w6.heap.size := by have := HB6.out.size; omega
          have c2 : w6.cell? ⟨T, 2, none⟩ = some (.string tg) := HT6.out.c 2
          go_wp2_with (go_at_call 74; go_loud (refine (HRs.out _ (HM9.out _ HB6.out).2).mono ?_; rintro e w7 ⟨rfl, hb⟩; have HB7 := Lib.hid (HB6.out.trans (hb.mono hB6)); have HO7 := Lib.hid (own_stay HO6.out hb); have hB7 : B ≤ w7.heap.size := Nat.le_trans hB6 hb.size; clear hb))
          go_roundw
          case rel => exact ⟨k + 1, R, A, c, q, rfl, by go_num, hq, by omega, by omega, Lib.hid (by have := HR2.out; rw [Option.toList_none, List.append_nil] at this; exact this), own_alloc HO7.out _, HB7.out.alloc hB7 _⟩
          case measure => simp [intOf]; omega
        | true =>
          obtain ⟨lo, hlo⟩ : ∃ o, leadF f x d2 = o := ⟨_, rfl⟩
          have HLd := Lib.hid hlo
          have HR2 := Lib.hid (HSt.out lo ((refT_at hvo hpl).trans hlo))
          clear hvo HSt hpl hlo HO HB
          go_upto_region 6 with (go_at_call 73; go_loud (refine (HOut.out _).mono ?_; rintro e w6 ⟨rfl, hb⟩; have HB6 := Lib.hid (HBl.out.trans (hb.mono (by simp; omega))); have HO6 := Lib.hid (own_stay HOl.out hb); have HT6 := Lib.hid (HTl.out.below hb); clear hb))
          have hB6 : B ≤ w6.heap.size := by have := HB6.out.size; omega
          have c2 : w6.cell? ⟨T, 2, none⟩ = some (.string tg) := HT6.out.c 2
          go_upto_region 8 with (go_at_call 74; go_loud (refine (HRs.out _ (HM9.out _ HB6.out).2).mono ?_; rintro e w7 ⟨rfl, hb⟩; have HB7 := Lib.hid (HB6.out.trans (hb.mono hB6)); have HO7 := Lib.hid (own_stay HO6.out hb); have hB7 : B ≤ w7.heap.size := Nat.le_trans hB6 hb.size; clear hb))
          have HB8 := Lib.hid (HB7.out.alloc hB7 (.cells #[.string x, .bool d2, .bool sf] 126))
          have HO8 := Lib.hid (own_alloc HO7.out (.cells #[.string x, .bool d2, .bool sf] 126))
          have HL := Lib.hid (fun w hm => (lead_q bm n f x d2 sf w hm (by omega)).mono fun e w' h9 => (⟨by rw [← HLd.out]; exact h9.1, h9.2⟩ : e = .returned (leadV lo) ∧ Below w.heap.size w w'))
          cases lo with
          | none =>
            go_wp2_with (go_at_call 75; go_loud (refine (HL.out _ (HM9.out _ HB8.out).1).mono ?_; rintro e w5' ⟨he, hb⟩; simp only [leadV] at he; subst he; have HB := Lib.hid (HB8.out.trans (hb.mono (by simp; omega))); have HO := Lib.hid (own_stay HO8.out hb); clear hb))
            go_roundw
            case rel => exact ⟨k + 1, R, A, c, q, rfl, by go_num, hq, by omega, by omega, Lib.hid (by have := HR2.out; rw [Option.toList_none, List.append_nil] at this; exact this), HO, HB⟩
            case measure => simp [intOf]; omega
          | some to_ =>
            go_wp2_with (first | (go_at_call 75; go_loud (refine (HL.out _ (HM9.out _ HB8.out).1).mono ?_; rintro e w5' ⟨he, hb⟩; simp only [leadV] at he; subst he; have HB := Lib.hid (HB8.out.trans (hb.mono (by simp; omega))); have HO := Lib.hid (own_stay HO8.out hb); clear hb)) | (at_builtin; go_loud (have hh := own_alloc HO.out (.cells #[.string to_] 9); have k1 : (q + 1) * 16 ≤ 140737488355328 := (by omega); have k2 : q + 1 ≤ maxLen := (by unfold maxLen; omega); have k3 : B ≤ (World.alloc w5' (.cells #[.string to_] 9)).heap.size := (by have := HB.out.size; simp; omega); have k4 := cell_new w5' [.string to_] 9 (World.heap w5').size rfl; go_must (refine wpList_push _ rfl (.tmp 40) (.tmp 42) 23 rfl B 9 (.string ⟨#[]⟩) 1 16 Tryz.underlying23 info_strR rfl (by omega) (.slice A q c) q _ rfl hh [.string to_] rfl _ (by first | rfl | simp) k4 (one_str _) k1 k2 k3 ?_); clear hh k1 k2 k3 k4; intro g5 c5 w9 own5 hg5 hgg5 hb5; have HO5 := Lib.hid own5; have HB5 := Lib.hid ((HB.out.alloc (by have := HB.out.size; omega) (.cells #[.string to_] 9)).trans hb5); clear own5 hg5 hgg5 hb5)))
            go_roundw
            case rel => exact ⟨k + 1, R ++ [to_], _, _, q + 1, rfl, by go_num, by simp [hq], by omega, by omega, Lib.hid (by have := HR2.out; rw [Option.toList_some] at this; exact this), Lib.hid (by rw [pstrs_push]; exact HO5.out), HB5⟩
            case measure => simp [intOf]; omega
    · have hkl : k = D.length := by omega
      have HF := Lib.hid (show refsF f p D = R by rw [← HR.out, hkl, List.take_length])
      clear hkl
      go_wp2_with fail
      go_ret
      exact RefsPost.mk (B := B) (by have := HB5.out.size; have := HBe.out; omega) HF.out hq HO.out (HB5.out.trans (HB.out.mono (by have := HB5.out.size; have := HBe.out; omega)))

end Go.Proofs.YtbhildmalcfhiaaGreatDoor
