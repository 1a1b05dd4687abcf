/-
  ship.Feed.
-/
import Derived.Test.YtnanogcppglapaaGreatDoorFeedPlain
import Derived.Test.YtnanogcppglapaaGreatDoorBuilderK
import Derived.Test.YtnanogcppglapaaGreatDoorFeedFault
import Derived.Test.YtnanogcppglapaaGreatDoorFeedSort
import Derived.Test.YtnanogcppglapaaGreatDoorFeedText
import Derived.Test.YtnanogcppglapaaGreatDoorEscape
import Derived.Test.YtnanogcppglapaaGreatDoorRegInv
import Derived.StillTail
import Derived.StillTailTactics
namespace Go.Proofs.YtnanogcppglapaaGreatDoor
open Go.RowKit Go.ChangeShapes Go.WideShapes Go.Deep

def PutPost (B b : Nat) (l : List UInt8) (w : World) (e : Ending) (w' : World) : Prop := e = .returned (.tuple #[]) ∧ Bld B b l w' ∧ Below B w w' ∧ KeepB b w w'
theorem catL_snoc (S : List ByteArray) (s : ByteArray) : catL (S ++ [s]) = catL S ++ s.data.toList := by simp [catL]
theorem cat_part {S : List ByteArray} {k : Nat} {s : ByteArray} (h : S[k]? = some s) : (catL (S.take k)).length + s.size ≤ (catL S).length := by
  have e : S = S.take k ++ s :: S.drop (k + 1) := by
    obtain ⟨h1, rfl⟩ := List.getElem?_eq_some_iff.1 h
    rw [← List.drop_eq_getElem_cons, List.take_append_drop]
  have e2 : catL S = catL (S.take k) ++ (s.data.toList ++ catL (S.drop (k + 1))) := by
    conv => lhs; rw [e]
    simp [catL]
  rw [e2, List.length_append, List.length_append, size_toList]
  omega
set_option maxRecDepth 100000 in
set_option maxHeartbeats 2000000 in
theorem feedPut_q (B b nr : Nat) (l : List UInt8) (S : List ByteArray) (w : World) (h : Bld B b l w) (hr : CB w nr 9 (S.map Value.string).toArray) (hne : nr ≠ b) (hlen : l.length + (catL S).length ≤ 70368744177664) (hS : S.length ≤ 100) (hB : B ≤ w.heap.size) :
    Calls Tryz.prog 17 #[.slice (some ⟨nr, 0, none⟩) S.length S.length, .pointer (some ⟨b, 0, none⟩)] w (PutPost B b (l ++ catL S) w) := by
  have HBl0 := Lib.hid h; clear h
  have HR0 := Lib.hid hr; clear hr
  have HNe := Lib.hid hne; clear hne
  have HLen := Lib.hid hlen; clear hlen
  go_enter Tryz.func17, Tryz.ntmps17
  go_wp2_with fail
  go_loopw [7] (fun t7 wr => ∃ k : Nat, k ≤ S.length ∧ t7 = .int .i64 k ∧ Hid (Bld B b (l ++ catL (S.take k)) wr) ∧ Hid (Below B w wr) ∧ Hid (KeepB b w wr)) (fun t _ => S.length - (intOf t).toNat)
  case atStart => exact ⟨0, Nat.zero_le _, rfl, Lib.hid (by simpa [catL] using HBl0.out), Lib.hid (Below.refl _ _), Lib.hid (KeepB.refl _ _)⟩
  case round =>
    obtain ⟨k, hk, rfl, HBl, HB, HK⟩ := hrel
    by_cases hlt : k < S.length
    · obtain ⟨s, hs⟩ : ∃ s, S[k]? = some s := ⟨_, List.getElem?_eq_getElem hlt⟩
      have HR := Lib.hid (HK.out nr _ _ HR0.out (by decide) HNe.out)
      have k0 : wr.cell? ⟨nr, k, none⟩ = some (.string s) := by rw [HR.out.c k]; simp [hs]
      have hp := cat_part hs
      have HT := Lib.hid (show catL (S.take (k + 1)) = catL (S.take k) ++ s.data.toList by rw [List.take_add_one, hs]; exact catL_snoc _ _)
      have hBr : B ≤ wr.heap.size := Nat.le_trans hB HB.out.size
      clear hs
      go_wp2_with (go_at_call 18; go_must (refine (writeString_kbig B b _ s wr HBl.out (by have h9 := HLen.out; rw [List.length_append]; omega) hBr).mono ?_); rintro e w8 ⟨rfl, hbl, hb, hk8⟩; have HBl8 := Lib.hid hbl; have HB8 := Lib.hid (HB.out.trans hb); have HK8 := Lib.hid (HK.out.trans hk8); clear hb hbl hk8)
      go_roundw
      case rel => exact ⟨k + 1, by omega, by go_num, Lib.hid (by rw [HT.out, ← List.append_assoc]; exact HBl8.out), HB8, HK8⟩
      case measure => simp [intOf]; omega
    · obtain rfl : k = S.length := by omega
      go_wp2_with fail
      go_end0
      exact ⟨rfl, by have h9 := HBl.out; rwa [List.take_length] at h9, HB.out, HK.out⟩
set_option maxHeartbeats 1000000 in
theorem date_q (n : Nat) (ds : ByteArray) (w : World) (hn : n ≤ 84005) (ht : TabOk w) (hd : dateS n = ds) :
    Calls Tryz.prog 20 #[.int .i64 n] w fun e w' => e = .returned (.string ds) ∧ Below w.heap.size w w' := by
  subst hd
  have HS := Lib.hid (show_any 4 false (n : Int) ⟨#[]⟩ none 0 0 none 0 0 w ⟨by omega, by omega⟩ ht)
  have hv : showV 4 false (n : Int) ⟨#[]⟩ = (dateS n, 0) := by
    unfold showV
    rw [if_neg (by decide), if_neg (by decide), if_neg (by decide), if_neg (by decide), if_pos rfl, if_neg (by omega)]
    simp
  rw [hv] at HS
  unfold ShowRes at HS
  simp only at HS
  clear hv
  go_enter Tryz.func20, Tryz.ntmps20
  go_wp2_with (go_at_call 46; go_must (refine HS.out.mono ?_); rintro e w1 ⟨rfl, hb⟩; have HB1 := Lib.hid hb; clear hb)
  go_ret
  exact ⟨rfl, HB1.out⟩
end Go.Proofs.YtnanogcppglapaaGreatDoor

namespace Go.Proofs.YtnanogcppglapaaGreatDoor
open Go.RowKit Go.ChangeShapes Go.WideShapes Go.Deep

def FeedPost (title base : ByteArray) (day : Int) (l : List EntF) (most : Int) (w : World) (e : Ending) (w' : World) : Prop :=
  Below w.heap.size w w' ∧ ((feedE title base day l most ≠ 0 ∧ e = .returned (.tuple #[.string ⟨#[]⟩, .int .i64 (feedE title base day l most)])) ∨
   (feedE title base day l most = 0 ∧ ∃ R : List EntF, R.Perm l ∧ R.Pairwise FeedR ∧ e = .returned (.tuple #[.string ⟨(feedL title base day.toNat (R.take most.toNat)).toArray⟩, .int .i64 0])))
theorem FeedPost.err {title base : ByteArray} {day : Int} {l : List EntF} {most v : Int} {w w' : World} (h : feedE title base day l most = v) (hv : ¬ v = 0) (hb : Below w.heap.size w w') : FeedPost title base day l most w (.returned (.tuple #[.string ⟨#[]⟩, .int .i64 v])) w' :=
  ⟨hb, Or.inl ⟨by rw [h]; exact hv, by rw [h]⟩⟩
theorem feedPut1 (B b nr : Nat) (l : List UInt8) (s0 : ByteArray) (w : World) (h : Bld B b l w) (hr : CB w nr 9 #[.string s0]) (hne : nr ≠ b) (hlen : l.length + (catL [s0]).length ≤ 70368744177664) (hB : B ≤ w.heap.size) :
    Calls Tryz.prog 17 #[.slice (some ⟨nr, 0, none⟩) 1 1, .pointer (some ⟨b, 0, none⟩)] w (PutPost B b (l ++ catL [s0]) w) :=
  feedPut_q B b nr l [s0] w h hr hne hlen (by simp) hB
theorem feedPut7 (B b nr : Nat) (l : List UInt8) (s0 s1 s2 s3 s4 s5 s6 : ByteArray) (w : World) (h : Bld B b l w) (hr : CB w nr 9 #[.string s0, .string s1, .string s2, .string s3, .string s4, .string s5, .string s6]) (hne : nr ≠ b) (hlen : l.length + (catL [s0, s1, s2, s3, s4, s5, s6]).length ≤ 70368744177664) (hB : B ≤ w.heap.size) :
    Calls Tryz.prog 17 #[.slice (some ⟨nr, 0, none⟩) 7 7, .pointer (some ⟨b, 0, none⟩)] w (PutPost B b (l ++ catL [s0, s1, s2, s3, s4, s5, s6]) w) :=
  feedPut_q B b nr l [s0, s1, s2, s3, s4, s5, s6] w h hr hne hlen (by simp) hB
theorem feedPut9 (B b nr : Nat) (l : List UInt8) (s0 s1 s2 s3 s4 s5 s6 s7 s8 : ByteArray) (w : World) (h : Bld B b l w) (hr : CB w nr 9 #[.string s0, .string s1, .string s2, .string s3, .string s4, .string s5, .string s6, .string s7, .string s8]) (hne : nr ≠ b) (hlen : l.length + (catL [s0, s1, s2, s3, s4, s5, s6, s7, s8]).length ≤ 70368744177664) (hB : B ≤ w.heap.size) :
    Calls Tryz.prog 17 #[.slice (some ⟨nr, 0, none⟩) 9 9, .pointer (some ⟨b, 0, none⟩)] w (PutPost B b (l ++ catL [s0, s1, s2, s3, s4, s5, s6, s7, s8]) w) :=
  feedPut_q B b nr l [s0, s1, s2, s3, s4, s5, s6, s7, s8] w h hr hne hlen (by simp) hB
def RPut (u1 u2 dx u3 : ByteArray) (W1 : World) (x : Value) (w : World) : Prop := ∃ g : Nat, x = .slice (some ⟨g, 0, none⟩) 9 9 ∧ W1.heap.size ≤ g ∧ CB w g 9 #[.string fe1, .string u1, .string fe2, .string u2, .string fe3, .string dx, .string fe4, .string u3, .string fe5]
theorem RPut.below {u1 u2 dx u3 : ByteArray} {W1 w w' : World} {x : Value} (h : RPut u1 u2 dx u3 W1 x w) (hb : Below w.heap.size w w') : RPut u1 u2 dx u3 W1 x w' := by obtain ⟨g, h1, h2, h3⟩ := h; exact ⟨g, h1, h2, h3.below hb⟩
def InvFe (fr : Value → Value → Value → Value → Value → Value → Value → Value → Value → Value → Value → Value → Value → Value → Value → Value → Act) (nb ne de : Nat) (base xt xa xs u1 u2 dx u3 : ByteArray) (W1 : World) (L : Array Bool) (a : Act) (w : World) : Prop :=
  ∃ x0 x1 x2 x3 x4 x5 x6 x7 x8 x9 x10 x11 x12 x13 x14 x15 : Value, a = fr x0 x1 x2 x3 x4 x5 x6 x7 x8 x9 x10 x11 x12 x13 x14 x15 ∧ Below W1.heap.size W1 w ∧ (L.getD 0 false = true → x0 = .func (.func 17) #[] #[.pointer (some ⟨nb, 0, none⟩)]) ∧ (L.getD 1 false = true → x1 = .pointer (some ⟨ne, 0, none⟩)) ∧ (L.getD 2 false = true → x2 = .string xt) ∧ (L.getD 3 false = true → x3 = .string u1) ∧ (L.getD 4 false = true → x4 = .string base) ∧ (L.getD 5 false = true → x5 = .pointer (some ⟨ne, 1, none⟩)) ∧ (L.getD 6 false = true → x6 = .string xa) ∧ (L.getD 7 false = true → x7 = .string (base ++ xa)) ∧ (L.getD 8 false = true → x8 = .string u2) ∧ (L.getD 9 false = true → x9 = .pointer (some ⟨ne, 3, none⟩)) ∧ (L.getD 10 false = true → x10 = .int .i64 (de : Int)) ∧ (L.getD 11 false = true → x11 = .string dx) ∧ (L.getD 12 false = true → x12 = .pointer (some ⟨ne, 2, none⟩)) ∧ (L.getD 13 false = true → x13 = .string xs) ∧ (L.getD 14 false = true → x14 = .string u3) ∧ (L.getD 15 false = true → RPut u1 u2 dx u3 W1 x15 w)
theorem InvFe.start {m : Nat} {fr : Value → Value → Value → Value → Value → Value → Value → Value → Value → Value → Value → Value → Value → Value → Value → Value → Act} {nb ne de : Nat} {base xt xa xs u1 u2 dx u3 : ByteArray} {W1 : World} {a : Act} (x0 x1 x2 x3 x4 x5 x6 x7 x8 x9 x10 x11 x12 x13 x14 x15 : Value) (h : a = fr x0 x1 x2 x3 x4 x5 x6 x7 x8 x9 x10 x11 x12 x13 x14 x15) : InvFe fr nb ne de base xt xa xs u1 u2 dx u3 W1 (Array.replicate m false) a W1 :=
  ⟨x0, x1, x2, x3, x4, x5, x6, x7, x8, x9, x10, x11, x12, x13, x14, x15, h, Below.refl _ _, (fun h => by rw [getD_replicate_false] at h; cases h), (fun h => by rw [getD_replicate_false] at h; cases h), (fun h => by rw [getD_replicate_false] at h; cases h), (fun h => by rw [getD_replicate_false] at h; cases h), (fun h => by rw [getD_replicate_false] at h; cases h), (fun h => by rw [getD_replicate_false] at h; cases h), (fun h => by rw [getD_replicate_false] at h; cases h), (fun h => by rw [getD_replicate_false] at h; cases h), (fun h => by rw [getD_replicate_false] at h; cases h), (fun h => by rw [getD_replicate_false] at h; cases h), (fun h => by rw [getD_replicate_false] at h; cases h), (fun h => by rw [getD_replicate_false] at h; cases h), (fun h => by rw [getD_replicate_false] at h; cases h), (fun h => by rw [getD_replicate_false] at h; cases h), (fun h => by rw [getD_replicate_false] at h; cases h), (fun h => by rw [getD_replicate_false] at h; cases h)⟩

set_option maxRecDepth 100000 in
set_option maxHeartbeats 8000000 in
theorem feed_q (title base : ByteArray) (day : Int) (l : List EntF) (most : Int) (v : Value) (w : World) (h : EntsFAt w v l) (ht : title.size ≤ 1048576) (hbs : base.size ≤ 1048576) (hz : ∀ x ∈ l, x.title.size + x.addr.size + x.summ.size ≤ 1048576) (hm : MaxAt w) (htab : TabOk w) :
    Calls Tryz.prog 5 #[.string title, .string base, .int .i64 day, v, .int .i64 most] w (FeedPost title base day l most w) := by
  have HF := Lib.hid h
  obtain ⟨A, c, b, o, rfl, hlc, hc, _, _⟩ := h
  unfold maxLen at hc
  have HM := Lib.hid hm; clear hm
  have HZ := Lib.hid hz; clear hz
  have HTab := Lib.hid htab; clear htab
  have HB0 := Lib.hid (Below.refl w.heap.size w)
  by_cases hm0 : most < 0 ∨ 60 < most
  · have HR := Lib.hid (show feedE title base day l most = 2 by rw [feedE, if_pos hm0])
    by_cases hm1 : most < 0
    · clear hm0
      go_enter Tryz.func5, Tryz.ntmps5
      go_wp2_with fail
      go_ret2
      exact FeedPost.err HR.out (by decide) HB0.out
    · have hm2 : 60 < most := by omega
      clear hm0
      go_enter Tryz.func5, Tryz.ntmps5
      go_wp2_with fail
      go_ret2
      exact FeedPost.err HR.out (by decide) HB0.out
  obtain ⟨hm1, hm2⟩ : 0 ≤ most ∧ most ≤ 60 := by omega
  have HM0 := Lib.hid hm0; clear hm0
  obtain ⟨mo, rfl⟩ : ∃ mo : Nat, most = (mo : Int) := ⟨most.toNat, by omega⟩
  by_cases hbig : 60 < l.length
  · have HR := Lib.hid (show feedE title base day l mo = 4 by rw [feedE, if_neg HM0.out, if_pos hbig])
    have hbig2 : (60 : Int) < (l.length : Int) := by omega
    go_enter Tryz.func5, Tryz.ntmps5
    go_wp2_with fail
    go_ret2
    exact FeedPost.err HR.out (by decide) HB0.out
  obtain ⟨k0, hk0⟩ : ∃ c, ctlL title.data.toList = c := ⟨_, rfl⟩
  obtain ⟨k1, hk1⟩ : ∃ c, ctlL base.data.toList = c := ⟨_, rfl⟩
  have HK0 := Lib.hid hk0; have HK1 := Lib.hid hk1
  have HFe := Lib.hid (show feedE title base day l mo = if (k0 || k1) = true then 9 else if day < 0 ∨ 84005 < day then 2 else entsE l by rw [feedE, if_neg HM0.out, if_neg hbig, hk0, hk1])
  clear hk0 hk1
  cases k0
  case' true =>
    have HR := Lib.hid (show feedE title base day l mo = 9 by rw [HFe.out]; rfl)
    go_enter Tryz.func5, Tryz.ntmps5
    go_wp2_with (go_at_call 12; go_must (refine (control_q _ _ _ (by assumption) (by first | exact HK0.out | exact HK1.out)).mono ?_); rintro e w8 ⟨rfl, rfl⟩)
    go_ret2
    exact FeedPost.err HR.out (by decide) HB0.out
  cases k1
  case' true =>
    have HR := Lib.hid (show feedE title base day l mo = 9 by rw [HFe.out]; rfl)
    go_enter Tryz.func5, Tryz.ntmps5
    go_wp2_with (go_at_call 12; go_must (refine (control_q _ _ _ (by assumption) (by first | exact HK0.out | exact HK1.out)).mono ?_); rintro e w8 ⟨rfl, rfl⟩)
    go_ret2
    exact FeedPost.err HR.out (by decide) HB0.out
  obtain ⟨bd0, hbd0⟩ : ∃ bd, decide (day < 0 ∨ 84005 < day) = bd := ⟨_, rfl⟩
  have HD0 := Lib.hid hbd0
  cases bd0
  case' true =>
    have HR := Lib.hid (show feedE title base day l mo = 2 by rw [HFe.out, if_neg (by simp), if_pos (by simpa using hbd0)])
    clear hbd0
    go_enter Tryz.func5, Tryz.ntmps5
    go_wp2_with (first | (go_at_call 12; go_must (refine (control_q _ _ _ (by assumption) (by first | exact HK0.out | exact HK1.out)).mono ?_); rintro e w8 ⟨rfl, rfl⟩) | (go_at_call 13; go_must (refine (badDay_q _ _ _ HD0.out).mono ?_); rintro e w8 ⟨rfl, rfl⟩))
    go_ret2
    exact FeedPost.err HR.out (by decide) HB0.out
  obtain ⟨fe, hfe⟩ : ∃ fe, entsE l = fe := ⟨_, rfl⟩
  have HFv := Lib.hid (show feedE title base day l mo = fe by rw [HFe.out, if_neg (by simp), if_neg (by simpa using hbd0), hfe])
  have hdn : 0 ≤ day ∧ day ≤ 84005 := by simp at hbd0; omega
  obtain ⟨dn, rfl⟩ : ∃ dn : Nat, day = (dn : Int) := ⟨day.toNat, by omega⟩
  have hdn2 : dn ≤ 84005 := by omega
  clear hbd0 HFe hdn
  have hef := entriesFault_q l _ w HF.out HZ.out HM.out
  rw [hfe] at hef
  have HEF := Lib.hid hef; clear hef
  have HFv2 := Lib.hid hfe
  clear hfe
  by_cases hfz : fe = 0
  case neg =>
    go_enter Tryz.func5, Tryz.ntmps5
    go_wp2_with (first | (go_at_call 12; go_must (refine (control_q _ _ _ (by assumption) (by first | exact HK0.out | exact HK1.out)).mono ?_); rintro e w8 ⟨rfl, rfl⟩) | (go_at_call 13; go_must (refine (badDay_q _ _ _ HD0.out).mono ?_); rintro e w8 ⟨rfl, rfl⟩) | (go_at_call 14; go_must (refine (HEF.out).mono ?_); rintro e w1 ⟨rfl, hb⟩; have HB1 := Lib.hid hb; clear hb))
    go_ret2
    exact FeedPost.err HFv.out hfz HB1.out
  subst hfz
  have HFi := Lib.hid (ents_fine HFv2.out)
  obtain ⟨m0, hm9⟩ : ∃ m, 0 + l.length = m := ⟨_, rfl⟩
  have hm60 : m0 ≤ 60 := by omega
  have HMl := Lib.hid hm9
  clear hm9
  obtain ⟨kk, hkk⟩ : ∃ kk : Nat, min (mo : Int) (m0 : Int) = (kk : Int) := ⟨min mo m0, by omega⟩
  have hkn : kk ≤ m0 := by omega
  have HKm := Lib.hid (show kk = min mo m0 by omega)
  go_enter Tryz.func5, Tryz.ntmps5
  go_wp2_with (first | (go_at_call 12; go_must (refine (control_q _ _ _ (by assumption) (by first | exact HK0.out | exact HK1.out)).mono ?_); rintro e w8 ⟨rfl, rfl⟩) | (go_at_call 13; go_must (refine (badDay_q _ _ _ HD0.out).mono ?_); rintro e w8 ⟨rfl, rfl⟩) | (go_at_call 14; go_must (refine (HEF.out).mono ?_); rintro e w1 ⟨rfl, hb⟩; have HB1 := Lib.hid hb; clear hb) | (at_builtin; go_loud (go_must (refine wpList_joinE _ rfl (.const (.slice none 0 0)) (.tmp 44) 22 rfl w.heap.size 48 _ 56 Tryz.underlying22 info_entF rfl _ 0 [] rfl (World.ownsRow_nil _ _ _ _) A c l rfl (HF.out.keep (Keeps.of_below HB1.out)) (by omega) (by unfold maxLen; omega) HB1.out.size ?_); intro A7 c7 w7 own7 hb7; rw [HMl.out, List.nil_append] at own7; rw [HMl.out]; have HO7 := Lib.hid own7; have HB7 := Lib.hid (HB1.out.trans hb7); clear own7 hb7)))
  obtain ⟨Bs, hBs⟩ : ∃ Bs, w7.heap.size = Bs := ⟨_, rfl⟩
  obtain ⟨W8, hW8⟩ : ∃ W8, w7.alloc (.cells #[.slice A7 m0 c7] 22) = W8 := ⟨_, rfl⟩
  have HCo8 := Lib.hid (show CB W8 Bs 22 #[.slice A7 m0 c7] by rw [← hW8, ← hBs]; exact CB.new w7 _ _)
  have HO8 := Lib.hid (show W8.ownsRow w.heap.size 48 4 (.slice A7 m0 c7) m0 (entsFC l) by rw [← hW8]; exact own_alloc HO7.out _)
  have HB8 := Lib.hid (show Below w.heap.size w W8 by rw [← hW8]; exact HB7.out.alloc HB7.out.size _)
  have HNe := Lib.hid (show (Value.slice A7 m0 c7).ownBlock ≠ some Bs from fun e9 => by have := (HO7.out.lt _ e9).2; omega)
  have HLl := Lib.hid (show l.length = m0 by have := HMl.out; omega)
  have hcall := sortEnts_q w.heap.size Bs (.slice A7 m0 c7) l W8 (by rw [HLl.out]; exact HO8.out) (by omega) (HCo8.out.c 0) HNe.out
  have HCall := Lib.hid hcall; clear hcall
  rw [hW8, hBs]
  clear hW8 HO7 HB7 HB1 HEF
  have HAp := Lib.hid HFi.out.apart
  have bo0 := HCo8.out.c 0
  have bosh := HCo8.out.sh
  refine HCall.out.mono ?_
  rintro e w6 ⟨rfl, R, hp6, hs6, own6, hg6⟩
  have HS6 := Lib.hid (feed_sorted (HAp.out.perm hp6.symm) hs6)
  have HP6 := Lib.hid hp6
  rw [HLl.out] at own6
  have HO6 := Lib.hid own6
  have HCo6 := Lib.hid (HCo8.out.other hg6 (fun e9 => HNe.out e9.symm))
  have HB6 := Lib.hid (HB8.out.grown hg6 (by have := HCo8.out.lt; have := HB8.out.size; omega) (fun k hk => (HO8.out.lt k hk).1))
  clear own6 hg6 hp6 hs6 HCall bo0 bosh HO8 HB8 HCo8
  obtain ⟨et, het⟩ : ∃ u, escA title = u := ⟨_, rfl⟩
  obtain ⟨eb, heb⟩ : ∃ u, escA base = u := ⟨_, rfl⟩
  obtain ⟨dt, hdt⟩ : ∃ u, dateS dn = u := ⟨_, rfl⟩
  have HEt := Lib.hid het; have HEb := Lib.hid heb; have HDt := Lib.hid hdt
  clear het heb hdt
  have HEm := Lib.hid (fun k => Nat.add_le_add (head_at_most ht hbs hdn2) (Nat.le_trans (ents_at_most hbs (R.take k) (fun x hx => by have hxl := HP6.out.mem_iff.1 (List.mem_of_mem_take hx); exact ⟨HZ.out x hxl, (HFi.out.day x hxl).2⟩)) (Nat.mul_le_mul_right _ (Nat.le_trans (by rw [List.length_take]; exact Nat.min_le_right _ _) (show R.length ≤ 60 by rw [HP6.out.length_eq, HLl.out]; exact hm60)))) : ∀ k, (catL (headP title base dn)).length + ((R.take k).flatMap (fun x => catL (entP base x))).length ≤ 13000000 + 60 * 20000000)
  have hhead := head_at_most ht hbs hdn2
  have HHead := Lib.hid (show catL [fk1, et, fk2, eb, fk3, dt, fk4] = catL (headP title base dn) by rw [headP, HEt.out, HEb.out, HDt.out])
  obtain ⟨nb, hnb⟩ : ∃ nb, w6.heap.size = nb := ⟨_, rfl⟩
  have HBsn := Lib.hid (show Bs < nb by rw [← hnb]; exact HCo6.out.lt)
  have HBB := Lib.hid (show ∀ W, Below nb w6 W → Below w.heap.size w W from fun W h => HB6.out.trans (h.mono (by rw [← hnb]; exact HB6.out.size)))
  have HTb := Lib.hid (show ∀ W, Below nb w6 W → TabOk W from fun W h => HTab.out.keep (HBB.out W h))
  have HSz := Lib.hid (show ∀ W, Below nb w6 W → nb ≤ W.heap.size from fun W h => by rw [← hnb]; exact h.size)
  have HCoB := Lib.hid (show ∀ W, Below nb w6 W → CB W Bs 22 #[.slice A7 m0 c7] from fun W h => HCo6.out.belowB h HBsn.out)
  have HCells := Lib.hid (show ∀ W, Below nb w6 W → ∀ (g cap n : Nat), A7 = some ⟨g, 0, none⟩ → ∀ (j : Nat) (x : EntF), R[j]? = some x → EntFCells W g (j * 4) x from fun W h g cap n hA j x hx => by
    subst hA
    have h1 := (own_entF HO6.out hx).1
    exact EntFCells.keep ⟨h1.1, h1.2.1, h1.2.2.1, h1.2.2.2⟩ (Keeps.of_below (by rw [hnb]; exact h)))
  have HRl := Lib.hid (show R.length = m0 by rw [HP6.out.length_eq, HLl.out])
  have HA7 := Lib.hid (show 0 < m0 → ∃ g, A7 = some ⟨g, 0, none⟩ from fun h9 => by
    obtain ⟨A9, c9, hv9, _, _, hA9⟩ := own_form HO6.out
    cases hv9
    obtain ⟨g, hg, _, _⟩ := hA9 h9
    exact ⟨g, hg⟩)
  have hc79 : m0 ≤ c7 ∧ c7 ≤ 9223372036854775807 := by
    obtain ⟨A9, c9, hv9, h8, h9, _⟩ := own_form HO6.out
    cases hv9
    unfold maxLen at h8
    exact ⟨h9, h8⟩
  obtain ⟨hmc7, hc78⟩ := hc79
  have HNb := Lib.hid hnb
  go_wp2_with fail
  clear hnb
  obtain ⟨W9, hW9⟩ : ∃ W9, w6.alloc (.cells #[.pointer none, .slice none 0 0] 53) = W9 := ⟨_, rfl⟩
  have HBl9 := Lib.hid (show Bld nb nb [] W9 by rw [← hW9, ← HNb.out]; exact Lib.fresh_isBuilder _ _ _)
  have HB9 := Lib.hid (show Below nb w6 W9 by rw [← hW9, ← HNb.out]; exact (Below.refl _ _).alloc (Nat.le_refl _) _)
  rw [hW9]
  clear hW9
  refine (escape_q title et W9 HEt.out (by omega)).mono ?_
  rintro e w10 ⟨rfl, hb10⟩
  have HBl10 := Lib.hid (bld_below HBl9.out hb10)
  have HB10 := Lib.hid (HB9.out.trans (hb10.mono (HSz.out _ HB9.out)))
  clear hb10 HBl9 HB9
  go_wp2_with (first
    | (go_at_call 19; go_must (refine (escape_q base eb _ HEb.out (by omega)).mono ?_); rintro e w11 ⟨rfl, hb11⟩; have HBl11 := Lib.hid (bld_below HBl10.out hb11); have HB11 := Lib.hid (HB10.out.trans (hb11.mono (HSz.out _ HB10.out))); clear hb11)
    | (go_at_call 20; go_must (refine (date_q dn dt _ hdn2 (HTb.out _ HB11.out) HDt.out).mono ?_); rintro e w12 ⟨rfl, hb12⟩; have HBl12 := Lib.hid (bld_below HBl11.out hb12); have HB12 := Lib.hid (HB11.out.trans (hb12.mono (HSz.out _ HB11.out))); clear hb12))
  have hs12 := HSz.out _ HB12.out
  have hlt12 := (bld_lt HBl12.out).1
  obtain ⟨nr, hnr⟩ : ∃ nr, w12.heap.size = nr := ⟨_, rfl⟩
  generalize hW13 : w12.alloc _ = W13
  have HR13 := Lib.hid (show CB W13 nr 9 #[.string fk1, .string et, .string fk2, .string eb, .string fk3, .string dt, .string fk4] by rw [← hW13, ← hnr]; exact CB.new w12 _ _)
  have HBl13 := Lib.hid (show Bld nb nb [] W13 by rw [← hW13]; exact bld_below HBl12.out ((Below.refl _ _).alloc (Nat.le_refl _) _))
  have HB13 := Lib.hid (show Below nb w6 W13 by rw [← hW13]; exact HB12.out.alloc hs12 _)
  have hnrn : nr ≠ nb := by omega
  have hlen13 : (([] : List UInt8)).length + (catL [fk1, et, fk2, eb, fk3, dt, fk4]).length ≤ 70368744177664 := by
    rw [HHead.out, List.length_nil]
    omega
  rw [hnr]
  clear hW13
  refine (feedPut7 nb nb nr [] fk1 et fk2 eb fk3 dt fk4 W13 HBl13.out HR13.out hnrn hlen13 (HSz.out _ HB13.out)).mono ?_
  rintro e w14 ⟨rfl, hbl, hb14, _⟩
  have HBl14 := Lib.hid (show Bld nb nb (catL (headP title base dn)) w14 by rw [List.nil_append, HHead.out] at hbl; exact hbl)
  have HB14 := Lib.hid (HB13.out.trans hb14)
  clear hbl hb14 hnr hnrn HBl13 HR13 HB13 hs12 hlt12 HBl12 HBl11 HBl10 HB12 HB11 HB10
  have HCo14 := Lib.hid (HCoB.out _ HB14.out)
  have bo0 := HCo14.out.c 0
  have bosh := HCo14.out.sh
  go_wp2_with fail
  go_loopw [67] (fun t67 wv => ∃ k : Nat, k ≤ kk ∧ t67 = .int .i64 k ∧ Hid (Bld nb nb (catL (headP title base dn) ++ (R.take k).flatMap (fun x => catL (entP base x))) wv) ∧ Hid (Below nb w6 wv)) (fun t _ => kk - (intOf t).toNat)
  case atStart => exact ⟨0, Nat.zero_le _, rfl, Lib.hid (by have h9 := HBl14.out; rw [List.take_zero, List.flatMap_nil, List.append_nil]; exact h9), HB14⟩
  case round =>
    clear HBl14 HB14 HCo14 bo0 bosh
    obtain ⟨k, hk, rfl, HBl, HB⟩ := hrel
    have hnw := HSz.out _ HB.out
    by_cases hlt : k < kk
    · obtain ⟨x, hx⟩ : ∃ x, R[k]? = some x := ⟨_, List.getElem?_eq_getElem (by rw [HRl.out]; omega)⟩
      obtain ⟨g7, rfl⟩ := HA7.out (by omega)
      obtain ⟨p0, p1, p2, p3⟩ := HCells.out wr HB.out g7 0 0 rfl k x hx
      have hxl : x ∈ l := HP6.out.mem_iff.1 (List.mem_of_getElem? hx)
      have hxz := HZ.out x hxl
      obtain ⟨hx0, hx1⟩ := HFi.out.day x hxl
      have hxn : x.day = ((x.day.toNat : Nat) : Int) := by omega
      obtain ⟨de, hde⟩ : ∃ de : Nat, x.day.toNat = de := ⟨_, rfl⟩
      rw [hde] at hxn
      obtain ⟨dx, hdx⟩ : ∃ u, dateS de = u := ⟨_, rfl⟩
      obtain ⟨u1, hu1⟩ : ∃ u, escA x.title = u := ⟨_, rfl⟩
      obtain ⟨u2, hu2⟩ : ∃ u, escA (base ++ x.addr) = u := ⟨_, rfl⟩
      obtain ⟨u3, hu3⟩ : ∃ u, escA x.summ = u := ⟨_, rfl⟩
      have HEp := Lib.hid (show [fe1, u1, fe2, u2, fe3, dx, fe4, u3, fe5] = entP base x by rw [entP, hu1, hu2, hu3, hde, hdx])
      have HTk := Lib.hid (show (R.take (k + 1)).flatMap (fun x => catL (entP base x)) = (R.take k).flatMap (fun x => catL (entP base x)) ++ catL (entP base x) by rw [List.take_add_one, hx]; simp)
      have hlt9 := HEm.out (k + 1)
      rw [HTk.out, List.length_append] at hlt9
      have HLt := Lib.hid hlt9; clear hlt9
      have HU1 := Lib.hid hu1; have HU2 := Lib.hid hu2; have HU3 := Lib.hid hu3; have HDx := Lib.hid hdx
      clear hu1 hu2 hu3 hdx hx hde
      obtain ⟨xt, xa, xs, xd⟩ := x
      simp only at p0 p1 p2 p3 hxn hxz hx0 hx1
      simp only at HU1 HU2 HU3
      subst hxn
      have hdw : de ≤ 84005 := by omega
      have hii : (k : Int) < (kk : Int) := by omega
      go_wp2_with fail
      clear p0 p1 p2 p3
      obtain ⟨ne, hne⟩ : ∃ ne, wr.heap.size = ne := ⟨_, rfl⟩
      obtain ⟨W1, hW1⟩ : ∃ W1, wr.alloc (.cells #[.string xt, .string xa, .string xs, .int .i64 (de : Int)] 48) = W1 := ⟨_, rfl⟩
      have HX1 := Lib.hid (show CB W1 ne 48 #[.string xt, .string xa, .string xs, .int .i64 (de : Int)] by rw [← hW1, ← hne]; exact CB.new _ _ _)
      have HBl1 := Lib.hid (show Bld nb nb (catL (headP title base dn) ++ (R.take k).flatMap (fun x => catL (entP base x))) W1 by rw [← hW1]; exact bld_below HBl.out ((Below.refl _ _).alloc (Nat.le_refl _) _))
      have HB1 := Lib.hid (show Below nb w6 W1 by rw [← hW1]; exact HB.out.alloc hnw _)
      rw [hW1, hne]
      clear hW1 hne
      refine wp_region_any (by kernel_rfl) ?_
      change wpAny _ _ _ _ _ _ _ W1.drew
      obtain ⟨W3, hW3⟩ : ∃ W3, W1.drew = W3 := ⟨_, rfl⟩
      have HX3 := Lib.hid (show CB W3 ne 48 #[.string xt, .string xa, .string xs, .int .i64 (de : Int)] by rw [← hW3]; exact HX1.out.drew)
      have HBl3 := Lib.hid (show Bld nb nb (catL (headP title base dn) ++ (R.take k).flatMap (fun x => catL (entP base x))) W3 by rw [← hW3]; exact bld_below HBl1.out (Below.refl _ _).drew)
      have HB3 := Lib.hid (show Below nb w6 W3 by rw [← hW3]; exact HB1.out.drew)
      have HTab3 := Lib.hid (HTb.out _ HB3.out)
      have hbn3 := (bld_lt HBl3.out).1
      rw [hW3]
      clear hW3 HX1 HBl1 HB1
      refine wpAny_inv [0, 1, 2, 3, 4, 5, 6, 7, 8, 9, 10, 11, 12, 13, 14, 15] (InvFe (fun v71 v72 v73 v74 v75 v76 v77 v78 v79 v80 v81 v82 v83 v84 v85 v86 => ⟨#[.string title, .string base, .int .i64 (dn : Int), .slice A l.length c, .int .i64 (mo : Int), undef, undef, undef, undef, undef, .string ⟨#[]⟩, .int .i64 0, .int .i64 0, .pointer (some ⟨Bs, 0, none⟩), .pointer (some ⟨nb, 0, none⟩), .func (.func 17) #[] #[.pointer (some ⟨nb, 0, none⟩)], undef, .pointer (some ⟨ne, 0, none⟩), .bool (decide ((mo : Int) < 0) || decide ((60 : Int) < (mo : Int))), .int .i64 (mo : Int), .bool (decide ((mo : Int) < 0)), .bool (decide ((mo : Int) < 0)), .int .i64 (mo : Int), .bool (decide ((60 : Int) < (mo : Int))), .bool (decide ((mo : Int) < 0) || decide ((60 : Int) < (mo : Int))), .bool (decide ((60 : Int) < (l.length : Int))), .slice A l.length c, .int .i64 (l.length : Int), .bool (decide ((60 : Int) < (l.length : Int))), .bool false, .string title, .bool false, .bool false, .string base, .bool false, .bool false, .bool false, .int .i64 (dn : Int), .bool false, .slice A l.length c, .int .i64 0, .int .i64 0, .bool false, undef, .slice A l.length c, .slice (some ⟨g7, 0, none⟩) m0 c7, .slice (some ⟨g7, 0, none⟩) m0 c7, .iface 22 (.slice (some ⟨g7, 0, none⟩) m0 c7), .func (.func 16) #[] #[.pointer (some ⟨Bs, 0, none⟩)], .tuple #[], .func (.func 17) #[] #[.pointer (some ⟨nb, 0, none⟩)], .func (.func 17) #[] #[.pointer (some ⟨nb, 0, none⟩)], .string title, .string et, .string base, .string eb, .int .i64 (dn : Int), .string dt, .slice (some ⟨nr, 0, none⟩) 7 7, .tuple #[], .slice (some ⟨g7, 0, none⟩) m0 c7, .int .i64 (mo : Int), .slice (some ⟨g7, 0, none⟩) m0 c7, .int .i64 (m0 : Int), .int .i64 (kk : Int), .slice (some ⟨g7, 0, none⟩) kk c7, .int .i64 (kk : Int), .int .i64 (k : Int), .bool true, .pointer (some ⟨g7, k * 4, none⟩), .agg #[.string xt, .string xa, .string xs, .int .i64 (de : Int)], v71, v72, v73, v74, v75, v76, v77, v78, v79, v80, v81, v82, v83, v84, v85, v86, u87, u88, undef, undef, undef, undef], []⟩) nb ne de base xt xa xs u1 u2 dx u3 W3) #[true, true, true, true, true, true, true, true, true, true, true, true, true, true, true, true, false] (g := 1) (by kernel_rfl) (by kernel_rfl) (by kernel_rfl) (InvFe.start u71 u72 u73 u74 u75 u76 u77 u78 u79 u80 u81 u82 u83 u84 u85 u86 rfl) ?step ?last
      case step =>
        intro i hi L a' w' hs hr hI
        obtain ⟨x0, x1, x2, x3, x4, x5, x6, x7, x8, x9, x10, x11, x12, x13, x14, x15, rfl, hB, h0, h1, h2, h3, h4, h5, h6, h7, h8, h9, h10, h11, h12, h13, h14, h15⟩ := hI
        simp only [List.mem_cons, List.not_mem_nil, or_false] at hi
        rcases hi with rfl | rfl | rfl | rfl | rfl | rfl | rfl | rfl | rfl | rfl | rfl | rfl | rfl | rfl | rfl | rfl
        · refine wpOp_step rfl (fun K hK => ?_)
          go_simp
          exact hK _ _ ⟨_, _, _, _, _, _, _, _, _, _, _, _, _, _, _, _, rfl, hB, fun _ => rfl, fun h => h1 (getD_was (by decide) h), fun h => h2 (getD_was (by decide) h), fun h => h3 (getD_was (by decide) h), fun h => h4 (getD_was (by decide) h), fun h => h5 (getD_was (by decide) h), fun h => h6 (getD_was (by decide) h), fun h => h7 (getD_was (by decide) h), fun h => h8 (getD_was (by decide) h), fun h => h9 (getD_was (by decide) h), fun h => h10 (getD_was (by decide) h), fun h => h11 (getD_was (by decide) h), fun h => h12 (getD_was (by decide) h), fun h => h13 (getD_was (by decide) h), fun h => h14 (getD_was (by decide) h), fun h => h15 (getD_was (by decide) h)⟩
        · refine wpOp_step rfl (fun K hK => ?_)
          go_simp
          exact hK _ _ ⟨_, _, _, _, _, _, _, _, _, _, _, _, _, _, _, _, rfl, hB, fun h => h0 (getD_was (by decide) h), fun _ => rfl, fun h => h2 (getD_was (by decide) h), fun h => h3 (getD_was (by decide) h), fun h => h4 (getD_was (by decide) h), fun h => h5 (getD_was (by decide) h), fun h => h6 (getD_was (by decide) h), fun h => h7 (getD_was (by decide) h), fun h => h8 (getD_was (by decide) h), fun h => h9 (getD_was (by decide) h), fun h => h10 (getD_was (by decide) h), fun h => h11 (getD_was (by decide) h), fun h => h12 (getD_was (by decide) h), fun h => h13 (getD_was (by decide) h), fun h => h14 (getD_was (by decide) h), fun h => h15 (getD_was (by decide) h)⟩
        · have q1 := h1 (ready_dep hr (by kernel_rfl))
          subst q1
          have z := (HX3.out.below hB).c 0
          simp only [List.getElem?_toArray, List.getElem?_cons_zero] at z
          refine wpOp_step rfl (fun K hK => ?_)
          go_simp
          exact hK _ _ ⟨_, _, _, _, _, _, _, _, _, _, _, _, _, _, _, _, rfl, hB, fun h => h0 (getD_was (by decide) h), fun _ => rfl, fun _ => rfl, fun h => h3 (getD_was (by decide) h), fun h => h4 (getD_was (by decide) h), fun h => h5 (getD_was (by decide) h), fun h => h6 (getD_was (by decide) h), fun h => h7 (getD_was (by decide) h), fun h => h8 (getD_was (by decide) h), fun h => h9 (getD_was (by decide) h), fun h => h10 (getD_was (by decide) h), fun h => h11 (getD_was (by decide) h), fun h => h12 (getD_was (by decide) h), fun h => h13 (getD_was (by decide) h), fun h => h14 (getD_was (by decide) h), fun h => h15 (getD_was (by decide) h)⟩
        · have q2 := h2 (ready_dep hr (by kernel_rfl))
          subst q2
          refine wpOp_step rfl (fun K hK => ?_)
          go_simp
          refine (escape_q xt u1 _ HU1.out (by omega)).mono ?_
          rintro e w'' ⟨rfl, hb⟩
          exact hK _ _ ⟨_, _, _, _, _, _, _, _, _, _, _, _, _, _, _, _, rfl, hB.trans (hb.mono hB.size), fun h => h0 (getD_was (by decide) h), fun h => h1 (getD_was (by decide) h), fun _ => rfl, fun _ => rfl, fun h => h4 (getD_was (by decide) h), fun h => h5 (getD_was (by decide) h), fun h => h6 (getD_was (by decide) h), fun h => h7 (getD_was (by decide) h), fun h => h8 (getD_was (by decide) h), fun h => h9 (getD_was (by decide) h), fun h => h10 (getD_was (by decide) h), fun h => h11 (getD_was (by decide) h), fun h => h12 (getD_was (by decide) h), fun h => h13 (getD_was (by decide) h), fun h => h14 (getD_was (by decide) h), fun h => (h15 (getD_was (by decide) h)).below hb⟩
        · refine wpOp_step rfl (fun K hK => ?_)
          go_simp
          exact hK _ _ ⟨_, _, _, _, _, _, _, _, _, _, _, _, _, _, _, _, rfl, hB, fun h => h0 (getD_was (by decide) h), fun h => h1 (getD_was (by decide) h), fun h => h2 (getD_was (by decide) h), fun h => h3 (getD_was (by decide) h), fun _ => rfl, fun h => h5 (getD_was (by decide) h), fun h => h6 (getD_was (by decide) h), fun h => h7 (getD_was (by decide) h), fun h => h8 (getD_was (by decide) h), fun h => h9 (getD_was (by decide) h), fun h => h10 (getD_was (by decide) h), fun h => h11 (getD_was (by decide) h), fun h => h12 (getD_was (by decide) h), fun h => h13 (getD_was (by decide) h), fun h => h14 (getD_was (by decide) h), fun h => h15 (getD_was (by decide) h)⟩
        · refine wpOp_step rfl (fun K hK => ?_)
          go_simp
          exact hK _ _ ⟨_, _, _, _, _, _, _, _, _, _, _, _, _, _, _, _, rfl, hB, fun h => h0 (getD_was (by decide) h), fun h => h1 (getD_was (by decide) h), fun h => h2 (getD_was (by decide) h), fun h => h3 (getD_was (by decide) h), fun h => h4 (getD_was (by decide) h), fun _ => rfl, fun h => h6 (getD_was (by decide) h), fun h => h7 (getD_was (by decide) h), fun h => h8 (getD_was (by decide) h), fun h => h9 (getD_was (by decide) h), fun h => h10 (getD_was (by decide) h), fun h => h11 (getD_was (by decide) h), fun h => h12 (getD_was (by decide) h), fun h => h13 (getD_was (by decide) h), fun h => h14 (getD_was (by decide) h), fun h => h15 (getD_was (by decide) h)⟩
        · have q5 := h5 (ready_dep hr (by kernel_rfl))
          subst q5
          have z := (HX3.out.below hB).c 1
          simp only [List.getElem?_toArray, List.getElem?_cons_zero, List.getElem?_cons_succ] at z
          refine wpOp_step rfl (fun K hK => ?_)
          go_simp
          exact hK _ _ ⟨_, _, _, _, _, _, _, _, _, _, _, _, _, _, _, _, rfl, hB, fun h => h0 (getD_was (by decide) h), fun h => h1 (getD_was (by decide) h), fun h => h2 (getD_was (by decide) h), fun h => h3 (getD_was (by decide) h), fun h => h4 (getD_was (by decide) h), fun _ => rfl, fun _ => rfl, fun h => h7 (getD_was (by decide) h), fun h => h8 (getD_was (by decide) h), fun h => h9 (getD_was (by decide) h), fun h => h10 (getD_was (by decide) h), fun h => h11 (getD_was (by decide) h), fun h => h12 (getD_was (by decide) h), fun h => h13 (getD_was (by decide) h), fun h => h14 (getD_was (by decide) h), fun h => h15 (getD_was (by decide) h)⟩
        · have q4 := h4 (ready_dep hr (by kernel_rfl))
          have q6 := h6 (ready_dep hr (by kernel_rfl))
          subst q4
          subst q6
          refine wpOp_step rfl (fun K hK => ?_)
          go_simp
          rw [if_neg (by first | omega | (simp only [ByteArray.size_append]; omega) | (simp; omega))]
          go_simp
          exact hK _ _ ⟨_, _, _, _, _, _, _, _, _, _, _, _, _, _, _, _, rfl, hB, fun h => h0 (getD_was (by decide) h), fun h => h1 (getD_was (by decide) h), fun h => h2 (getD_was (by decide) h), fun h => h3 (getD_was (by decide) h), fun _ => rfl, fun h => h5 (getD_was (by decide) h), fun _ => rfl, fun _ => rfl, fun h => h8 (getD_was (by decide) h), fun h => h9 (getD_was (by decide) h), fun h => h10 (getD_was (by decide) h), fun h => h11 (getD_was (by decide) h), fun h => h12 (getD_was (by decide) h), fun h => h13 (getD_was (by decide) h), fun h => h14 (getD_was (by decide) h), fun h => h15 (getD_was (by decide) h)⟩
        · have q7 := h7 (ready_dep hr (by kernel_rfl))
          subst q7
          refine wpOp_step rfl (fun K hK => ?_)
          go_simp
          refine (escape_q (base ++ xa) u2 _ HU2.out (by rw [ByteArray.size_append]; omega)).mono ?_
          rintro e w'' ⟨rfl, hb⟩
          exact hK _ _ ⟨_, _, _, _, _, _, _, _, _, _, _, _, _, _, _, _, rfl, hB.trans (hb.mono hB.size), fun h => h0 (getD_was (by decide) h), fun h => h1 (getD_was (by decide) h), fun h => h2 (getD_was (by decide) h), fun h => h3 (getD_was (by decide) h), fun h => h4 (getD_was (by decide) h), fun h => h5 (getD_was (by decide) h), fun h => h6 (getD_was (by decide) h), fun _ => rfl, fun _ => rfl, fun h => h9 (getD_was (by decide) h), fun h => h10 (getD_was (by decide) h), fun h => h11 (getD_was (by decide) h), fun h => h12 (getD_was (by decide) h), fun h => h13 (getD_was (by decide) h), fun h => h14 (getD_was (by decide) h), fun h => (h15 (getD_was (by decide) h)).below hb⟩
        · refine wpOp_step rfl (fun K hK => ?_)
          go_simp
          exact hK _ _ ⟨_, _, _, _, _, _, _, _, _, _, _, _, _, _, _, _, rfl, hB, fun h => h0 (getD_was (by decide) h), fun h => h1 (getD_was (by decide) h), fun h => h2 (getD_was (by decide) h), fun h => h3 (getD_was (by decide) h), fun h => h4 (getD_was (by decide) h), fun h => h5 (getD_was (by decide) h), fun h => h6 (getD_was (by decide) h), fun h => h7 (getD_was (by decide) h), fun h => h8 (getD_was (by decide) h), fun _ => rfl, fun h => h10 (getD_was (by decide) h), fun h => h11 (getD_was (by decide) h), fun h => h12 (getD_was (by decide) h), fun h => h13 (getD_was (by decide) h), fun h => h14 (getD_was (by decide) h), fun h => h15 (getD_was (by decide) h)⟩
        · have q9 := h9 (ready_dep hr (by kernel_rfl))
          subst q9
          have z := (HX3.out.below hB).c 3
          simp only [List.getElem?_toArray, List.getElem?_cons_zero, List.getElem?_cons_succ] at z
          refine wpOp_step rfl (fun K hK => ?_)
          go_simp
          exact hK _ _ ⟨_, _, _, _, _, _, _, _, _, _, _, _, _, _, _, _, rfl, hB, fun h => h0 (getD_was (by decide) h), fun h => h1 (getD_was (by decide) h), fun h => h2 (getD_was (by decide) h), fun h => h3 (getD_was (by decide) h), fun h => h4 (getD_was (by decide) h), fun h => h5 (getD_was (by decide) h), fun h => h6 (getD_was (by decide) h), fun h => h7 (getD_was (by decide) h), fun h => h8 (getD_was (by decide) h), fun _ => rfl, fun _ => rfl, fun h => h11 (getD_was (by decide) h), fun h => h12 (getD_was (by decide) h), fun h => h13 (getD_was (by decide) h), fun h => h14 (getD_was (by decide) h), fun h => h15 (getD_was (by decide) h)⟩
        · have q10 := h10 (ready_dep hr (by kernel_rfl))
          subst q10
          refine wpOp_step rfl (fun K hK => ?_)
          go_simp
          refine (date_q de dx _ hdw (HTab3.out.keep hB) HDx.out).mono ?_
          rintro e w'' ⟨rfl, hb⟩
          exact hK _ _ ⟨_, _, _, _, _, _, _, _, _, _, _, _, _, _, _, _, rfl, hB.trans (hb.mono hB.size), fun h => h0 (getD_was (by decide) h), fun h => h1 (getD_was (by decide) h), fun h => h2 (getD_was (by decide) h), fun h => h3 (getD_was (by decide) h), fun h => h4 (getD_was (by decide) h), fun h => h5 (getD_was (by decide) h), fun h => h6 (getD_was (by decide) h), fun h => h7 (getD_was (by decide) h), fun h => h8 (getD_was (by decide) h), fun h => h9 (getD_was (by decide) h), fun _ => rfl, fun _ => rfl, fun h => h12 (getD_was (by decide) h), fun h => h13 (getD_was (by decide) h), fun h => h14 (getD_was (by decide) h), fun h => (h15 (getD_was (by decide) h)).below hb⟩
        · refine wpOp_step rfl (fun K hK => ?_)
          go_simp
          exact hK _ _ ⟨_, _, _, _, _, _, _, _, _, _, _, _, _, _, _, _, rfl, hB, fun h => h0 (getD_was (by decide) h), fun h => h1 (getD_was (by decide) h), fun h => h2 (getD_was (by decide) h), fun h => h3 (getD_was (by decide) h), fun h => h4 (getD_was (by decide) h), fun h => h5 (getD_was (by decide) h), fun h => h6 (getD_was (by decide) h), fun h => h7 (getD_was (by decide) h), fun h => h8 (getD_was (by decide) h), fun h => h9 (getD_was (by decide) h), fun h => h10 (getD_was (by decide) h), fun h => h11 (getD_was (by decide) h), fun _ => rfl, fun h => h13 (getD_was (by decide) h), fun h => h14 (getD_was (by decide) h), fun h => h15 (getD_was (by decide) h)⟩
        · have q12 := h12 (ready_dep hr (by kernel_rfl))
          subst q12
          have z := (HX3.out.below hB).c 2
          simp only [List.getElem?_toArray, List.getElem?_cons_zero, List.getElem?_cons_succ] at z
          refine wpOp_step rfl (fun K hK => ?_)
          go_simp
          exact hK _ _ ⟨_, _, _, _, _, _, _, _, _, _, _, _, _, _, _, _, rfl, hB, fun h => h0 (getD_was (by decide) h), fun h => h1 (getD_was (by decide) h), fun h => h2 (getD_was (by decide) h), fun h => h3 (getD_was (by decide) h), fun h => h4 (getD_was (by decide) h), fun h => h5 (getD_was (by decide) h), fun h => h6 (getD_was (by decide) h), fun h => h7 (getD_was (by decide) h), fun h => h8 (getD_was (by decide) h), fun h => h9 (getD_was (by decide) h), fun h => h10 (getD_was (by decide) h), fun h => h11 (getD_was (by decide) h), fun _ => rfl, fun _ => rfl, fun h => h14 (getD_was (by decide) h), fun h => h15 (getD_was (by decide) h)⟩
        · have q13 := h13 (ready_dep hr (by kernel_rfl))
          subst q13
          refine wpOp_step rfl (fun K hK => ?_)
          go_simp
          refine (escape_q xs u3 _ HU3.out (by omega)).mono ?_
          rintro e w'' ⟨rfl, hb⟩
          exact hK _ _ ⟨_, _, _, _, _, _, _, _, _, _, _, _, _, _, _, _, rfl, hB.trans (hb.mono hB.size), fun h => h0 (getD_was (by decide) h), fun h => h1 (getD_was (by decide) h), fun h => h2 (getD_was (by decide) h), fun h => h3 (getD_was (by decide) h), fun h => h4 (getD_was (by decide) h), fun h => h5 (getD_was (by decide) h), fun h => h6 (getD_was (by decide) h), fun h => h7 (getD_was (by decide) h), fun h => h8 (getD_was (by decide) h), fun h => h9 (getD_was (by decide) h), fun h => h10 (getD_was (by decide) h), fun h => h11 (getD_was (by decide) h), fun h => h12 (getD_was (by decide) h), fun _ => rfl, fun _ => rfl, fun h => (h15 (getD_was (by decide) h)).below hb⟩
        · have q3 := h3 (ready_dep hr (by kernel_rfl))
          have q8 := h8 (ready_dep hr (by kernel_rfl))
          have q11 := h11 (ready_dep hr (by kernel_rfl))
          have q14 := h14 (ready_dep hr (by kernel_rfl))
          subst q3
          subst q8
          subst q11
          subst q14
          refine wpOp_step rfl (fun K hK => ?_)
          go_simp
          exact hK _ _ ⟨_, _, _, _, _, _, _, _, _, _, _, _, _, _, _, _, rfl, hB.alloc hB.size _, fun h => h0 (getD_was (by decide) h), fun h => h1 (getD_was (by decide) h), fun h => h2 (getD_was (by decide) h), fun _ => rfl, fun h => h4 (getD_was (by decide) h), fun h => h5 (getD_was (by decide) h), fun h => h6 (getD_was (by decide) h), fun h => h7 (getD_was (by decide) h), fun _ => rfl, fun h => h9 (getD_was (by decide) h), fun h => h10 (getD_was (by decide) h), fun _ => rfl, fun h => h12 (getD_was (by decide) h), fun h => h13 (getD_was (by decide) h), fun _ => rfl, fun _ => ⟨_, rfl, hB.size, CB.new _ _ _⟩⟩
      case last =>
        intro a' w' hI
        obtain ⟨x0, x1, x2, x3, x4, x5, x6, x7, x8, x9, x10, x11, x12, x13, x14, x15, rfl, hB, h0, h1, h2, h3, h4, h5, h6, h7, h8, h9, h10, h11, h12, h13, h14, h15⟩ := hI
        have q0 := h0 rfl
        have q15 := h15 rfl
        clear h0 h1 h2 h3 h4 h5 h6 h7 h8 h9 h10 h11 h12 h13 h14 h15
        subst q0
        obtain ⟨gr, rfl, hgr, hcb⟩ := q15
        refine wpAny_of_seqA 1 16 rfl (by kernel_rfl) ?_
        simp only [List.drop_succ_cons, List.drop_zero]
        have HB4 := Lib.hid (HB3.out.trans (hB.mono (HSz.out _ HB3.out)))
        have HBl4 := Lib.hid (bld_below HBl3.out hB)
        have HCb := Lib.hid hcb
        have hgn : gr ≠ nb := by omega
        have hln : (catL (headP title base dn) ++ (R.take k).flatMap (fun x => catL (entP base x))).length + (catL [fe1, u1, fe2, u2, fe3, dx, fe4, u3, fe5]).length ≤ 70368744177664 := by
          have h9 := HLt.out
          rw [HEp.out, List.length_append]
          omega
        have HLn := Lib.hid hln
        clear hln hcb hB
        go_wp2_with (go_at_call 17; go_must (refine (feedPut9 nb nb gr _ fe1 u1 fe2 u2 fe3 dx fe4 u3 fe5 _ HBl4.out HCb.out hgn HLn.out (HSz.out _ HB4.out)).mono ?_); rintro e w15 ⟨rfl, hbl, hb15, _⟩; have HBl15 := Lib.hid hbl; have HB15 := Lib.hid (HB4.out.trans hb15); clear hbl hb15)
        go_roundw
        case rel => exact ⟨_, .int .i64 ((k : Int) + 1), _, _, _, _, _, _, _, _, _, _, _, _, _, _, _, _, _, _, _, _, _, ⟨k + 1, by omega, by go_num, Lib.hid (by rw [HTk.out, ← HEp.out, ← List.append_assoc]; exact HBl15.out), HB15⟩, rfl⟩
        case measure =>
          show kk - ((k : Int) + 1).toNat < kk - ((k : Int)).toNat
          omega
    · obtain rfl : k = kk := by omega
      have HFin := Lib.hid (show catL (headP title base dn) ++ (R.take k).flatMap (fun x => catL (entP base x)) ++ catL [fkz] = feedL title base (dn : Int).toNat (R.take (mo : Int).toNat) by
        have e9 : R.take k = R.take mo := by
          rw [HKm.out, ← HRl.out, ← List.take_take, List.take_length]
        rw [e9]
        simp [feedL, catL])
      have hlz := HEm.out k
      have hlz2 : (catL [fkz]).length = fkz.size := by rw [cat_cons, cat_nil]; rfl
      have hlz3 : fkz.size ≤ 100 := by decide
      have hlz4 : (catL (headP title base dn) ++ (R.take k).flatMap (fun x => catL (entP base x))).length + (catL [fkz]).length ≤ 70368744177664 := by rw [List.length_append]; omega
      have HLz := Lib.hid hlz4
      clear hlz hlz2 hlz3 hlz4
      have hbn := (bld_lt HBl.out).1
      go_wp2_with fail
      obtain ⟨nz, hnz⟩ : ∃ nz, wr.heap.size = nz := ⟨_, rfl⟩
      generalize hW13 : wr.alloc _ = W13
      have HR13 := Lib.hid (show CB W13 nz 9 #[.string fkz] by rw [← hW13, ← hnz]; exact CB.new wr _ _)
      have HBl13 := Lib.hid (show Bld nb nb (catL (headP title base dn) ++ (R.take k).flatMap (fun x => catL (entP base x))) W13 by rw [← hW13]; exact bld_below HBl.out ((Below.refl _ _).alloc (Nat.le_refl _) _))
      have HB13 := Lib.hid (show Below nb w6 W13 by rw [← hW13]; exact HB.out.alloc hnw _)
      have hnzn : nz ≠ nb := by omega
      rw [hnz]
      clear hW13
      refine (feedPut1 nb nb nz _ fkz W13 HBl13.out HR13.out hnzn HLz.out (HSz.out _ HB13.out)).mono ?_
      rintro e w15 ⟨rfl, hbl, hb15, _⟩
      rw [HFin.out] at hbl
      have HBl15 := Lib.hid hbl
      have HB15 := Lib.hid (HB13.out.trans hb15)
      clear hbl hb15
      go_wp2_with (go_at_call 21; go_must (refine (Tryz.Builder_String_any nb nb _ _ HBl15.out (HSz.out _ HB15.out)).mono ?_); rintro e w5 ⟨rfl, hb5⟩; have HB5 := Lib.hid (HB15.out.trans hb5); clear hb5)
      go_ret2
      exact ⟨HBB.out _ HB5.out, Or.inr ⟨HFv.out, R, HP6.out, HS6.out, rfl⟩⟩
end Go.Proofs.YtnanogcppglapaaGreatDoor
