/-
  Small values of pages: str, safe, pageFact, table of page; pageFact of mastref1.
-/
import Derived.Test.YtphmhhonbkcajaaDoorSmallV
import Derived.Test.YtphmhhonbkcajaaDoorBTable
namespace Go.Proofs.YtphmhhonbkcajaaDoor
open Go.RowKit Go.Deep

def vPage (s : ByteArray) : Val := .mk 8 false 0 ((⟨#[112, 97, 103, 101, 58]⟩ : ByteArray) ++ s) [] []

set_option maxRecDepth 100000 in
set_option maxHeartbeats 400000 in
theorem str_p (s : ByteArray) (w : World) : Calls Tryd.prog 13 #[.string s] w (MadePost (vStr s) w) := by
  go_enter Tryd.func13, Tryd.ntmps13
  go_wp2_with fail
  exact val_done (n := w.heap.size) rfl (CB.new w _ _) rfl rfl rfl ⟨rfl, (Below.refl _ _).alloc (Nat.le_refl _) _⟩

set_option maxRecDepth 100000 in
set_option maxHeartbeats 400000 in
theorem safe_p (s : ByteArray) (w : World) : Calls Tryd.prog 15 #[.string s] w (MadePost (vSafe s) w) := by
  go_enter Tryd.func15, Tryd.ntmps15
  go_wp2_with fail
  exact val_done (n := w.heap.size) rfl (CB.new w _ _) rfl rfl rfl ⟨rfl, (Below.refl _ _).alloc (Nat.le_refl _) _⟩

set_option maxRecDepth 100000 in
set_option maxHeartbeats 400000 in
theorem pageFact_p (s : ByteArray) (w : World) (hs : s.size ≤ 1073741824) : Calls Tryd.prog 17 #[.string s] w (MadePost (vPage s) w) := by
  have hz : ¬ (9223372036854775807 : Int) < ((⟨#[112, 97, 103, 101, 58]⟩ : ByteArray) ++ s).size := by rw [ByteArray.size_append]; have : (⟨#[112, 97, 103, 101, 58]⟩ : ByteArray).size = 5 := rfl; omega
  go_enter Tryd.func17, Tryd.ntmps17
  go_wp2_with fail
  all_goals first
    | exact val_done (n := w.heap.size) rfl (CB.new w _ _) rfl rfl rfl ⟨rfl, (Below.refl _ _).alloc (Nat.le_refl _) _⟩
    | (rename_i hh; exact absurd hh (by rw [ByteArray.size_append]; have : (⟨#[112, 97, 103, 101, 58]⟩ : ByteArray).size = 5 := rfl; omega))

set_option maxRecDepth 100000 in
set_option maxHeartbeats 400000 in
theorem pageFact_r (s : ByteArray) (w : World) (hs : s.size ≤ 1073741824) : Calls Tryd.prog 22 #[.string s] w (MadePost (vPage s) w) := by
  have hz : ¬ (9223372036854775807 : Int) < ((⟨#[112, 97, 103, 101, 58]⟩ : ByteArray) ++ s).size := by rw [ByteArray.size_append]; have : (⟨#[112, 97, 103, 101, 58]⟩ : ByteArray).size = 5 := rfl; omega
  go_enter Tryd.func22, Tryd.ntmps22
  go_wp2_with fail
  all_goals first
    | exact val_done (n := w.heap.size) rfl (CB.new w _ _) rfl rfl rfl ⟨rfl, (Below.refl _ _).alloc (Nat.le_refl _) _⟩
    | (rename_i hh; exact absurd hh (by rw [ByteArray.size_append]; have : (⟨#[112, 97, 103, 101, 58]⟩ : ByteArray).size = 5 := rfl; omega))

set_option maxRecDepth 100000 in
set_option maxHeartbeats 2000000 in
theorem table_p (K : ByteArray) (v : Value) (A : Option Addr) (n c : Nat) (hv : v = .slice A n c) (w : World) (ht : SpOk w) (ks : List (List UInt8)) (hk : Lib.fields K.data.toList = ks) (hs : K.size < 4294967281) (ha : ∀ (j : Nat) b, K.data.toList[j]? = some b → b.toNat < 128) :
    Calls Tryd.prog 16 #[.string K, v] w (TabPost v ks w) := by
  subst hv
  have HT := Lib.hid ht; clear ht
  have HA := Lib.hid ha; clear ha
  have HK := Lib.hid hk; clear hk
  have HB0 := Lib.hid (show Below w.heap.size w (w.alloc (.cells #[.int .i64 0, .bool false, .int .i64 0, .string ⟨#[]⟩, .slice none 0 0, .slice none 0 0] 35)) from (Below.refl _ _).alloc (Nat.le_refl _) _)
  have HZ0 := Lib.hid (CB.new w #[.int .i64 0, .bool false, .int .i64 0, .string ⟨#[]⟩, .slice none 0 0, .slice none 0 0] 35)
  have hcall := Tryd.strings_Fields K (w.alloc (.cells #[.int .i64 0, .bool false, .int .i64 0, .string ⟨#[]⟩, .slice none 0 0, .slice none 0 0] 35)) hs HA.out (SpOk.keep HT.out HB0.out)
  rw [HK.out] at hcall
  go_enter Tryd.func16, Tryd.ntmps16
  go_wp2_with fail
  refine hcall.mono ?_
  clear hcall
  rintro e w1 ⟨rfl, hw1⟩
  have hn1 : (World.heap (w.alloc (.cells #[.int .i64 0, .bool false, .int .i64 0, .string ⟨#[]⟩, .slice none 0 0, .slice none 0 0] 35))).size = w.heap.size + 1 := World.size_alloc _ _
  have HZ1 := Lib.hid (show CB w1 w.heap.size 35 #[.int .i64 0, .bool false, .int .i64 0, .string ⟨#[]⟩, .slice none 0 0, .slice none 0 0] by rw [hw1]; exact HZ0.out.alloc _)
  have HK1 := Lib.hid (show CB w1 (w.heap.size + 1) 9 (keysC ks) by rw [hw1, ← hn1]; exact CB.new _ _ _)
  have HB1 := Lib.hid (show Below w.heap.size w w1 by rw [hw1]; exact HB0.out.alloc (by rw [hn1]; omega) _)
  rw [hn1]
  clear hw1 hn1 HZ0 HB0
  obtain ⟨n1, hn⟩ : ∃ n1, w.heap.size = n1 := ⟨_, rfl⟩
  rw [hn] at HZ1 HK1
  rw [hn]
  have hnw : w.heap.size ≤ n1 := by omega
  have HNn := Lib.hid hn; clear hn
  have zc0 := HZ1.out.c 0
  have zf0 := HZ1.out.f 0
  have zc1 := HZ1.out.c 1
  have zf1 := HZ1.out.f 1
  have zc2 := HZ1.out.c 2
  have zf2 := HZ1.out.f 2
  have zc3 := HZ1.out.c 3
  have zf3 := HZ1.out.f 3
  have zc4 := HZ1.out.c 4
  have zf4 := HZ1.out.f 4
  have zc5 := HZ1.out.c 5
  have zf5 := HZ1.out.f 5
  have zsh := HZ1.out.sh
  have hnz : n1 < w1.heap.size := HZ1.out.lt
  simp only [List.getElem?_toArray, List.getElem?_cons_zero, List.getElem?_cons_succ] at zc0 zc1 zc2 zc3 zc4 zc5
  go_wp2_with fail
  exact val_done (n := n1) rfl ((((((HZ1.out.put 0 _).put 1 _).put 2 _).put 3 _).put 4 _).put 5 _) rfl rfl rfl
    ⟨n1 + 1, rfl, by omega, (((((HK1.out.setOther (by omega) _).setOther (by omega) _).setOther (by omega) _).setOther (by omega) _).setOther (by omega) _).setOther (by omega) _,
      (((((HB1.out.setB hnw 0 _).setB hnw 1 _).setB hnw 2 _).setB hnw 3 _).setB hnw 4 _).setB hnw 5 _⟩

end Go.Proofs.YtphmhhonbkcajaaDoor
