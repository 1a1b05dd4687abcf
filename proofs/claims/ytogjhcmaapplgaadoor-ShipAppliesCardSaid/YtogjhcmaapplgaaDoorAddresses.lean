/-
  Addresses and paths: ship.Address, ship.Path, mastref1.AddressOf, mastref1.PathOf.
-/
import Derived.Test.YtogjhcmaapplgaaDoorPaths
import Derived.Lib.SmallJoins
namespace Go.Proofs.YtogjhcmaapplgaaDoor
open Go.RowKit Go.Deep

/-- index.html -/
def idx : List UInt8 := [105, 110, 100, 101, 120, 46, 104, 116, 109, 108]
def addrL (l : List UInt8) : List UInt8 := if Lib.hasSuffix (47 :: l) (47 :: idx) then (47 :: l).take (l.length - 9) else 47 :: l
def addrS (s : ByteArray) : ByteArray := ⟨(if pathB s then addrL s.data.toList else []).toArray⟩
def errI (b : Bool) : Int := if b then 0 else 3
theorem addrS_no {s : ByteArray} (h : pathB s = false) : addrS s = ⟨#[]⟩ := by rw [addrS, h]; rfl
theorem addrS_yes {s : ByteArray} (h : pathB s = true) : (addrS s).data.toList = addrL s.data.toList := by rw [addrS, h]; rfl
def pathS (s : ByteArray) : ByteArray := if Lib.hasSuffix s.data.toList [47] then s.extract 1 s.size ++ ⟨#[105, 110, 100, 101, 120, 46, 104, 116, 109, 108]⟩ else s.extract 1 s.size

theorem hasPrefix_v (s p : ByteArray) (v : Bool) (w : World) (h : Lib.hasPrefix s.data.toList p.data.toList = v) :
    Calls Tryd.prog 14 #[.string s, .string p] w fun e w' => e = .returned (.bool v) ∧ w = w' := by
  subst h
  exact (Tryd.strings_HasPrefix s p w).mono fun e w' ⟨h1, h2⟩ => ⟨h1, h2.symm⟩
theorem ret_sp {a a' : ByteArray} {n n' : Int} (h : a.data.toList = a'.data.toList) (hn : n = n') : Ending.returned (.tuple #[.string a, .int .i64 n]) = .returned (.tuple #[.string a', .int .i64 n']) := by
  rw [Go.WideShapes.bytes_inj h, hn]
theorem app_list (a b : ByteArray) : (a ++ b).data.toList = a.data.toList ++ b.data.toList := by simp
theorem path_size {s : ByteArray} (h : pathB s = true) : s.size ≤ 200 := by
  simp only [pathB, Bool.and_eq_true, decide_eq_true_eq] at h
  exact h.1
theorem suf_cons (l : List UInt8) (c : UInt8) (p : List UInt8) : Lib.hasSuffix (c :: l) p = (p == c :: l || Lib.hasSuffix l p) := by
  rw [Bool.eq_iff_iff]
  simp only [Lib.hasSuffix, Bool.or_eq_true, beq_iff_eq, List.isSuffixOf_iff_suffix, List.suffix_cons_iff]
theorem suf_idx {l : List UInt8} (h : Lib.hasSuffix l (47 :: idx) = true) : 11 ≤ l.length := by
  simp only [Lib.hasSuffix, List.isSuffixOf_iff_suffix] at h
  have := h.length_le
  simpa [idx] using this

/-- the path of an address: does it have one, and which -/
def pathV (s : ByteArray) : Bool := Lib.hasPrefix s.data.toList [47] && pathB (pathS s)
def pathR (s : ByteArray) : ByteArray := if pathV s then pathS s else ⟨#[]⟩
theorem pathV_pre {s : ByteArray} (h : Lib.hasPrefix s.data.toList [47] = false) : pathV s = false := by rw [pathV, h]; rfl
theorem pathV_of {s x : ByteArray} {v : Bool} (h : Lib.hasPrefix s.data.toList [47] = true) (hx : pathS s = x) (hv : pathB x = v) : pathV s = v := by rw [pathV, h, hx, hv]; rfl
theorem pathR_no {s : ByteArray} (h : pathV s = false) : pathR s = ⟨#[]⟩ := by rw [pathR, h]; rfl
theorem pathR_yes {s x : ByteArray} (h : pathV s = true) (hx : pathS s = x) : pathR s = x := by rw [pathR, h, ← hx]; rfl
theorem pre_form {s : ByteArray} (h : Lib.hasPrefix s.data.toList [47] = true) : s.data.toList = 47 :: (s.extract 1 s.size).data.toList ∧ 1 ≤ s.size := by
  have h2 : s.data.toList.length = s.size := size_toList s
  rw [Lib.extract_data]
  cases hs : s.data.toList with
  | nil => rw [hs] at h; cases h
  | cons a r =>
    rw [hs] at h h2
    have ha : 47 = a := by simpa [Lib.hasPrefix, List.isPrefixOf] using h
    subst ha
    simp only [List.length_cons] at h2
    refine ⟨?_, by omega⟩
    rw [List.drop_succ_cons, List.drop_zero, List.take_of_length_le (by omega)]
theorem ext1_size {s : ByteArray} : (s.extract 1 s.size).size ≤ s.size := by rw [ByteArray.size_extract]; omega
theorem pathS_suf {s : ByteArray} (h : Lib.hasSuffix s.data.toList [47] = true) : pathS s = s.extract 1 s.size ++ ⟨#[105, 110, 100, 101, 120, 46, 104, 116, 109, 108]⟩ := by rw [pathS, h]; rfl
theorem pathS_not {s : ByteArray} (h : Lib.hasSuffix s.data.toList [47] = false) : pathS s = s.extract 1 s.size := by rw [pathS, h]; rfl
theorem app_size (a b : ByteArray) : (a ++ b).size = a.size + b.size := by simp

end Go.Proofs.YtogjhcmaapplgaaDoor
