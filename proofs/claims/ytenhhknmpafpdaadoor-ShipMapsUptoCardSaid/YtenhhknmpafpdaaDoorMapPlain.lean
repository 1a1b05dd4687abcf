/-
  A site map, plainly.
-/
import Derived.Test.YtenhhknmpafpdaaDoorOuts
import Derived.Test.YtenhhknmpafpdaaDoorIdxDocs
import Derived.Test.YtenhhknmpafpdaaDoorEscape
namespace Go.Proofs.YtenhhknmpafpdaaDoor
open Go.RowKit Go.Deep

def html5 : List UInt8 := [46, 104, 116, 109, 108]
def u1L : List UInt8 := [60, 117, 114, 108, 62, 60, 108, 111, 99, 62]
def u2L : List UInt8 := [60, 47, 108, 111, 99, 62, 60, 47, 117, 114, 108, 62, 10]
def mapH : List UInt8 := [60, 63, 120, 109, 108, 32, 118, 101, 114, 115, 105, 111, 110, 61, 34, 49, 46, 48, 34, 32, 101, 110, 99, 111, 100, 105, 110, 103, 61, 34, 117, 116, 102, 45, 56, 34, 63, 62, 10, 60, 117, 114, 108, 115, 101, 116, 62, 10]
def mapT : List UInt8 := [60, 47, 117, 114, 108, 115, 101, 116, 62, 10]
def pageB (x : ByteArray) : Bool := Lib.hasSuffix x.data.toList html5
def locS (base : ByteArray) (x : ByteArray) : ByteArray := ⟨(escL (base ++ addrS x).data.toList).toArray⟩
def urlL (base : ByteArray) (x : OutV) : List UInt8 := if pageB x.path = true then u1L ++ (locS base x.path).data.toList ++ u2L else []
def mapB (base : ByteArray) (l : List OutV) : List UInt8 := mapH ++ l.flatMap (urlL base) ++ mapT
def mapE (base : ByteArray) (l : List OutV) : Int := if outsE l = 0 then (if ctlL base.data.toList = true then 9 else 0) else outsE l
theorem addrS_le (x : ByteArray) : (addrS x).size ≤ 201 := by
  cases h : pathB x
  · rw [addrS_no h]; show 0 ≤ 201; omega
  · have h1 := path_size h
    rw [← size_toList, addrS_yes h]
    unfold addrL
    split
    · rw [List.length_take, List.length_cons, size_toList]; omega
    · rw [List.length_cons, size_toList]; omega
theorem locIn_le {base : ByteArray} (h : base.size ≤ 1048576) (x : ByteArray) : (base ++ addrS x).size ≤ 2097152 := by
  have := addrS_le x
  rw [ByteArray.size_append]; omega
theorem loc_le {base : ByteArray} (h : base.size ≤ 1048576) (x : ByteArray) : (locS base x).size ≤ 16777216 := by
  have h1 := locIn_le h x
  have h2 := escL_len (base ++ addrS x).data.toList
  have h3 := gainL_le (base ++ addrS x).data.toList
  rw [size_toList] at h2 h3
  have h4 : (locS base x).size = (escL (base ++ addrS x).data.toList).length := by rw [← size_toList]; rfl
  rw [ByteArray.size_append] at h1 h2 h3
  have := addrS_le x
  omega
theorem url_len {base : ByteArray} (h : base.size ≤ 1048576) (x : OutV) : (urlL base x).length ≤ 16777300 := by
  unfold urlL
  have h1 := loc_le h x.path
  split
  · rw [List.length_append, List.length_append, size_toList]
    have h2 : u1L.length = 10 := rfl
    have h3 : u2L.length = 13 := rfl
    omega
  · simp
theorem urls_len {base : ByteArray} (h : base.size ≤ 1048576) : ∀ l : List OutV, (l.flatMap (urlL base)).length ≤ l.length * 16777300
  | [] => by simp
  | x :: l => by
    have h1 := url_len h x
    have h2 := urls_len h l
    rw [List.flatMap_cons, List.length_append, List.length_cons]
    omega
theorem outsE_len {l : List OutV} (h : outsE l = 0) : l.length ≤ 480 := by
  rcases Nat.lt_or_ge 480 l.length with h1 | h1
  · rw [outsE, if_pos h1] at h; cases h
  · exact h1
theorem urls_take {base : ByteArray} {l : List OutV} {k : Nat} {x : OutV} (h : l[k]? = some x) : (l.take (k + 1)).flatMap (urlL base) = (l.take k).flatMap (urlL base) ++ urlL base x := by
  obtain ⟨hk, rfl⟩ := List.getElem?_eq_some_iff.1 h
  rw [List.take_succ_eq_append_getElem hk, List.flatMap_append, List.flatMap_cons, List.flatMap_nil, List.append_nil]
theorem url_no {base : ByteArray} {x : OutV} (h : pageB x.path = false) : urlL base x = [] := by rw [urlL, h]; rfl
theorem url_yes {base : ByteArray} {x : OutV} (h : pageB x.path = true) : urlL base x = u1L ++ (locS base x.path).data.toList ++ u2L := by rw [urlL, if_pos h]
theorem mapE_outs {base : ByteArray} {l : List OutV} {v : Int} (h : outsE l = v) (hv : ¬ v = 0) : mapE base l = v := by rw [mapE, h, if_neg hv]
theorem mapE_ctl {base : ByteArray} {l : List OutV} (h : outsE l = 0) (hc : ctlL base.data.toList = true) : mapE base l = 9 := by rw [mapE, if_pos h, if_pos hc]
theorem mapE_ok {base : ByteArray} {l : List OutV} (h : outsE l = 0) (hc : ctlL base.data.toList = false) : mapE base l = 0 := by rw [mapE, if_pos h, hc]; rfl
def mapS (base : ByteArray) (l : List OutV) : ByteArray := if mapE base l = 0 then ⟨(mapB base l).toArray⟩ else ⟨#[]⟩
theorem mapS_no {base : ByteArray} {l : List OutV} {v : Int} (h : mapE base l = v) (hv : ¬ v = 0) : mapS base l = ⟨#[]⟩ := by rw [mapS, h, if_neg hv]
theorem mapS_yes {base : ByteArray} {l : List OutV} (h : mapE base l = 0) : mapS base l = ⟨(mapB base l).toArray⟩ := by rw [mapS, if_pos h]

end Go.Proofs.YtenhhknmpafpdaaDoor
