/-
  page.Line and mastref1.CodeOf give the same of every line.
-/
import Derived.Test.YtgbmlpidaeefoaaCode
namespace Go.Proofs.Ytgbmlpidaeefoaa
open Go.RowKit Go.Deep

theorem pre_drop {S P : List UInt8} (h : Lib.hasPrefix S P = true) : S = P ++ S.drop P.length := by
  unfold Lib.hasPrefix at h
  obtain ⟨t, rfl⟩ := List.isPrefixOf_iff_prefix.1 h
  simp

theorem suf_take {S K : List UInt8} (h : K <:+ S) : S = S.take (S.length - K.length) ++ K := by
  obtain ⟨y, rfl⟩ := h
  simp

theorem ends_differ : ¬ ([32, 62, 125] : List UInt8) <:+ [32, 47, 62, 125] := by decide

/-- the rest of a line, cut before its end -/
theorem cut_end {S K : List UInt8} {m : Nat} (h : K <:+ S) (hm : m = S.length - K.length) (h3 : 3 ≤ m) : S.drop 3 = (S.take m).drop 3 ++ K := by
  have h1 := suf_take h
  rw [← hm] at h1
  have hl : (S.take m).length = m := by rw [List.length_take]; omega
  calc S.drop 3 = (S.take m ++ K).drop 3 := by rw [← h1]
    _ = (S.take m).drop 3 ++ K := List.drop_append_of_le_length (by omega)

theorem lineOut_law {b x K : List UInt8} {e : Bool} (hK : isEnd K e) (hb : b = x ++ K) :
    (codeF x = none → lineOut b = (8, [], [], false)) ∧ ∀ n l, codeF x = some (n, l) → lineOut b = if argsE2 l = 0 then (0, n, l, e) else (argsE2 l, [], [], false) := by
  have hl := line_law (x := x) hK
  rw [← hb] at hl
  constructor
  · intro h
    exact lineOut_none (by rw [hl, h]; rfl)
  · intro n l h
    have h2 : lineF b = some (n, l, e) := by rw [hl, h]; rfl
    by_cases h3 : argsE2 l = 0
    · rw [if_pos h3, lineOut_ok h2 h3]
    · rw [if_neg h3, lineOut_bad h2 h3]

theorem both_any (s : ByteArray) (hs : s.size ≤ 20000) : ∃ o, (∀ w, Calls Try.prog 7 #[.string s] w (PartPost o w)) ∧ ∀ w, Calls Try.prog 8 #[.string s] w (PartPost o w) := by
  by_cases hp : Lib.hasPrefix s.data.toList [123, 60, 32] = false ∨ Lib.hasPrefix s.data.toList [123, 60, 32, 47] = true
  · exact ⟨_, fun w => line_no s w hp, fun w => code_no s w hp⟩
  have h1 : Lib.hasPrefix s.data.toList [123, 60, 32] = true := by
    cases h : Lib.hasPrefix s.data.toList [123, 60, 32]
    · exact absurd (Or.inl h) hp
    · rfl
  have h2 : Lib.hasPrefix s.data.toList [123, 60, 32, 47] = false := by
    cases h : Lib.hasPrefix s.data.toList [123, 60, 32, 47]
    · rfl
    · exact absurd (Or.inr h) hp
  have hS := pre_drop h1
  have hlen := congrArg List.length hS
  rw [List.length_append, size_toList] at hlen
  simp only [List.length_cons, List.length_nil, List.length_drop, size_toList] at hlen
  have hs3 : 3 ≤ s.size := by omega
  have hb : (s.extract 3 s.size).data.toList = s.data.toList.drop 3 := by rw [ext_list, List.take_of_length_le (by rw [size_toList]; omega)]
  have hsuf : (s.data.toList.drop 3) <:+ s.data.toList := List.drop_suffix _ _
  refine ⟨lineOut (s.extract 3 s.size).data.toList, fun w => line_yes s _ w h1 h2 rfl hs hs3, fun w => ?_⟩
  rw [hb]
  cases hc2 : Lib.hasSuffix s.data.toList [32, 47, 62, 125]
  · have hn2 : ¬ ([32, 47, 62, 125] : List UInt8) <:+ s.data.toList := fun h => by rw [suffix_iff.2 h] at hc2; cases hc2
    cases hc1 : Lib.hasSuffix s.data.toList [32, 62, 125]
    · have hn1 : ¬ ([32, 62, 125] : List UInt8) <:+ s.data.toList := fun h => by rw [suffix_iff.2 h] at hc1; cases hc1
      refine code_end s _ w h1 h2 hs hc2 hc1 (lineOut_none (line_none fun K e hK hk => ?_))
      rcases hK with ⟨rfl, _⟩ | ⟨rfl, _⟩
      · exact hn1 (hk.trans hsuf)
      · exact hn2 (hk.trans hsuf)
    · have hk := suffix_iff.1 hc1
      have hkl := hk.length_le
      rw [size_toList] at hkl
      simp only [List.length_cons, List.length_nil] at hkl
      have hxe : ((s.extract 0 (s.size - 3)).extract 3 (s.size - 3)).data.toList = (s.data.toList.take (s.size - 3)).drop 3 := by
        rw [ext_list, ext_list, List.drop_zero, List.take_take, Nat.min_self]
      refine code_yes1 s _ _ w h1 h2 hs hc2 hc1 hkl (fun hlt => lineOut_none (line_none fun K e hK hk2 => ?_)) rfl (fun hge => ?_) (fun n l hge => ?_)
      · rcases hK with ⟨rfl, _⟩ | ⟨rfl, _⟩
        · have := hk2.length_le
          simp only [List.length_cons, List.length_nil, List.length_drop, size_toList] at this
          omega
        · exact hn2 (hk2.trans hsuf)
      · rw [hxe]
        exact (lineOut_law (Or.inl ⟨rfl, rfl⟩) (cut_end hk (by rw [size_toList]; rfl) (by omega))).1
      · rw [hxe]
        exact (lineOut_law (Or.inl ⟨rfl, rfl⟩) (cut_end hk (by rw [size_toList]; rfl) (by omega))).2 n l
  · have hk := suffix_iff.1 hc2
    have hkl := hk.length_le
    rw [size_toList] at hkl
    simp only [List.length_cons, List.length_nil] at hkl
    have hxe : ((s.extract 0 (s.size - 4)).extract 3 (s.size - 4)).data.toList = (s.data.toList.take (s.size - 4)).drop 3 := by
      rw [ext_list, ext_list, List.drop_zero, List.take_take, Nat.min_self]
    refine code_yes2 s _ _ w h1 h2 hs hc2 hkl (fun hlt => lineOut_none (line_none fun K e hK hk2 => ?_)) rfl (fun hge => ?_) (fun n l hge => ?_)
    · rcases hK with ⟨rfl, _⟩ | ⟨rfl, _⟩
      · have h3 : ([32, 62, 125] : List UInt8) <:+ [32, 47, 62, 125] := List.suffix_of_suffix_length_le (hk2.trans hsuf) hk (by decide)
        exact ends_differ h3
      · have := hk2.length_le
        simp only [List.length_cons, List.length_nil, List.length_drop, size_toList] at this
        omega
    · rw [hxe]
      exact (lineOut_law (Or.inr ⟨rfl, rfl⟩) (cut_end hk (by rw [size_toList]; rfl) (by omega))).1
    · rw [hxe]
      exact (lineOut_law (Or.inr ⟨rfl, rfl⟩) (cut_end hk (by rw [size_toList]; rfl) (by omega))).2 n l

end Go.Proofs.Ytgbmlpidaeefoaa
