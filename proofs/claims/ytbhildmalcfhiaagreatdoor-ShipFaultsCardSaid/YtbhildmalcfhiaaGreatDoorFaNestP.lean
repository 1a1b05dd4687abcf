/-
  Faults: elements that are open: rows of tokens that grow and are cut.
-/
import Derived.Test.YtbhildmalcfhiaaGreatDoorBase
import Derived.Test.YtbhildmalcfhiaaGreatDoorShelf
import Derived.Shelf.Utf8.RuneCount
import Derived.Shelf.Strconv.Atoi
import Derived.Shelf.Strconv.AtoiErrFast
import Derived.Shelf.Strconv.ParseIntEmpty
import Derived.Shelf.Strconv.AtoiFail
import Derived.Shelf.Strconv.Clone
import Derived.Shelf.Strconv.SyntaxError
import Derived.Shelf.LaysC
import Derived.Shelf.Strconv.ToError
import Derived.Shelf.Strconv.Lower
import Derived.Shelf.Strconv.ParseUint10
import Derived.Shelf.Strconv.ParseUint10Empty
import Derived.Shelf.Strconv.ParseUint10Any
import Derived.Shelf.Strconv.ParseInt10
import Derived.Shelf.Strconv.AtoiLong
import Derived.Shelf.Strconv.AtoiInnerAll
import Derived.Shelf.Strconv.RangeError
import Derived.Shelf.Strconv.ToErrorRange
import Derived.Shelf.Strconv.AtoiAll
import Derived.Shelf.Sort.Plain
import Derived.Shelf.Unicode.Decode
import Derived.Shelf.Strings.RuneCount
import Derived.Shelf.Strings.Explode
import Derived.Shelf.Unicode.DecodeAny
import Derived.Shelf.Unicode.DecodeLast
import Derived.Shelf.Slices.In.SortNone
import Derived.Shelf.Slices.In.SortNone2
import Derived.Test.YtbhildmalcfhiaaGreatDoorLkTop
import Derived.Shelf.Strings.SlTrimAscii
import Derived.Test.YtbhildmalcfhiaaGreatDoorStrMap
import Derived.Lib.AtoiErrMem
import Derived.Deep.Cut
import Derived.Deep.CutRange
namespace Go.Proofs.YtbhildmalcfhiaaGreatDoor

/-- in the midst of an insertion: A and B are what is sorted, x goes down between them, C is to come -/
structure InsAt {α : Type} (r : α → α → Prop) (L0 A : List α) (x : α) (B C : List α) : Prop where
  perm : (A ++ x :: (B ++ C)).Perm L0
  srt : (A ++ B).Pairwise r
  lt : ∀ b ∈ B, r x b
theorem InsAt.start {α : Type} {r : α → α → Prop} {L0 S : List α} {x : α} {C : List α} (hp : (S ++ x :: C).Perm L0) (hs : S.Pairwise r) : InsAt r L0 S x [] C :=
  ⟨by simpa using hp, by simpa using hs, fun b hb => by cases hb⟩
theorem InsAt.down {α : Type} {r : α → α → Prop} {L0 A : List α} {y x : α} {B C : List α} (h : InsAt r L0 (A ++ [y]) x B C) (hxy : r x y) : InsAt r L0 A x (y :: B) C := by
  refine ⟨?_, by simpa using h.srt, fun b hb => ?_⟩
  · refine List.Perm.trans ?_ h.perm
    rw [List.append_assoc]
    exact List.Perm.append_left A (List.Perm.swap _ _ _)
  · rcases List.mem_cons.1 hb with rfl | hb
    · exact hxy
    · exact h.lt b hb
theorem InsAt.first {α : Type} {r : α → α → Prop} {L0 : List α} {x : α} {B C : List α} (h : InsAt r L0 [] x B C) : (x :: B).Pairwise r ∧ (x :: B ++ C).Perm L0 :=
  ⟨List.pairwise_cons.2 ⟨h.lt, by simpa using h.srt⟩, by simpa using h.perm⟩
theorem InsAt.stop {α : Type} {r : α → α → Prop} (tr : ∀ a b c, r a b → r b c → r a c) {L0 A : List α} {y x : α} {B C : List α} (h : InsAt r L0 (A ++ [y]) x B C) (hyx : r y x) : (A ++ [y] ++ x :: B).Pairwise r ∧ (A ++ [y] ++ x :: B ++ C).Perm L0 := by
  obtain ⟨h1, h2, h3⟩ := List.pairwise_append.1 h.srt
  obtain ⟨h4, _, h5⟩ := List.pairwise_append.1 h1
  refine ⟨List.pairwise_append.2 ⟨h1, List.pairwise_cons.2 ⟨h.lt, h2⟩, fun a ha b hb => ?_⟩, by simpa using h.perm⟩
  rcases List.mem_cons.1 hb with rfl | hb
  · rcases List.mem_append.1 ha with ha | ha
    · exact tr _ _ _ (h5 a ha y (by simp)) hyx
    · simp only [List.mem_singleton] at ha
      subst ha
      exact hyx
  · exact h3 a ha b hb

end Go.Proofs.YtbhildmalcfhiaaGreatDoor

namespace Go.Proofs
open Go.Shelf
def Tryz.lays195_ren : Go.Shelf.Ren := ⟨fun | 195 => 163 | n => n, fun | 9 => 9 | 3 => 3 | 0 => 0 | 4 => 4 | n => n, fun | n => n⟩
theorem Tryz.lays195 : Go.Proofs.Lays.n195 Tryz.prog Tryz.lays195_ren := {
  mixed := by kernel_rfl
  f195 := Tryz.func163.trans (congrArg some (by kernel_rfl))
  t0 := Tryz.underlying0
  a0 := Tryz.isAgg0
  z0 := Tryz.sizeOf0
  v0 := Tryz.zeroValue0
  t3 := Tryz.underlying3
  a3 := Tryz.isAgg3
  z3 := Tryz.sizeOf3
  v3 := Tryz.zeroValue3
  t4 := Tryz.underlying4
  a4 := Tryz.isAgg4
  z4 := Tryz.sizeOf4
  v4 := Tryz.zeroValue4
  t9 := Tryz.underlying9
  a9 := Tryz.isAgg9
  z9 := Tryz.sizeOf9
  v9 := Tryz.zeroValue9 }
open Go.RowKit in
/-- unicode/utf8.RuneCountInString: "RuneCountInString is like RuneCount but its input is a string." ("RuneCount returns the number of runes in p. Erroneous and short encodings are treated as single runes of width 1 byte."): EVERY STRING, valid UTF-8 or not: 'Lib.runeCount s' (plain Lean over the model's own 'Utf8.decode'; 'Lib.runeCount_le': at most len(s); 'Lib.runeCount_ascii': on ASCII: len(s)). THE ONE CONDITION: len(s) below 2^63 - 1 (the counter does not wrap): the form's reach pays it. THE WORLD BEHIND THE CALL: ONE BLOCK MORE: the model's iterator over s, at its end: all else as it was. (LAID: no walk: one application.) -/
theorem Tryz.utf8_RuneCountInString (s : ByteArray) (w : World) (hs : s.size < 9223372036854775807) :
    Calls Tryz.prog 163 #[.string s] w fun e w' => e = .returned (.int .i64 (Lib.runeCount s)) ∧ ∃ pos, w' = w.iter s pos := Any.utf8_RuneCountInString Tryz.lays195 s w hs
def Tryz.lays244_ren : Go.Shelf.Ren := ⟨fun | 244 => 96 | 247 => 134 | 287 => 166 | 321 => 187 | 322 => 188 | n => n, fun | 9 => 9 | 3 => 3 | 75 => 107 | 4 => 4 | 5 => 5 | 167 => 167 | 37 => 165 | 0 => 0 | 85 => 168 | 2 => 2 | 53 => 195 | 175 => 196 | 46 => 180 | 21 => 21 | 80 => 164 | n => n, fun | n => n⟩
theorem Tryz.lays244 : Go.Proofs.Lays.n244 Tryz.prog Tryz.lays244_ren := {
  mixed := by kernel_rfl
  f244 := Tryz.func96.trans (congrArg some (by kernel_rfl))
  f247 := Tryz.func134.trans (congrArg some (by kernel_rfl))
  f287 := Tryz.func166.trans (congrArg some (by kernel_rfl))
  f321 := Tryz.func187.trans (congrArg some (by kernel_rfl))
  f322 := Tryz.func188.trans (congrArg some (by kernel_rfl))
  t0 := Tryz.underlying0
  a0 := Tryz.isAgg0
  z0 := Tryz.sizeOf0
  v0 := Tryz.zeroValue0
  t2 := Tryz.underlying2
  a2 := Tryz.isAgg2
  z2 := Tryz.sizeOf2
  v2 := Tryz.zeroValue2
  t3 := Tryz.underlying3
  a3 := Tryz.isAgg3
  z3 := Tryz.sizeOf3
  v3 := Tryz.zeroValue3
  t4 := Tryz.underlying4
  a4 := Tryz.isAgg4
  z4 := Tryz.sizeOf4
  v4 := Tryz.zeroValue4
  t5 := Tryz.underlying5
  a5 := Tryz.isAgg5
  z5 := Tryz.sizeOf5
  v5 := Tryz.zeroValue5
  t9 := Tryz.underlying9
  a9 := Tryz.isAgg9
  z9 := Tryz.sizeOf9
  v9 := Tryz.zeroValue9
  t21 := Tryz.underlying21
  a21 := Tryz.isAgg21
  z21 := Tryz.sizeOf21
  v21 := Tryz.zeroValue21
  t37 := Tryz.underlying165
  a37 := Tryz.isAgg165
  z37 := Tryz.sizeOf165
  v37 := Tryz.zeroValue165
  t46 := Tryz.underlying180
  a46 := Tryz.isAgg180
  z46 := Tryz.sizeOf180
  v46 := Tryz.zeroValue180
  t53 := Tryz.underlying195
  a53 := Tryz.isAgg195
  z53 := Tryz.sizeOf195
  v53 := Tryz.zeroValue195
  t75 := Tryz.underlying107
  a75 := Tryz.isAgg107
  z75 := Tryz.sizeOf107
  v75 := Tryz.zeroValue107
  t85 := Tryz.underlying168
  a85 := Tryz.isAgg168
  z85 := Tryz.sizeOf168
  v85 := Tryz.zeroValue168
  t167 := Tryz.underlying167
  a167 := Tryz.isAgg167
  z167 := Tryz.sizeOf167
  v167 := Tryz.zeroValue167
  t175 := Tryz.underlying196
  a175 := Tryz.isAgg196
  z175 := Tryz.sizeOf196
  v175 := Tryz.zeroValue196 }
open Go.RowKit in
/-- internal/strconv.Atoi, at a decimal numeral of at most 18 bytes: ITS VALUE, AND NO ERROR. The world behind the call: the one new row that '[]byte(s)' lays. (LAID: no walk: one application.) -/
theorem Tryz.internal_strconv_Atoi (s : ByteArray) (n : Int) (hl : s.size ≤ 18) (h : Lib.atoi s.data.toList = some n) (w : World) :
    Calls Tryz.prog 96 #[.string s] w fun e w' => e = .returned (.tuple #[.int .i64 n, .nilIface]) ∧ ∃ t, w' = Lib.bytesWorld w 5 t := Any.internal_strconv_Atoi Tryz.lays244 s n hl h w
def Tryz.lays172_ren : Go.Shelf.Ren := ⟨fun | 172 => 59 | 244 => 96 | 245 => 97 | 247 => 134 | 279 => 135 | 280 => 136 | 281 => 137 | 282 => 138 | 287 => 166 | 316 => 167 | 171 => 169 | 205 => 168 | 321 => 187 | 322 => 188 | 243 => 189 | 246 => 209 | 283 => 222 | 284 => 223 | 285 => 224 | 286 => 225 | 129 => 204 | 317 => 233 | 318 => 234 | 319 => 235 | 320 => 236 | 337 => 246 | 338 => 247 | n => n, fun | 9 => 9 | 3 => 3 | 75 => 107 | 76 => 108 | 4 => 4 | 5 => 5 | 167 => 167 | 37 => 165 | 0 => 0 | 85 => 168 | 2 => 2 | 168 => 170 | 53 => 195 | 175 => 196 | 46 => 180 | 210 => 199 | 127 => 205 | 145 => 228 | 143 => 226 | 21 => 21 | 171 => 271 | 173 => 273 | 212 => 292 | 51 => 211 | 20 => 20 | 213 => 293 | 232 => 305 | 233 => 306 | 80 => 164 | n => n, fun | 15 => 0 | 16 => 1 | 17 => 5 | 18 => 6 | 19 => 7 | n => n⟩
theorem Tryz.lays172 : Go.Proofs.Lays.n172 Tryz.prog Tryz.lays172_ren := {
  mixed := by kernel_rfl
  f129 := Tryz.func204.trans (congrArg some (by kernel_rfl))
  f171 := Tryz.func169.trans (congrArg some (by kernel_rfl))
  f172 := Tryz.func59.trans (congrArg some (by kernel_rfl))
  f205 := Tryz.func168.trans (congrArg some (by kernel_rfl))
  f243 := Tryz.func189.trans (congrArg some (by kernel_rfl))
  f244 := Tryz.func96.trans (congrArg some (by kernel_rfl))
  f245 := Tryz.func97.trans (congrArg some (by kernel_rfl))
  f246 := Tryz.func209.trans (congrArg some (by kernel_rfl))
  f247 := Tryz.func134.trans (congrArg some (by kernel_rfl))
  f279 := Tryz.func135.trans (congrArg some (by kernel_rfl))
  f280 := Tryz.func136.trans (congrArg some (by kernel_rfl))
  f281 := Tryz.func137.trans (congrArg some (by kernel_rfl))
  f282 := Tryz.func138.trans (congrArg some (by kernel_rfl))
  f283 := Tryz.func222.trans (congrArg some (by kernel_rfl))
  f284 := Tryz.func223.trans (congrArg some (by kernel_rfl))
  f285 := Tryz.func224.trans (congrArg some (by kernel_rfl))
  f286 := Tryz.func225.trans (congrArg some (by kernel_rfl))
  f287 := Tryz.func166.trans (congrArg some (by kernel_rfl))
  f316 := Tryz.func167.trans (congrArg some (by kernel_rfl))
  f317 := Tryz.func233.trans (congrArg some (by kernel_rfl))
  f318 := Tryz.func234.trans (congrArg some (by kernel_rfl))
  f319 := Tryz.func235.trans (congrArg some (by kernel_rfl))
  f320 := Tryz.func236.trans (congrArg some (by kernel_rfl))
  f321 := Tryz.func187.trans (congrArg some (by kernel_rfl))
  f322 := Tryz.func188.trans (congrArg some (by kernel_rfl))
  f337 := Tryz.func246.trans (congrArg some (by kernel_rfl))
  f338 := Tryz.func247.trans (congrArg some (by kernel_rfl))
  t0 := Tryz.underlying0
  a0 := Tryz.isAgg0
  z0 := Tryz.sizeOf0
  v0 := Tryz.zeroValue0
  t2 := Tryz.underlying2
  a2 := Tryz.isAgg2
  z2 := Tryz.sizeOf2
  v2 := Tryz.zeroValue2
  t3 := Tryz.underlying3
  a3 := Tryz.isAgg3
  z3 := Tryz.sizeOf3
  v3 := Tryz.zeroValue3
  t4 := Tryz.underlying4
  a4 := Tryz.isAgg4
  z4 := Tryz.sizeOf4
  v4 := Tryz.zeroValue4
  t5 := Tryz.underlying5
  a5 := Tryz.isAgg5
  z5 := Tryz.sizeOf5
  v5 := Tryz.zeroValue5
  t9 := Tryz.underlying9
  a9 := Tryz.isAgg9
  z9 := Tryz.sizeOf9
  v9 := Tryz.zeroValue9
  t20 := Tryz.underlying20
  a20 := Tryz.isAgg20
  z20 := Tryz.sizeOf20
  v20 := Tryz.zeroValue20
  t21 := Tryz.underlying21
  a21 := Tryz.isAgg21
  z21 := Tryz.sizeOf21
  v21 := Tryz.zeroValue21
  t37 := Tryz.underlying165
  a37 := Tryz.isAgg165
  z37 := Tryz.sizeOf165
  v37 := Tryz.zeroValue165
  t46 := Tryz.underlying180
  a46 := Tryz.isAgg180
  z46 := Tryz.sizeOf180
  v46 := Tryz.zeroValue180
  t51 := Tryz.underlying211
  a51 := Tryz.isAgg211
  z51 := Tryz.sizeOf211
  v51 := Tryz.zeroValue211
  t53 := Tryz.underlying195
  a53 := Tryz.isAgg195
  z53 := Tryz.sizeOf195
  v53 := Tryz.zeroValue195
  t75 := Tryz.underlying107
  a75 := Tryz.isAgg107
  z75 := Tryz.sizeOf107
  v75 := Tryz.zeroValue107
  t76 := Tryz.underlying108
  a76 := Tryz.isAgg108
  z76 := Tryz.sizeOf108
  v76 := Tryz.zeroValue108
  t85 := Tryz.underlying168
  a85 := Tryz.isAgg168
  z85 := Tryz.sizeOf168
  v85 := Tryz.zeroValue168
  t127 := Tryz.underlying205
  a127 := Tryz.isAgg205
  z127 := Tryz.sizeOf205
  v127 := Tryz.zeroValue205
  t143 := Tryz.underlying226
  a143 := Tryz.isAgg226
  z143 := Tryz.sizeOf226
  v143 := Tryz.zeroValue226
  t145 := Tryz.underlying228
  a145 := Tryz.isAgg228
  z145 := Tryz.sizeOf228
  v145 := Tryz.zeroValue228
  t167 := Tryz.underlying167
  a167 := Tryz.isAgg167
  z167 := Tryz.sizeOf167
  v167 := Tryz.zeroValue167
  t168 := Tryz.underlying170
  a168 := Tryz.isAgg170
  z168 := Tryz.sizeOf170
  v168 := Tryz.zeroValue170
  t171 := Tryz.underlying271
  a171 := Tryz.isAgg271
  z171 := Tryz.sizeOf271
  v171 := Tryz.zeroValue271
  t173 := Tryz.underlying273
  a173 := Tryz.isAgg273
  z173 := Tryz.sizeOf273
  v173 := Tryz.zeroValue273
  t175 := Tryz.underlying196
  a175 := Tryz.isAgg196
  z175 := Tryz.sizeOf196
  v175 := Tryz.zeroValue196
  t210 := Tryz.underlying199
  a210 := Tryz.isAgg199
  z210 := Tryz.sizeOf199
  v210 := Tryz.zeroValue199
  t212 := Tryz.underlying292
  a212 := Tryz.isAgg292
  z212 := Tryz.sizeOf292
  v212 := Tryz.zeroValue292
  t213 := Tryz.underlying293
  a213 := Tryz.isAgg293
  z213 := Tryz.sizeOf293
  t232 := Tryz.underlying305
  a232 := Tryz.isAgg305
  z232 := Tryz.sizeOf305
  v232 := Tryz.zeroValue305
  t233 := Tryz.underlying306
  a233 := Tryz.isAgg306
  z233 := Tryz.sizeOf306
  v233 := Tryz.zeroValue306
  g15 := by kernel_rfl
  g16 := by kernel_rfl
  g17 := by kernel_rfl
  g18 := by kernel_rfl
  g19 := by kernel_rfl }
open Go.RowKit in
/-- strconv.Atoi: "Atoi is equivalent to ParseInt(s, 10, 0), converted to type int.": AT A DECIMAL NUMERAL OF AT MOST 18 BYTES: its value, and a nil error. The world behind the call: the one new row that the library's '[]byte(s)' lays. (LAID: no walk: one application.) -/
theorem Tryz.strconv_Atoi (s : ByteArray) (n : Int) (hl : s.size ≤ 18) (h : Lib.atoi s.data.toList = some n) (w : World) :
    Calls Tryz.prog 59 #[.string s] w fun e w' => e = .returned (.tuple #[.int .i64 n, .nilIface]) ∧ ∃ t, w' = Lib.bytesWorld w 5 t := Any.strconv_Atoi Tryz.lays172 s n hl h w
open Go.RowKit in
/-- internal/strconv.Atoi, at a string of 1 to 18 bytes THAT IS NO DECIMAL NUMERAL: 0, AND ErrSyntax (the package's own error number 2). The world behind the call: as it was, or with the one new row that '[]byte(s)' lays. (LAID: no walk: one application.) -/
theorem Tryz.internal_strconv_Atoi_err (s : ByteArray) (hl0 : 1 ≤ s.size) (hl : s.size ≤ 18) (h : Lib.atoi s.data.toList = none) (w : World) :
    Calls Tryz.prog 96 #[.string s] w fun e w' => e = .returned (.tuple #[.int .i64 0, (.iface 167 (.int .i64 2))]) ∧ (w' = w ∨ ∃ t, w' = Lib.bytesWorld w 5 t) := Any.internal_strconv_Atoi_err Tryz.lays244 s hl0 hl h w
def Tryz.lays247_ren : Go.Shelf.Ren := ⟨fun | 247 => 134 | 287 => 166 | 321 => 187 | 322 => 188 | n => n, fun | 9 => 9 | 3 => 3 | 2 => 2 | 75 => 107 | 4 => 4 | 167 => 167 | 5 => 5 | 53 => 195 | 175 => 196 | 46 => 180 | 37 => 165 | 0 => 0 | 21 => 21 | 80 => 164 | n => n, fun | n => n⟩
theorem Tryz.lays247 : Go.Proofs.Lays.n247 Tryz.prog Tryz.lays247_ren := {
  mixed := by kernel_rfl
  f247 := Tryz.func134.trans (congrArg some (by kernel_rfl))
  f287 := Tryz.func166.trans (congrArg some (by kernel_rfl))
  f321 := Tryz.func187.trans (congrArg some (by kernel_rfl))
  f322 := Tryz.func188.trans (congrArg some (by kernel_rfl))
  t0 := Tryz.underlying0
  a0 := Tryz.isAgg0
  z0 := Tryz.sizeOf0
  v0 := Tryz.zeroValue0
  t2 := Tryz.underlying2
  a2 := Tryz.isAgg2
  z2 := Tryz.sizeOf2
  v2 := Tryz.zeroValue2
  t3 := Tryz.underlying3
  a3 := Tryz.isAgg3
  z3 := Tryz.sizeOf3
  v3 := Tryz.zeroValue3
  t4 := Tryz.underlying4
  a4 := Tryz.isAgg4
  z4 := Tryz.sizeOf4
  v4 := Tryz.zeroValue4
  t5 := Tryz.underlying5
  a5 := Tryz.isAgg5
  z5 := Tryz.sizeOf5
  v5 := Tryz.zeroValue5
  t9 := Tryz.underlying9
  a9 := Tryz.isAgg9
  z9 := Tryz.sizeOf9
  v9 := Tryz.zeroValue9
  t21 := Tryz.underlying21
  a21 := Tryz.isAgg21
  z21 := Tryz.sizeOf21
  v21 := Tryz.zeroValue21
  t37 := Tryz.underlying165
  a37 := Tryz.isAgg165
  z37 := Tryz.sizeOf165
  v37 := Tryz.zeroValue165
  t46 := Tryz.underlying180
  a46 := Tryz.isAgg180
  z46 := Tryz.sizeOf180
  v46 := Tryz.zeroValue180
  t53 := Tryz.underlying195
  a53 := Tryz.isAgg195
  z53 := Tryz.sizeOf195
  v53 := Tryz.zeroValue195
  t75 := Tryz.underlying107
  a75 := Tryz.isAgg107
  z75 := Tryz.sizeOf107
  v75 := Tryz.zeroValue107
  t167 := Tryz.underlying167
  a167 := Tryz.isAgg167
  z167 := Tryz.sizeOf167
  v167 := Tryz.zeroValue167
  t175 := Tryz.underlying196
  a175 := Tryz.isAgg196
  z175 := Tryz.sizeOf196
  v175 := Tryz.zeroValue196 }
open Go.RowKit in
/-- internal/strconv.ParseInt at "": 'if s == "" { return 0, ErrSyntax }'. The world is as it was. (LAID: no walk: one application.) -/
theorem Tryz.internal_strconv_ParseInt_empty (base bits : Int) (w : World) :
    Calls Tryz.prog 134 #[.string ⟨#[]⟩, .int .i64 base, .int .i64 bits] w fun e w' => e = .returned (.tuple #[.int .i64 0, (.iface 167 (.int .i64 2))]) ∧ w' = w := Any.internal_strconv_ParseInt_empty Tryz.lays247 base bits w
open Go.RowKit in
/-- internal/strconv.Atoi at "". (LAID: no walk: one application.) -/
theorem Tryz.internal_strconv_Atoi_empty (w : World) :
    Calls Tryz.prog 96 #[.string ⟨#[]⟩] w fun e w' => e = .returned (.tuple #[.int .i64 0, (.iface 167 (.int .i64 2))]) ∧ w' = w := Any.internal_strconv_Atoi_empty Tryz.lays244 w
open Go.RowKit in
/-- internal/strconv.Atoi, AT EVERY STRING OF AT MOST 18 BYTES THAT IS NO DECIMAL NUMERAL: 0, and ErrSyntax. (LAID: no walk: one application.) -/
theorem Tryz.internal_strconv_Atoi_fail (s : ByteArray) (hl : s.size ≤ 18) (h : Lib.atoi s.data.toList = none) (w : World) :
    Calls Tryz.prog 96 #[.string s] w fun e w' => e = .returned (.tuple #[.int .i64 0, (.iface 167 (.int .i64 2))]) ∧ (w' = w ∨ ∃ t, w' = Lib.bytesWorld w 5 t) := Any.internal_strconv_Atoi_fail Tryz.lays244 s hl h w
def Tryz.laysM316_ren : Go.Shelf.Ren := ⟨fun | 316 => 167 | n => n, fun | 9 => 9 | 3 => 3 | 4 => 4 | 37 => 165 | 0 => 0 | 127 => 205 | 5 => 5 | n => n, fun | n => n⟩
theorem Tryz.laysM316 : Go.Proofs.LaysM.n316 Tryz.prog Tryz.laysM316_ren := {
  mixed := by kernel_rfl
  f316 := Tryz.func167.trans (congrArg some (by kernel_rfl))
  t0 := Tryz.underlying0
  a0 := Tryz.isAgg0
  z0 := Tryz.sizeOf0
  v0 := Tryz.zeroValue0
  t3 := Tryz.underlying3
  a3 := Tryz.isAgg3
  z3 := Tryz.sizeOf3
  v3 := Tryz.zeroValue3
  t4 := Tryz.underlying4
  a4 := Tryz.isAgg4
  z4 := Tryz.sizeOf4
  v4 := Tryz.zeroValue4
  t9 := Tryz.underlying9
  a9 := Tryz.isAgg9
  z9 := Tryz.sizeOf9
  v9 := Tryz.zeroValue9
  t37 := Tryz.underlying165
  a37 := Tryz.isAgg165
  z37 := Tryz.sizeOf165
  v37 := Tryz.zeroValue165
  t127 := Tryz.underlying205
  a127 := Tryz.isAgg205
  z127 := Tryz.sizeOf205
  v127 := Tryz.zeroValue205
  t5 := Tryz.underlying5
  a5 := Tryz.isAgg5
  z5 := Tryz.sizeOf5
  v5 := Tryz.zeroValue5
  i0 := by kernel_rfl
  i3 := by kernel_rfl
  i4 := by kernel_rfl
  i5 := by kernel_rfl
  i9 := by kernel_rfl
  i37 := by kernel_rfl
  i127 := by kernel_rfl }
open Go.RowKit in
/-- internal/stringslite.Clone (what strings.Clone calls): "Clone returns a fresh copy of s.": THE SAME BYTES. Of what was there nothing has turned (a new row is laid, and frozen, where s is not empty). (LAID: no walk: one application.) -/
theorem Tryz.stringslite_Clone (s : ByteArray) (w : World) (hlim : s.size ≤ 281474976710656) :
    Calls Tryz.prog 167 #[.string s] w fun e w' => e = .returned (.string s) ∧ Below w.heap.size w w' := Any.stringslite_Clone Tryz.laysM316 s w hlim
def Tryz.laysM279_ren : Go.Shelf.Ren := ⟨fun | 279 => 135 | 316 => 167 | n => n, fun | 9 => 9 | 168 => 170 | 75 => 107 | 210 => 199 | 3 => 3 | 4 => 4 | 37 => 165 | 0 => 0 | 127 => 205 | 80 => 164 | 5 => 5 | n => n, fun | 15 => 0 | n => n⟩
theorem Tryz.laysM279 : Go.Proofs.LaysM.n279 Tryz.prog Tryz.laysM279_ren := {
  mixed := by kernel_rfl
  f279 := Tryz.func135.trans (congrArg some (by kernel_rfl))
  f316 := Tryz.func167.trans (congrArg some (by kernel_rfl))
  t0 := Tryz.underlying0
  a0 := Tryz.isAgg0
  z0 := Tryz.sizeOf0
  v0 := Tryz.zeroValue0
  t3 := Tryz.underlying3
  a3 := Tryz.isAgg3
  z3 := Tryz.sizeOf3
  v3 := Tryz.zeroValue3
  t4 := Tryz.underlying4
  a4 := Tryz.isAgg4
  z4 := Tryz.sizeOf4
  v4 := Tryz.zeroValue4
  t9 := Tryz.underlying9
  a9 := Tryz.isAgg9
  z9 := Tryz.sizeOf9
  v9 := Tryz.zeroValue9
  t37 := Tryz.underlying165
  a37 := Tryz.isAgg165
  z37 := Tryz.sizeOf165
  v37 := Tryz.zeroValue165
  t75 := Tryz.underlying107
  a75 := Tryz.isAgg107
  z75 := Tryz.sizeOf107
  v75 := Tryz.zeroValue107
  t127 := Tryz.underlying205
  a127 := Tryz.isAgg205
  z127 := Tryz.sizeOf205
  v127 := Tryz.zeroValue205
  t168 := Tryz.underlying170
  a168 := Tryz.isAgg170
  z168 := Tryz.sizeOf170
  v168 := Tryz.zeroValue170
  t210 := Tryz.underlying199
  a210 := Tryz.isAgg199
  z210 := Tryz.sizeOf199
  v210 := Tryz.zeroValue199
  g15 := by kernel_rfl
  t5 := Tryz.underlying5
  a5 := Tryz.isAgg5
  z5 := Tryz.sizeOf5
  v5 := Tryz.zeroValue5
  t80 := Tryz.underlying164
  a80 := Tryz.isAgg164
  z80 := Tryz.sizeOf164
  v80 := Tryz.zeroValue164
  i0 := by kernel_rfl
  i3 := by kernel_rfl
  i4 := by kernel_rfl
  i5 := by kernel_rfl
  i9 := by kernel_rfl
  i37 := by kernel_rfl
  i75 := by kernel_rfl
  i80 := by kernel_rfl
  i127 := by kernel_rfl
  i168 := by kernel_rfl
  i210 := by kernel_rfl
  m15 := by kernel_rfl }
open Go.RowKit in
/-- strconv.syntaxError: '&NumError{fn, stringslite.Clone(str), ErrSyntax}': A POINTER TO A NEW BLOCK that holds fn, str's bytes, and what the variable ErrSyntax holds. Of what was there nothing has turned. (LAID: no walk: one application.) -/
theorem Tryz.strconv_syntaxError (fn s : ByteArray) (ev : Value) (w : World) (hlim : s.size ≤ 281474976710656) (hv : w.cell? ⟨0, 0, none⟩ = some ev) (hev : ev = .nilIface ∨ ∃ te pe, ev = .iface te pe) :
    Calls Tryz.prog 135 #[.string fn, .string s] w fun e w' => ∃ N, e = .returned (.pointer (some ⟨N, 0, none⟩)) ∧ w.heap.size ≤ N ∧ w'.heap[N]? = some (.cells #[.string fn, .string s, ev] 199 (0, 0)) ∧ Below w.heap.size w w' := Any.strconv_syntaxError Tryz.laysM279 fn s ev w hlim hv hev
def Tryz.laysC245_ren : Go.Shelf.Ren := ⟨fun | 245 => 97 | 279 => 135 | 280 => 136 | 281 => 137 | 282 => 138 | 316 => 167 | 171 => 169 | 205 => 168 | 243 => 189 | 246 => 209 | 283 => 222 | 284 => 223 | 285 => 224 | 286 => 225 | 129 => 204 | 317 => 233 | 318 => 234 | 319 => 235 | 320 => 236 | 337 => 246 | 338 => 247 | n => n, fun | 9 => 9 | 3 => 3 | 75 => 107 | 167 => 167 | 4 => 4 | 168 => 170 | 210 => 199 | 37 => 165 | 0 => 0 | 127 => 205 | 145 => 228 | 143 => 226 | 2 => 2 | 171 => 271 | 53 => 195 | 5 => 5 | 173 => 273 | 212 => 292 | 51 => 211 | 20 => 20 | 213 => 293 | 46 => 180 | 232 => 305 | 233 => 306 | 80 => 164 | n => n, fun | 15 => 0 | 16 => 1 | 17 => 5 | 18 => 6 | 19 => 7 | n => n⟩
theorem Tryz.laysC245 : Go.Proofs.LaysC.n245 Tryz.prog Tryz.laysC245_ren := {
  mixed := by kernel_rfl
  f129 := Tryz.func204.trans (congrArg some (by kernel_rfl))
  f171 := Tryz.func169.trans (congrArg some (by kernel_rfl))
  f205 := Tryz.func168.trans (congrArg some (by kernel_rfl))
  f243 := Tryz.func189.trans (congrArg some (by kernel_rfl))
  f245 := Tryz.func97.trans (congrArg some (by kernel_rfl))
  f246 := Tryz.func209.trans (congrArg some (by kernel_rfl))
  f279 := Tryz.func135.trans (congrArg some (by kernel_rfl))
  f280 := Tryz.func136.trans (congrArg some (by kernel_rfl))
  f281 := Tryz.func137.trans (congrArg some (by kernel_rfl))
  f282 := Tryz.func138.trans (congrArg some (by kernel_rfl))
  f283 := Tryz.func222.trans (congrArg some (by kernel_rfl))
  f284 := Tryz.func223.trans (congrArg some (by kernel_rfl))
  f285 := Tryz.func224.trans (congrArg some (by kernel_rfl))
  f286 := Tryz.func225.trans (congrArg some (by kernel_rfl))
  f316 := Tryz.func167.trans (congrArg some (by kernel_rfl))
  f317 := Tryz.func233.trans (congrArg some (by kernel_rfl))
  f318 := Tryz.func234.trans (congrArg some (by kernel_rfl))
  f319 := Tryz.func235.trans (congrArg some (by kernel_rfl))
  f320 := Tryz.func236.trans (congrArg some (by kernel_rfl))
  f337 := Tryz.func246.trans (congrArg some (by kernel_rfl))
  f338 := Tryz.func247.trans (congrArg some (by kernel_rfl))
  t0 := Tryz.underlying0
  a0 := Tryz.isAgg0
  z0 := Tryz.sizeOf0
  v0 := Tryz.zeroValue0
  t2 := Tryz.underlying2
  a2 := Tryz.isAgg2
  z2 := Tryz.sizeOf2
  v2 := Tryz.zeroValue2
  t3 := Tryz.underlying3
  a3 := Tryz.isAgg3
  z3 := Tryz.sizeOf3
  v3 := Tryz.zeroValue3
  t4 := Tryz.underlying4
  a4 := Tryz.isAgg4
  z4 := Tryz.sizeOf4
  v4 := Tryz.zeroValue4
  t5 := Tryz.underlying5
  a5 := Tryz.isAgg5
  z5 := Tryz.sizeOf5
  v5 := Tryz.zeroValue5
  t9 := Tryz.underlying9
  a9 := Tryz.isAgg9
  z9 := Tryz.sizeOf9
  v9 := Tryz.zeroValue9
  t20 := Tryz.underlying20
  a20 := Tryz.isAgg20
  z20 := Tryz.sizeOf20
  v20 := Tryz.zeroValue20
  t37 := Tryz.underlying165
  a37 := Tryz.isAgg165
  z37 := Tryz.sizeOf165
  v37 := Tryz.zeroValue165
  t46 := Tryz.underlying180
  a46 := Tryz.isAgg180
  z46 := Tryz.sizeOf180
  v46 := Tryz.zeroValue180
  t51 := Tryz.underlying211
  a51 := Tryz.isAgg211
  z51 := Tryz.sizeOf211
  v51 := Tryz.zeroValue211
  t53 := Tryz.underlying195
  a53 := Tryz.isAgg195
  z53 := Tryz.sizeOf195
  v53 := Tryz.zeroValue195
  t75 := Tryz.underlying107
  a75 := Tryz.isAgg107
  z75 := Tryz.sizeOf107
  v75 := Tryz.zeroValue107
  t127 := Tryz.underlying205
  a127 := Tryz.isAgg205
  z127 := Tryz.sizeOf205
  v127 := Tryz.zeroValue205
  t143 := Tryz.underlying226
  a143 := Tryz.isAgg226
  z143 := Tryz.sizeOf226
  v143 := Tryz.zeroValue226
  t145 := Tryz.underlying228
  a145 := Tryz.isAgg228
  z145 := Tryz.sizeOf228
  v145 := Tryz.zeroValue228
  t167 := Tryz.underlying167
  a167 := Tryz.isAgg167
  z167 := Tryz.sizeOf167
  v167 := Tryz.zeroValue167
  t168 := Tryz.underlying170
  a168 := Tryz.isAgg170
  z168 := Tryz.sizeOf170
  v168 := Tryz.zeroValue170
  t171 := Tryz.underlying271
  a171 := Tryz.isAgg271
  z171 := Tryz.sizeOf271
  v171 := Tryz.zeroValue271
  t173 := Tryz.underlying273
  a173 := Tryz.isAgg273
  z173 := Tryz.sizeOf273
  v173 := Tryz.zeroValue273
  t210 := Tryz.underlying199
  a210 := Tryz.isAgg199
  z210 := Tryz.sizeOf199
  v210 := Tryz.zeroValue199
  t212 := Tryz.underlying292
  a212 := Tryz.isAgg292
  z212 := Tryz.sizeOf292
  v212 := Tryz.zeroValue292
  t213 := Tryz.underlying293
  a213 := Tryz.isAgg293
  z213 := Tryz.sizeOf293
  t232 := Tryz.underlying305
  a232 := Tryz.isAgg305
  z232 := Tryz.sizeOf305
  v232 := Tryz.zeroValue305
  t233 := Tryz.underlying306
  a233 := Tryz.isAgg306
  z233 := Tryz.sizeOf306
  v233 := Tryz.zeroValue306
  g15 := by kernel_rfl
  g16 := by kernel_rfl
  g17 := by kernel_rfl
  g18 := by kernel_rfl
  g19 := by kernel_rfl
  t80 := Tryz.underlying164
  a80 := Tryz.isAgg164
  z80 := Tryz.sizeOf164
  v80 := Tryz.zeroValue164
  i0 := by kernel_rfl
  i2 := by kernel_rfl
  i3 := by kernel_rfl
  i4 := by kernel_rfl
  i5 := by kernel_rfl
  i9 := by kernel_rfl
  i20 := by kernel_rfl
  i37 := by kernel_rfl
  i46 := by kernel_rfl
  i51 := by kernel_rfl
  i53 := by kernel_rfl
  i75 := by kernel_rfl
  i80 := by kernel_rfl
  i127 := by kernel_rfl
  i143 := by kernel_rfl
  i145 := by kernel_rfl
  i167 := by kernel_rfl
  i168 := by kernel_rfl
  i171 := by kernel_rfl
  i173 := by kernel_rfl
  i210 := by kernel_rfl
  i212 := by kernel_rfl
  i232 := by kernel_rfl
  i233 := by kernel_rfl
  m15 := by kernel_rfl
  m16 := by kernel_rfl
  m17 := by kernel_rfl
  m18 := by kernel_rfl
  m19 := by kernel_rfl
  c0 := by kernel_rfl
  c2 := by kernel_rfl
  c3 := by kernel_rfl
  c4 := by kernel_rfl
  c5 := by kernel_rfl
  c9 := by kernel_rfl
  c20 := by kernel_rfl
  c37 := by kernel_rfl
  c46 := by kernel_rfl
  c51 := by kernel_rfl
  c53 := by kernel_rfl
  c75 := by kernel_rfl
  c80 := by kernel_rfl
  c127 := by kernel_rfl
  c143 := by kernel_rfl
  c145 := by kernel_rfl
  c167 := by kernel_rfl
  c168 := by kernel_rfl
  c171 := by kernel_rfl
  c173 := by kernel_rfl
  c210 := by kernel_rfl
  c212 := by kernel_rfl
  c213 := by kernel_rfl
  c232 := by kernel_rfl
  c233 := by kernel_rfl }
open Go.RowKit in
/-- strconv.toError, at the inner package's ErrSyntax: 'syntaxError(fn, s)' as an error: A *NumError IN A NEW BLOCK. (LAID: no walk: one application.) -/
theorem Tryz.strconv_toError_syntax (fn s : ByteArray) (base bits : Int) (ev : Value) (w : World) (hlim : s.size ≤ 281474976710656) (hv : w.cell? ⟨0, 0, none⟩ = some ev) (hev : ev = .nilIface ∨ ∃ te pe, ev = .iface te pe) :
    Calls Tryz.prog 97 #[.string fn, .string s, .int .i64 base, .int .i64 bits, .iface 167 (.int .i64 2)] w fun e w' => ∃ N, e = .returned (.iface 170 (.pointer (some ⟨N, 0, none⟩))) ∧ w.heap.size ≤ N ∧ w'.heap[N]? = some (.cells #[.string fn, .string s, ev] 199 (0, 0)) ∧ Below w.heap.size w w' := Any.strconv_toError_syntax Tryz.laysC245 fn s base bits ev w hlim hv hev
def Tryz.lays321_ren : Go.Shelf.Ren := ⟨fun | 321 => 187 | n => n, fun | 5 => 5 | n => n, fun | n => n⟩
theorem Tryz.lays321 : Go.Proofs.Lays.n321 Tryz.prog Tryz.lays321_ren := {
  mixed := by kernel_rfl
  f321 := Tryz.func187.trans (congrArg some (by kernel_rfl))
  t5 := Tryz.underlying5
  a5 := Tryz.isAgg5
  z5 := Tryz.sizeOf5
  v5 := Tryz.zeroValue5 }
open Go.RowKit in
/-- internal/strconv.lower: 'c | ('x' - 'X')': the bit 32 set. The world is as it was. (LAID: no walk: one application.) -/
theorem Tryz.internal_strconv_lower (c : Int) (w : World) :
    Calls Tryz.prog 187 #[.int .u8 c] w fun e w' => e = .returned (.int .u8 (bits .or .u8 c 32)) ∧ w' = w := Any.internal_strconv_lower Tryz.lays321 c w
def Tryz.lays287_ren : Go.Shelf.Ren := ⟨fun | 287 => 166 | 321 => 187 | 322 => 188 | n => n, fun | 9 => 9 | 3 => 3 | 53 => 195 | 75 => 107 | 4 => 4 | 167 => 167 | 5 => 5 | 46 => 180 | 37 => 165 | 0 => 0 | 21 => 21 | 80 => 164 | n => n, fun | n => n⟩
theorem Tryz.lays287 : Go.Proofs.Lays.n287 Tryz.prog Tryz.lays287_ren := {
  mixed := by kernel_rfl
  f287 := Tryz.func166.trans (congrArg some (by kernel_rfl))
  f321 := Tryz.func187.trans (congrArg some (by kernel_rfl))
  f322 := Tryz.func188.trans (congrArg some (by kernel_rfl))
  t0 := Tryz.underlying0
  a0 := Tryz.isAgg0
  z0 := Tryz.sizeOf0
  v0 := Tryz.zeroValue0
  t3 := Tryz.underlying3
  a3 := Tryz.isAgg3
  z3 := Tryz.sizeOf3
  v3 := Tryz.zeroValue3
  t4 := Tryz.underlying4
  a4 := Tryz.isAgg4
  z4 := Tryz.sizeOf4
  v4 := Tryz.zeroValue4
  t5 := Tryz.underlying5
  a5 := Tryz.isAgg5
  z5 := Tryz.sizeOf5
  v5 := Tryz.zeroValue5
  t9 := Tryz.underlying9
  a9 := Tryz.isAgg9
  z9 := Tryz.sizeOf9
  v9 := Tryz.zeroValue9
  t21 := Tryz.underlying21
  a21 := Tryz.isAgg21
  z21 := Tryz.sizeOf21
  v21 := Tryz.zeroValue21
  t37 := Tryz.underlying165
  a37 := Tryz.isAgg165
  z37 := Tryz.sizeOf165
  v37 := Tryz.zeroValue165
  t46 := Tryz.underlying180
  a46 := Tryz.isAgg180
  z46 := Tryz.sizeOf180
  v46 := Tryz.zeroValue180
  t53 := Tryz.underlying195
  a53 := Tryz.isAgg195
  z53 := Tryz.sizeOf195
  v53 := Tryz.zeroValue195
  t75 := Tryz.underlying107
  a75 := Tryz.isAgg107
  z75 := Tryz.sizeOf107
  v75 := Tryz.zeroValue107
  t167 := Tryz.underlying167
  a167 := Tryz.isAgg167
  z167 := Tryz.sizeOf167
  v167 := Tryz.zeroValue167 }
open Go.RowKit in
/-- internal/strconv.ParseUint(s, 10, 0), s NOT EMPTY: 'Lib.parseUint10 0' OF ITS BYTES: the number; or (0, ErrSyntax); or (the greatest uint64, ErrRange). The world behind the call: the one new row that '[]byte(s)' lays. (LAID: no walk: one application.) -/
theorem Tryz.internal_strconv_ParseUint_10 (t : ByteArray) (hne : t.size ≠ 0) (hmax : t.size ≤ 9223372036854775806) (w : World) :
    Calls Tryz.prog 166 #[.string t, .int .i64 10, .int .i64 0] w fun e w' => e = .returned (Lib.uintTuple 167 (Lib.parseUint10 0 t.data.toList)) ∧ w' = Lib.bytesWorld w 5 t := Any.internal_strconv_ParseUint_10 Tryz.lays287 t hne hmax w
open Go.RowKit in
/-- internal/strconv.ParseUint(s, 10, 0): 'Lib.parseMag' OF ITS BYTES. The world: as it was (the empty string), or with the one new row that '[]byte(s)' lays. (LAID: no walk: one application.) -/
theorem Tryz.internal_strconv_ParseUint_10_any (t : ByteArray) (hmax : t.size ≤ 9223372036854775806) (w : World) :
    Calls Tryz.prog 166 #[.string t, .int .i64 10, .int .i64 0] w fun e w' => e = .returned (Lib.uintTuple 167 (Lib.parseMag t.data.toList)) ∧ (w' = w ∨ w' = Lib.bytesWorld w 5 t) := Any.internal_strconv_ParseUint_10_any Tryz.lays287 t hmax w
def Tryz.laysC247_ren : Go.Shelf.Ren := ⟨fun | 247 => 134 | 287 => 166 | 321 => 187 | 322 => 188 | n => n, fun | 9 => 9 | 3 => 3 | 2 => 2 | 75 => 107 | 4 => 4 | 167 => 167 | 5 => 5 | 53 => 195 | 175 => 196 | 46 => 180 | 37 => 165 | 0 => 0 | 21 => 21 | 80 => 164 | n => n, fun | n => n⟩
theorem Tryz.laysC247 : Go.Proofs.LaysC.n247 Tryz.prog Tryz.laysC247_ren := {
  mixed := by kernel_rfl
  f247 := Tryz.func134.trans (congrArg some (by kernel_rfl))
  f287 := Tryz.func166.trans (congrArg some (by kernel_rfl))
  f321 := Tryz.func187.trans (congrArg some (by kernel_rfl))
  f322 := Tryz.func188.trans (congrArg some (by kernel_rfl))
  t0 := Tryz.underlying0
  a0 := Tryz.isAgg0
  z0 := Tryz.sizeOf0
  v0 := Tryz.zeroValue0
  t2 := Tryz.underlying2
  a2 := Tryz.isAgg2
  z2 := Tryz.sizeOf2
  v2 := Tryz.zeroValue2
  t3 := Tryz.underlying3
  a3 := Tryz.isAgg3
  z3 := Tryz.sizeOf3
  v3 := Tryz.zeroValue3
  t4 := Tryz.underlying4
  a4 := Tryz.isAgg4
  z4 := Tryz.sizeOf4
  v4 := Tryz.zeroValue4
  t5 := Tryz.underlying5
  a5 := Tryz.isAgg5
  z5 := Tryz.sizeOf5
  v5 := Tryz.zeroValue5
  t9 := Tryz.underlying9
  a9 := Tryz.isAgg9
  z9 := Tryz.sizeOf9
  v9 := Tryz.zeroValue9
  t21 := Tryz.underlying21
  a21 := Tryz.isAgg21
  z21 := Tryz.sizeOf21
  v21 := Tryz.zeroValue21
  t37 := Tryz.underlying165
  a37 := Tryz.isAgg165
  z37 := Tryz.sizeOf165
  v37 := Tryz.zeroValue165
  t46 := Tryz.underlying180
  a46 := Tryz.isAgg180
  z46 := Tryz.sizeOf180
  v46 := Tryz.zeroValue180
  t53 := Tryz.underlying195
  a53 := Tryz.isAgg195
  z53 := Tryz.sizeOf195
  v53 := Tryz.zeroValue195
  t75 := Tryz.underlying107
  a75 := Tryz.isAgg107
  z75 := Tryz.sizeOf107
  v75 := Tryz.zeroValue107
  t167 := Tryz.underlying167
  a167 := Tryz.isAgg167
  z167 := Tryz.sizeOf167
  v167 := Tryz.zeroValue167
  t175 := Tryz.underlying196
  a175 := Tryz.isAgg196
  z175 := Tryz.sizeOf196
  v175 := Tryz.zeroValue196
  t80 := Tryz.underlying164
  a80 := Tryz.isAgg164
  z80 := Tryz.sizeOf164
  v80 := Tryz.zeroValue164
  i0 := by kernel_rfl
  i2 := by kernel_rfl
  i3 := by kernel_rfl
  i4 := by kernel_rfl
  i5 := by kernel_rfl
  i9 := by kernel_rfl
  i21 := by kernel_rfl
  i37 := by kernel_rfl
  i46 := by kernel_rfl
  i53 := by kernel_rfl
  i75 := by kernel_rfl
  i80 := by kernel_rfl
  i167 := by kernel_rfl
  i175 := by kernel_rfl
  c0 := by kernel_rfl
  c2 := by kernel_rfl
  c3 := by kernel_rfl
  c4 := by kernel_rfl
  c5 := by kernel_rfl
  c9 := by kernel_rfl
  c21 := by kernel_rfl
  c37 := by kernel_rfl
  c46 := by kernel_rfl
  c53 := by kernel_rfl
  c75 := by kernel_rfl
  c80 := by kernel_rfl
  c167 := by kernel_rfl
  c175 := by kernel_rfl }
open Go.RowKit in
/-- internal/strconv.ParseInt(s, 10, 0), s NOT EMPTY: 'Lib.atoiAll' OF ITS BYTES: (the number, nil); (0, ErrSyntax); (the greatest or the least int64 by the sign, ErrRange). The world: as it was, or with the one new row that '[]byte(..)' lays. (LAID: no walk: one application.) -/
theorem Tryz.internal_strconv_ParseInt_10 (s : ByteArray) (hne : s.size ≠ 0) (hmax : s.size ≤ 9223372036854775806) (w : World) :
    Calls Tryz.prog 134 #[.string s, .int .i64 10, .int .i64 0] w fun e w' => e = .returned (Lib.intTuple 167 (Lib.atoiSat s.data.toList) (Lib.atoiAll s.data.toList)) ∧ (w' = w ∨ ∃ t, w' = Lib.bytesWorld w 5 t) := Any.internal_strconv_ParseInt_10 Tryz.laysC247 s hne hmax w
def Tryz.laysC244_ren : Go.Shelf.Ren := ⟨fun | 244 => 96 | 247 => 134 | 287 => 166 | 321 => 187 | 322 => 188 | n => n, fun | 9 => 9 | 3 => 3 | 75 => 107 | 4 => 4 | 5 => 5 | 167 => 167 | 37 => 165 | 0 => 0 | 85 => 168 | 2 => 2 | 53 => 195 | 175 => 196 | 46 => 180 | 21 => 21 | 80 => 164 | n => n, fun | n => n⟩
theorem Tryz.laysC244 : Go.Proofs.LaysC.n244 Tryz.prog Tryz.laysC244_ren := {
  mixed := by kernel_rfl
  f244 := Tryz.func96.trans (congrArg some (by kernel_rfl))
  f247 := Tryz.func134.trans (congrArg some (by kernel_rfl))
  f287 := Tryz.func166.trans (congrArg some (by kernel_rfl))
  f321 := Tryz.func187.trans (congrArg some (by kernel_rfl))
  f322 := Tryz.func188.trans (congrArg some (by kernel_rfl))
  t0 := Tryz.underlying0
  a0 := Tryz.isAgg0
  z0 := Tryz.sizeOf0
  v0 := Tryz.zeroValue0
  t2 := Tryz.underlying2
  a2 := Tryz.isAgg2
  z2 := Tryz.sizeOf2
  v2 := Tryz.zeroValue2
  t3 := Tryz.underlying3
  a3 := Tryz.isAgg3
  z3 := Tryz.sizeOf3
  v3 := Tryz.zeroValue3
  t4 := Tryz.underlying4
  a4 := Tryz.isAgg4
  z4 := Tryz.sizeOf4
  v4 := Tryz.zeroValue4
  t5 := Tryz.underlying5
  a5 := Tryz.isAgg5
  z5 := Tryz.sizeOf5
  v5 := Tryz.zeroValue5
  t9 := Tryz.underlying9
  a9 := Tryz.isAgg9
  z9 := Tryz.sizeOf9
  v9 := Tryz.zeroValue9
  t21 := Tryz.underlying21
  a21 := Tryz.isAgg21
  z21 := Tryz.sizeOf21
  v21 := Tryz.zeroValue21
  t37 := Tryz.underlying165
  a37 := Tryz.isAgg165
  z37 := Tryz.sizeOf165
  v37 := Tryz.zeroValue165
  t46 := Tryz.underlying180
  a46 := Tryz.isAgg180
  z46 := Tryz.sizeOf180
  v46 := Tryz.zeroValue180
  t53 := Tryz.underlying195
  a53 := Tryz.isAgg195
  z53 := Tryz.sizeOf195
  v53 := Tryz.zeroValue195
  t75 := Tryz.underlying107
  a75 := Tryz.isAgg107
  z75 := Tryz.sizeOf107
  v75 := Tryz.zeroValue107
  t85 := Tryz.underlying168
  a85 := Tryz.isAgg168
  z85 := Tryz.sizeOf168
  v85 := Tryz.zeroValue168
  t167 := Tryz.underlying167
  a167 := Tryz.isAgg167
  z167 := Tryz.sizeOf167
  v167 := Tryz.zeroValue167
  t175 := Tryz.underlying196
  a175 := Tryz.isAgg196
  z175 := Tryz.sizeOf196
  v175 := Tryz.zeroValue196
  t80 := Tryz.underlying164
  a80 := Tryz.isAgg164
  z80 := Tryz.sizeOf164
  v80 := Tryz.zeroValue164
  i0 := by kernel_rfl
  i2 := by kernel_rfl
  i3 := by kernel_rfl
  i4 := by kernel_rfl
  i5 := by kernel_rfl
  i9 := by kernel_rfl
  i21 := by kernel_rfl
  i37 := by kernel_rfl
  i46 := by kernel_rfl
  i53 := by kernel_rfl
  i75 := by kernel_rfl
  i80 := by kernel_rfl
  i85 := by kernel_rfl
  i167 := by kernel_rfl
  i175 := by kernel_rfl
  c0 := by kernel_rfl
  c2 := by kernel_rfl
  c3 := by kernel_rfl
  c4 := by kernel_rfl
  c5 := by kernel_rfl
  c9 := by kernel_rfl
  c21 := by kernel_rfl
  c37 := by kernel_rfl
  c46 := by kernel_rfl
  c53 := by kernel_rfl
  c75 := by kernel_rfl
  c80 := by kernel_rfl
  c85 := by kernel_rfl
  c167 := by kernel_rfl
  c175 := by kernel_rfl }
open Go.RowKit in
/-- internal/strconv.Atoi, AT EVERY STRING OF 19 BYTES OR MORE: 'Lib.atoiAll' OF ITS BYTES: (the number, nil); (0, ErrSyntax); (the greatest or the least int by the sign, ErrRange). (LAID: no walk: one application.) -/
theorem Tryz.internal_strconv_Atoi_long (s : ByteArray) (h19 : 19 ≤ s.size) (hmax : s.size ≤ 9223372036854775806) (w : World) :
    Calls Tryz.prog 96 #[.string s] w fun e w' => e = .returned (Lib.intTuple 167 (Lib.atoiSat s.data.toList) (Lib.atoiAll s.data.toList)) ∧ (w' = w ∨ ∃ t, w' = Lib.bytesWorld w 5 t) := Any.internal_strconv_Atoi_long Tryz.laysC244 s h19 hmax w
open Go.RowKit in
/-- internal/strconv.Atoi, AT EVERY STRING: 'Lib.atoiAll' OF ITS BYTES: (the number, nil); (0, ErrSyntax); (the greatest or the least int by the sign, ErrRange). The world: as it was, or with the one new row that '[]byte(..)' lays. (LAID: no walk: one application.) -/
theorem Tryz.internal_strconv_Atoi_all (s : ByteArray) (hmax : s.size ≤ 9223372036854775806) (w : World) :
    Calls Tryz.prog 96 #[.string s] w fun e w' => e = .returned (Lib.intTuple 167 (Lib.atoiSat s.data.toList) (Lib.atoiAll s.data.toList)) ∧ (w' = w ∨ ∃ t, w' = Lib.bytesWorld w 5 t) := Any.internal_strconv_Atoi_all Tryz.laysC244 s hmax w
def Tryz.laysM280_ren : Go.Shelf.Ren := ⟨fun | 280 => 136 | 316 => 167 | n => n, fun | 9 => 9 | 168 => 170 | 75 => 107 | 210 => 199 | 3 => 3 | 4 => 4 | 37 => 165 | 0 => 0 | 127 => 205 | 80 => 164 | 5 => 5 | n => n, fun | 16 => 1 | n => n⟩
theorem Tryz.laysM280 : Go.Proofs.LaysM.n280 Tryz.prog Tryz.laysM280_ren := {
  mixed := by kernel_rfl
  f280 := Tryz.func136.trans (congrArg some (by kernel_rfl))
  f316 := Tryz.func167.trans (congrArg some (by kernel_rfl))
  t0 := Tryz.underlying0
  a0 := Tryz.isAgg0
  z0 := Tryz.sizeOf0
  v0 := Tryz.zeroValue0
  t3 := Tryz.underlying3
  a3 := Tryz.isAgg3
  z3 := Tryz.sizeOf3
  v3 := Tryz.zeroValue3
  t4 := Tryz.underlying4
  a4 := Tryz.isAgg4
  z4 := Tryz.sizeOf4
  v4 := Tryz.zeroValue4
  t9 := Tryz.underlying9
  a9 := Tryz.isAgg9
  z9 := Tryz.sizeOf9
  v9 := Tryz.zeroValue9
  t37 := Tryz.underlying165
  a37 := Tryz.isAgg165
  z37 := Tryz.sizeOf165
  v37 := Tryz.zeroValue165
  t75 := Tryz.underlying107
  a75 := Tryz.isAgg107
  z75 := Tryz.sizeOf107
  v75 := Tryz.zeroValue107
  t127 := Tryz.underlying205
  a127 := Tryz.isAgg205
  z127 := Tryz.sizeOf205
  v127 := Tryz.zeroValue205
  t168 := Tryz.underlying170
  a168 := Tryz.isAgg170
  z168 := Tryz.sizeOf170
  v168 := Tryz.zeroValue170
  t210 := Tryz.underlying199
  a210 := Tryz.isAgg199
  z210 := Tryz.sizeOf199
  v210 := Tryz.zeroValue199
  g16 := by kernel_rfl
  t5 := Tryz.underlying5
  a5 := Tryz.isAgg5
  z5 := Tryz.sizeOf5
  v5 := Tryz.zeroValue5
  t80 := Tryz.underlying164
  a80 := Tryz.isAgg164
  z80 := Tryz.sizeOf164
  v80 := Tryz.zeroValue164
  i0 := by kernel_rfl
  i3 := by kernel_rfl
  i4 := by kernel_rfl
  i5 := by kernel_rfl
  i9 := by kernel_rfl
  i37 := by kernel_rfl
  i75 := by kernel_rfl
  i80 := by kernel_rfl
  i127 := by kernel_rfl
  i168 := by kernel_rfl
  i210 := by kernel_rfl
  m16 := by kernel_rfl }
open Go.RowKit in
/-- strconv.rangeError: '&NumError{fn, stringslite.Clone(str), ErrRange}': A POINTER TO A NEW BLOCK that holds fn, str's bytes, and what the variable ErrRange holds. Of what was there nothing has turned. (LAID: no walk: one application.) -/
theorem Tryz.strconv_rangeError (fn s : ByteArray) (ev : Value) (w : World) (hlim : s.size ≤ 281474976710656) (hv : w.cell? ⟨1, 0, none⟩ = some ev) (hev : ev = .nilIface ∨ ∃ te pe, ev = .iface te pe) :
    Calls Tryz.prog 136 #[.string fn, .string s] w fun e w' => ∃ N, e = .returned (.pointer (some ⟨N, 0, none⟩)) ∧ w.heap.size ≤ N ∧ w'.heap[N]? = some (.cells #[.string fn, .string s, ev] 199 (0, 0)) ∧ Below w.heap.size w w' := Any.strconv_rangeError Tryz.laysM280 fn s ev w hlim hv hev
open Go.RowKit in
/-- strconv.toError, at the inner package's ErrRange: 'rangeError(fn, s)' as an error: A *NumError IN A NEW BLOCK. (LAID: no walk: one application.) -/
theorem Tryz.strconv_toError_range (fn s : ByteArray) (base bits : Int) (ev : Value) (w : World) (hlim : s.size ≤ 281474976710656) (hv : w.cell? ⟨1, 0, none⟩ = some ev) (hev : ev = .nilIface ∨ ∃ te pe, ev = .iface te pe) :
    Calls Tryz.prog 97 #[.string fn, .string s, .int .i64 base, .int .i64 bits, .iface 167 (.int .i64 1)] w fun e w' => ∃ N, e = .returned (.iface 170 (.pointer (some ⟨N, 0, none⟩))) ∧ w.heap.size ≤ N ∧ w'.heap[N]? = some (.cells #[.string fn, .string s, ev] 199 (0, 0)) ∧ Below w.heap.size w w' := Any.strconv_toError_range Tryz.laysC245 fn s base bits ev w hlim hv hev
def Tryz.laysC172_ren : Go.Shelf.Ren := ⟨fun | 172 => 59 | 244 => 96 | 245 => 97 | 247 => 134 | 279 => 135 | 280 => 136 | 281 => 137 | 282 => 138 | 287 => 166 | 316 => 167 | 171 => 169 | 205 => 168 | 321 => 187 | 322 => 188 | 243 => 189 | 246 => 209 | 283 => 222 | 284 => 223 | 285 => 224 | 286 => 225 | 129 => 204 | 317 => 233 | 318 => 234 | 319 => 235 | 320 => 236 | 337 => 246 | 338 => 247 | n => n, fun | 9 => 9 | 3 => 3 | 75 => 107 | 76 => 108 | 4 => 4 | 5 => 5 | 167 => 167 | 37 => 165 | 0 => 0 | 85 => 168 | 2 => 2 | 168 => 170 | 53 => 195 | 175 => 196 | 46 => 180 | 210 => 199 | 127 => 205 | 145 => 228 | 143 => 226 | 21 => 21 | 171 => 271 | 173 => 273 | 212 => 292 | 51 => 211 | 20 => 20 | 213 => 293 | 232 => 305 | 233 => 306 | 80 => 164 | n => n, fun | 15 => 0 | 16 => 1 | 17 => 5 | 18 => 6 | 19 => 7 | n => n⟩
theorem Tryz.laysC172 : Go.Proofs.LaysC.n172 Tryz.prog Tryz.laysC172_ren := {
  mixed := by kernel_rfl
  f129 := Tryz.func204.trans (congrArg some (by kernel_rfl))
  f171 := Tryz.func169.trans (congrArg some (by kernel_rfl))
  f172 := Tryz.func59.trans (congrArg some (by kernel_rfl))
  f205 := Tryz.func168.trans (congrArg some (by kernel_rfl))
  f243 := Tryz.func189.trans (congrArg some (by kernel_rfl))
  f244 := Tryz.func96.trans (congrArg some (by kernel_rfl))
  f245 := Tryz.func97.trans (congrArg some (by kernel_rfl))
  f246 := Tryz.func209.trans (congrArg some (by kernel_rfl))
  f247 := Tryz.func134.trans (congrArg some (by kernel_rfl))
  f279 := Tryz.func135.trans (congrArg some (by kernel_rfl))
  f280 := Tryz.func136.trans (congrArg some (by kernel_rfl))
  f281 := Tryz.func137.trans (congrArg some (by kernel_rfl))
  f282 := Tryz.func138.trans (congrArg some (by kernel_rfl))
  f283 := Tryz.func222.trans (congrArg some (by kernel_rfl))
  f284 := Tryz.func223.trans (congrArg some (by kernel_rfl))
  f285 := Tryz.func224.trans (congrArg some (by kernel_rfl))
  f286 := Tryz.func225.trans (congrArg some (by kernel_rfl))
  f287 := Tryz.func166.trans (congrArg some (by kernel_rfl))
  f316 := Tryz.func167.trans (congrArg some (by kernel_rfl))
  f317 := Tryz.func233.trans (congrArg some (by kernel_rfl))
  f318 := Tryz.func234.trans (congrArg some (by kernel_rfl))
  f319 := Tryz.func235.trans (congrArg some (by kernel_rfl))
  f320 := Tryz.func236.trans (congrArg some (by kernel_rfl))
  f321 := Tryz.func187.trans (congrArg some (by kernel_rfl))
  f322 := Tryz.func188.trans (congrArg some (by kernel_rfl))
  f337 := Tryz.func246.trans (congrArg some (by kernel_rfl))
  f338 := Tryz.func247.trans (congrArg some (by kernel_rfl))
  t0 := Tryz.underlying0
  a0 := Tryz.isAgg0
  z0 := Tryz.sizeOf0
  v0 := Tryz.zeroValue0
  t2 := Tryz.underlying2
  a2 := Tryz.isAgg2
  z2 := Tryz.sizeOf2
  v2 := Tryz.zeroValue2
  t3 := Tryz.underlying3
  a3 := Tryz.isAgg3
  z3 := Tryz.sizeOf3
  v3 := Tryz.zeroValue3
  t4 := Tryz.underlying4
  a4 := Tryz.isAgg4
  z4 := Tryz.sizeOf4
  v4 := Tryz.zeroValue4
  t5 := Tryz.underlying5
  a5 := Tryz.isAgg5
  z5 := Tryz.sizeOf5
  v5 := Tryz.zeroValue5
  t9 := Tryz.underlying9
  a9 := Tryz.isAgg9
  z9 := Tryz.sizeOf9
  v9 := Tryz.zeroValue9
  t20 := Tryz.underlying20
  a20 := Tryz.isAgg20
  z20 := Tryz.sizeOf20
  v20 := Tryz.zeroValue20
  t21 := Tryz.underlying21
  a21 := Tryz.isAgg21
  z21 := Tryz.sizeOf21
  v21 := Tryz.zeroValue21
  t37 := Tryz.underlying165
  a37 := Tryz.isAgg165
  z37 := Tryz.sizeOf165
  v37 := Tryz.zeroValue165
  t46 := Tryz.underlying180
  a46 := Tryz.isAgg180
  z46 := Tryz.sizeOf180
  v46 := Tryz.zeroValue180
  t51 := Tryz.underlying211
  a51 := Tryz.isAgg211
  z51 := Tryz.sizeOf211
  v51 := Tryz.zeroValue211
  t53 := Tryz.underlying195
  a53 := Tryz.isAgg195
  z53 := Tryz.sizeOf195
  v53 := Tryz.zeroValue195
  t75 := Tryz.underlying107
  a75 := Tryz.isAgg107
  z75 := Tryz.sizeOf107
  v75 := Tryz.zeroValue107
  t76 := Tryz.underlying108
  a76 := Tryz.isAgg108
  z76 := Tryz.sizeOf108
  v76 := Tryz.zeroValue108
  t85 := Tryz.underlying168
  a85 := Tryz.isAgg168
  z85 := Tryz.sizeOf168
  v85 := Tryz.zeroValue168
  t127 := Tryz.underlying205
  a127 := Tryz.isAgg205
  z127 := Tryz.sizeOf205
  v127 := Tryz.zeroValue205
  t143 := Tryz.underlying226
  a143 := Tryz.isAgg226
  z143 := Tryz.sizeOf226
  v143 := Tryz.zeroValue226
  t145 := Tryz.underlying228
  a145 := Tryz.isAgg228
  z145 := Tryz.sizeOf228
  v145 := Tryz.zeroValue228
  t167 := Tryz.underlying167
  a167 := Tryz.isAgg167
  z167 := Tryz.sizeOf167
  v167 := Tryz.zeroValue167
  t168 := Tryz.underlying170
  a168 := Tryz.isAgg170
  z168 := Tryz.sizeOf170
  v168 := Tryz.zeroValue170
  t171 := Tryz.underlying271
  a171 := Tryz.isAgg271
  z171 := Tryz.sizeOf271
  v171 := Tryz.zeroValue271
  t173 := Tryz.underlying273
  a173 := Tryz.isAgg273
  z173 := Tryz.sizeOf273
  v173 := Tryz.zeroValue273
  t175 := Tryz.underlying196
  a175 := Tryz.isAgg196
  z175 := Tryz.sizeOf196
  v175 := Tryz.zeroValue196
  t210 := Tryz.underlying199
  a210 := Tryz.isAgg199
  z210 := Tryz.sizeOf199
  v210 := Tryz.zeroValue199
  t212 := Tryz.underlying292
  a212 := Tryz.isAgg292
  z212 := Tryz.sizeOf292
  v212 := Tryz.zeroValue292
  t213 := Tryz.underlying293
  a213 := Tryz.isAgg293
  z213 := Tryz.sizeOf293
  t232 := Tryz.underlying305
  a232 := Tryz.isAgg305
  z232 := Tryz.sizeOf305
  v232 := Tryz.zeroValue305
  t233 := Tryz.underlying306
  a233 := Tryz.isAgg306
  z233 := Tryz.sizeOf306
  v233 := Tryz.zeroValue306
  g15 := by kernel_rfl
  g16 := by kernel_rfl
  g17 := by kernel_rfl
  g18 := by kernel_rfl
  g19 := by kernel_rfl
  t80 := Tryz.underlying164
  a80 := Tryz.isAgg164
  z80 := Tryz.sizeOf164
  v80 := Tryz.zeroValue164
  i0 := by kernel_rfl
  i2 := by kernel_rfl
  i3 := by kernel_rfl
  i4 := by kernel_rfl
  i5 := by kernel_rfl
  i9 := by kernel_rfl
  i20 := by kernel_rfl
  i21 := by kernel_rfl
  i37 := by kernel_rfl
  i46 := by kernel_rfl
  i51 := by kernel_rfl
  i53 := by kernel_rfl
  i75 := by kernel_rfl
  i76 := by kernel_rfl
  i80 := by kernel_rfl
  i85 := by kernel_rfl
  i127 := by kernel_rfl
  i143 := by kernel_rfl
  i145 := by kernel_rfl
  i167 := by kernel_rfl
  i168 := by kernel_rfl
  i171 := by kernel_rfl
  i173 := by kernel_rfl
  i175 := by kernel_rfl
  i210 := by kernel_rfl
  i212 := by kernel_rfl
  i232 := by kernel_rfl
  i233 := by kernel_rfl
  m15 := by kernel_rfl
  m16 := by kernel_rfl
  m17 := by kernel_rfl
  m18 := by kernel_rfl
  m19 := by kernel_rfl
  c0 := by kernel_rfl
  c2 := by kernel_rfl
  c3 := by kernel_rfl
  c4 := by kernel_rfl
  c5 := by kernel_rfl
  c9 := by kernel_rfl
  c20 := by kernel_rfl
  c21 := by kernel_rfl
  c37 := by kernel_rfl
  c46 := by kernel_rfl
  c51 := by kernel_rfl
  c53 := by kernel_rfl
  c75 := by kernel_rfl
  c76 := by kernel_rfl
  c80 := by kernel_rfl
  c85 := by kernel_rfl
  c127 := by kernel_rfl
  c143 := by kernel_rfl
  c145 := by kernel_rfl
  c167 := by kernel_rfl
  c168 := by kernel_rfl
  c171 := by kernel_rfl
  c173 := by kernel_rfl
  c175 := by kernel_rfl
  c210 := by kernel_rfl
  c212 := by kernel_rfl
  c213 := by kernel_rfl
  c232 := by kernel_rfl
  c233 := by kernel_rfl }
def Tryz.lays190_ren : Go.Shelf.Ren := ⟨fun | 190 => 157 | 125 => 181 | 258 => 180 | 128 => 203 | 129 => 204 | 302 => 194 | 303 => 195 | 304 => 196 | 305 => 197 | 306 => 198 | 307 => 199 | 308 => 200 | 309 => 201 | 310 => 202 | 333 => 210 | 329 => 211 | 330 => 212 | 334 => 213 | 335 => 214 | 336 => 215 | 344 => 226 | n => n, fun | 31 => 23 | 9 => 9 | 3 => 3 | 46 => 180 | 0 => 0 | 51 => 211 | 53 => 195 | 4 => 4 | 183 => 233 | 182 => 232 | 131 => 237 | 5 => 5 | 218 => 251 | 222 => 255 | 228 => 275 | 229 => 141 | n => n, fun | n => n⟩
theorem Tryz.lays190 : Go.Proofs.Lays.n190 Tryz.prog Tryz.lays190_ren := {
  mixed := by kernel_rfl
  f125 := Tryz.func181.trans (congrArg some (by kernel_rfl))
  f128 := Tryz.func203.trans (congrArg some (by kernel_rfl))
  f129 := Tryz.func204.trans (congrArg some (by kernel_rfl))
  f190 := Tryz.func157.trans (congrArg some (by kernel_rfl))
  f258 := Tryz.func180.trans (congrArg some (by kernel_rfl))
  f302 := Tryz.func194.trans (congrArg some (by kernel_rfl))
  f303 := Tryz.func195.trans (congrArg some (by kernel_rfl))
  f304 := Tryz.func196.trans (congrArg some (by kernel_rfl))
  f305 := Tryz.func197.trans (congrArg some (by kernel_rfl))
  f306 := Tryz.func198.trans (congrArg some (by kernel_rfl))
  f307 := Tryz.func199.trans (congrArg some (by kernel_rfl))
  f308 := Tryz.func200.trans (congrArg some (by kernel_rfl))
  f309 := Tryz.func201.trans (congrArg some (by kernel_rfl))
  f310 := Tryz.func202.trans (congrArg some (by kernel_rfl))
  f329 := Tryz.func211.trans (congrArg some (by kernel_rfl))
  f330 := Tryz.func212.trans (congrArg some (by kernel_rfl))
  f333 := Tryz.func210.trans (congrArg some (by kernel_rfl))
  f334 := Tryz.func213.trans (congrArg some (by kernel_rfl))
  f335 := Tryz.func214.trans (congrArg some (by kernel_rfl))
  f336 := Tryz.func215.trans (congrArg some (by kernel_rfl))
  f344 := Tryz.func226.trans (congrArg some (by kernel_rfl))
  t0 := Tryz.underlying0
  a0 := Tryz.isAgg0
  z0 := Tryz.sizeOf0
  v0 := Tryz.zeroValue0
  t3 := Tryz.underlying3
  a3 := Tryz.isAgg3
  z3 := Tryz.sizeOf3
  v3 := Tryz.zeroValue3
  t4 := Tryz.underlying4
  a4 := Tryz.isAgg4
  z4 := Tryz.sizeOf4
  v4 := Tryz.zeroValue4
  t5 := Tryz.underlying5
  a5 := Tryz.isAgg5
  z5 := Tryz.sizeOf5
  v5 := Tryz.zeroValue5
  t9 := Tryz.underlying9
  a9 := Tryz.isAgg9
  z9 := Tryz.sizeOf9
  v9 := Tryz.zeroValue9
  t31 := Tryz.underlying23
  a31 := Tryz.isAgg23
  z31 := Tryz.sizeOf23
  v31 := Tryz.zeroValue23
  t46 := Tryz.underlying180
  a46 := Tryz.isAgg180
  z46 := Tryz.sizeOf180
  v46 := Tryz.zeroValue180
  t51 := Tryz.underlying211
  a51 := Tryz.isAgg211
  z51 := Tryz.sizeOf211
  v51 := Tryz.zeroValue211
  t53 := Tryz.underlying195
  a53 := Tryz.isAgg195
  z53 := Tryz.sizeOf195
  v53 := Tryz.zeroValue195
  t131 := Tryz.underlying237
  a131 := Tryz.isAgg237
  z131 := Tryz.sizeOf237
  v131 := Tryz.zeroValue237
  t182 := Tryz.underlying232
  a182 := Tryz.isAgg232
  z182 := Tryz.sizeOf232
  v182 := Tryz.zeroValue232
  t183 := Tryz.underlying233
  a183 := Tryz.isAgg233
  z183 := Tryz.sizeOf233
  v183 := Tryz.zeroValue233
  t218 := Tryz.underlying251
  a218 := Tryz.isAgg251
  z218 := Tryz.sizeOf251
  v218 := Tryz.zeroValue251
  t222 := Tryz.underlying255
  a222 := Tryz.isAgg255
  z222 := Tryz.sizeOf255
  v222 := Tryz.zeroValue255
  t228 := Tryz.underlying275
  a228 := Tryz.isAgg275
  z228 := Tryz.sizeOf275
  v228 := Tryz.zeroValue275
  t229 := Tryz.underlying141
  a229 := Tryz.isAgg141
  z229 := Tryz.sizeOf141
  v229 := Tryz.zeroValue141 }
open Go.Sort Go.RowKit in
theorem Tryz.slices_Sort_string (blk off cap : Nat) (ss : List (List UInt8)) (w : World) (hH : Holds encStr w blk off ss.toArray) (hblk : blk < w.heap.size) (hsz : ss.length < 4611686018427387904) :
    Calls Tryz.prog 157 #[.slice (some ⟨blk, off, none⟩) ss.length cap] w fun e w' =>
      e = .returned (.tuple #[]) ∧ ∃ n os, w' = grow (putRow encStr (Sort.ahead w n) blk off (ss.mergeSort fun x y => decide (x ≤ y)).toArray) os := Any.slices_Sort_string Tryz.lays190 blk off cap ss w hH hblk hsz
def Tryz.lays192_ren : Go.Shelf.Ren := ⟨fun | 192 => 117 | 190 => 157 | 125 => 181 | 258 => 180 | 128 => 203 | 129 => 204 | 302 => 194 | 303 => 195 | 304 => 196 | 305 => 197 | 306 => 198 | 307 => 199 | 308 => 200 | 309 => 201 | 310 => 202 | 333 => 210 | 329 => 211 | 330 => 212 | 334 => 213 | 335 => 214 | 336 => 215 | 344 => 226 | n => n, fun | 31 => 23 | 0 => 0 | 9 => 9 | 3 => 3 | 46 => 180 | 51 => 211 | 53 => 195 | 4 => 4 | 183 => 233 | 182 => 232 | 131 => 237 | 5 => 5 | 218 => 251 | 222 => 255 | 228 => 275 | 229 => 141 | n => n, fun | n => n⟩
theorem Tryz.lays192 : Go.Proofs.Lays.n192 Tryz.prog Tryz.lays192_ren := {
  mixed := by kernel_rfl
  f125 := Tryz.func181.trans (congrArg some (by kernel_rfl))
  f128 := Tryz.func203.trans (congrArg some (by kernel_rfl))
  f129 := Tryz.func204.trans (congrArg some (by kernel_rfl))
  f190 := Tryz.func157.trans (congrArg some (by kernel_rfl))
  f192 := Tryz.func117.trans (congrArg some (by kernel_rfl))
  f258 := Tryz.func180.trans (congrArg some (by kernel_rfl))
  f302 := Tryz.func194.trans (congrArg some (by kernel_rfl))
  f303 := Tryz.func195.trans (congrArg some (by kernel_rfl))
  f304 := Tryz.func196.trans (congrArg some (by kernel_rfl))
  f305 := Tryz.func197.trans (congrArg some (by kernel_rfl))
  f306 := Tryz.func198.trans (congrArg some (by kernel_rfl))
  f307 := Tryz.func199.trans (congrArg some (by kernel_rfl))
  f308 := Tryz.func200.trans (congrArg some (by kernel_rfl))
  f309 := Tryz.func201.trans (congrArg some (by kernel_rfl))
  f310 := Tryz.func202.trans (congrArg some (by kernel_rfl))
  f329 := Tryz.func211.trans (congrArg some (by kernel_rfl))
  f330 := Tryz.func212.trans (congrArg some (by kernel_rfl))
  f333 := Tryz.func210.trans (congrArg some (by kernel_rfl))
  f334 := Tryz.func213.trans (congrArg some (by kernel_rfl))
  f335 := Tryz.func214.trans (congrArg some (by kernel_rfl))
  f336 := Tryz.func215.trans (congrArg some (by kernel_rfl))
  f344 := Tryz.func226.trans (congrArg some (by kernel_rfl))
  t0 := Tryz.underlying0
  a0 := Tryz.isAgg0
  z0 := Tryz.sizeOf0
  v0 := Tryz.zeroValue0
  t3 := Tryz.underlying3
  a3 := Tryz.isAgg3
  z3 := Tryz.sizeOf3
  v3 := Tryz.zeroValue3
  t4 := Tryz.underlying4
  a4 := Tryz.isAgg4
  z4 := Tryz.sizeOf4
  v4 := Tryz.zeroValue4
  t5 := Tryz.underlying5
  a5 := Tryz.isAgg5
  z5 := Tryz.sizeOf5
  v5 := Tryz.zeroValue5
  t9 := Tryz.underlying9
  a9 := Tryz.isAgg9
  z9 := Tryz.sizeOf9
  v9 := Tryz.zeroValue9
  t31 := Tryz.underlying23
  a31 := Tryz.isAgg23
  z31 := Tryz.sizeOf23
  v31 := Tryz.zeroValue23
  t46 := Tryz.underlying180
  a46 := Tryz.isAgg180
  z46 := Tryz.sizeOf180
  v46 := Tryz.zeroValue180
  t51 := Tryz.underlying211
  a51 := Tryz.isAgg211
  z51 := Tryz.sizeOf211
  v51 := Tryz.zeroValue211
  t53 := Tryz.underlying195
  a53 := Tryz.isAgg195
  z53 := Tryz.sizeOf195
  v53 := Tryz.zeroValue195
  t131 := Tryz.underlying237
  a131 := Tryz.isAgg237
  z131 := Tryz.sizeOf237
  v131 := Tryz.zeroValue237
  t182 := Tryz.underlying232
  a182 := Tryz.isAgg232
  z182 := Tryz.sizeOf232
  v182 := Tryz.zeroValue232
  t183 := Tryz.underlying233
  a183 := Tryz.isAgg233
  z183 := Tryz.sizeOf233
  v183 := Tryz.zeroValue233
  t218 := Tryz.underlying251
  a218 := Tryz.isAgg251
  z218 := Tryz.sizeOf251
  v218 := Tryz.zeroValue251
  t222 := Tryz.underlying255
  a222 := Tryz.isAgg255
  z222 := Tryz.sizeOf255
  v222 := Tryz.zeroValue255
  t228 := Tryz.underlying275
  a228 := Tryz.isAgg275
  z228 := Tryz.sizeOf275
  v228 := Tryz.zeroValue275
  t229 := Tryz.underlying141
  a229 := Tryz.isAgg141
  z229 := Tryz.sizeOf141
  v229 := Tryz.zeroValue141 }
open Go.Sort Go.RowKit in
theorem Tryz.sort_Strings (blk off cap : Nat) (ss : List (List UInt8)) (w : World) (hH : Holds encStr w blk off ss.toArray) (hblk : blk < w.heap.size) (hsz : ss.length < 4611686018427387904) :
    Calls Tryz.prog 117 #[.slice (some ⟨blk, off, none⟩) ss.length cap] w fun e w' =>
      e = .returned (.tuple #[]) ∧ ∃ n os, w' = grow (putRow encStr (Sort.ahead w n) blk off (ss.mergeSort fun x y => decide (x ≤ y)).toArray) os := Any.sort_Strings Tryz.lays192 blk off cap ss w hH hblk hsz
def Tryz.lays197_ren : Go.Shelf.Ren := ⟨fun | 197 => 164 | 260 => 186 | n => n, fun | 9 => 9 | 21 => 21 | 3 => 3 | 4 => 4 | 5 => 5 | 105 => 193 | 119 => 246 | 0 => 0 | 46 => 180 | 139 => 249 | 138 => 248 | n => n, fun | 3 => 3 | 4 => 4 | n => n⟩
theorem Tryz.lays197 : Go.Proofs.Lays.n197 Tryz.prog Tryz.lays197_ren := {
  mixed := by kernel_rfl
  f197 := Tryz.func164.trans (congrArg some (by kernel_rfl))
  f260 := Tryz.func186.trans (congrArg some (by kernel_rfl))
  t0 := Tryz.underlying0
  a0 := Tryz.isAgg0
  z0 := Tryz.sizeOf0
  v0 := Tryz.zeroValue0
  t3 := Tryz.underlying3
  a3 := Tryz.isAgg3
  z3 := Tryz.sizeOf3
  v3 := Tryz.zeroValue3
  t4 := Tryz.underlying4
  a4 := Tryz.isAgg4
  z4 := Tryz.sizeOf4
  v4 := Tryz.zeroValue4
  t5 := Tryz.underlying5
  a5 := Tryz.isAgg5
  z5 := Tryz.sizeOf5
  v5 := Tryz.zeroValue5
  t9 := Tryz.underlying9
  a9 := Tryz.isAgg9
  z9 := Tryz.sizeOf9
  v9 := Tryz.zeroValue9
  t21 := Tryz.underlying21
  a21 := Tryz.isAgg21
  z21 := Tryz.sizeOf21
  v21 := Tryz.zeroValue21
  t46 := Tryz.underlying180
  a46 := Tryz.isAgg180
  z46 := Tryz.sizeOf180
  v46 := Tryz.zeroValue180
  t105 := Tryz.underlying193
  a105 := Tryz.isAgg193
  z105 := Tryz.sizeOf193
  v105 := Tryz.zeroValue193
  t119 := Tryz.underlying246
  a119 := Tryz.isAgg246
  z119 := Tryz.sizeOf246
  t138 := Tryz.underlying248
  a138 := Tryz.isAgg248
  z138 := Tryz.sizeOf248
  v138 := Tryz.zeroValue248
  t139 := Tryz.underlying249
  a139 := Tryz.isAgg249
  z139 := Tryz.sizeOf249
  v139 := Tryz.zeroValue249
  g3 := by kernel_rfl
  g4 := by kernel_rfl }
open Go.RowKit Go.Lib in
/-- unicode/utf8.DecodeRuneInString: "DecodeRuneInString is like DecodeRune but its input is a string.": ("DecodeRune unpacks the first UTF-8 encoding in p and returns the rune and its width in bytes."): WHERE s BEGINS WITH AN ASCII BYTE x: (x, 1). (LAID: no walk: one application.) -/
theorem Tryz.utf8_DecodeRuneInString_ascii (s : ByteArray) (x : UInt8) (w : World) (h0 : s.data.toList[0]? = some x) (hx : x.toNat < 128) :
    Calls Tryz.prog 164 #[.string s] w fun e w' => e = .returned (.tuple #[.int .i32 x.toNat, .int .i64 1]) ∧ w' = w := Any.utf8_DecodeRuneInString_ascii Tryz.lays197 s x w h0 hx
open Go.RowKit Go.Lib in
theorem Tryz.utf8_RuneCountInString_ascii (s : ByteArray) (w : World) (hs : s.size < 4294967281) (hascii : ∀ (j : Nat) b, s.data.toList[j]? = some b → b.toNat < 128) :
    Calls Tryz.prog 163 #[.string s] w fun e w' => e = .returned (.int .i64 s.size) ∧ w' = w.iter s s.size := Any.utf8_RuneCountInString_ascii Tryz.lays195 s w hs hascii
def Tryz.lays268_ren : Go.Shelf.Ren := ⟨fun | 268 => 132 | 195 => 163 | 197 => 164 | 260 => 186 | n => n, fun | 9 => 9 | 3 => 3 | 31 => 23 | 4 => 4 | 105 => 193 | 21 => 21 | 0 => 0 | 5 => 5 | 119 => 246 | 46 => 180 | 139 => 249 | 138 => 248 | n => n, fun | 3 => 3 | 4 => 4 | n => n⟩
theorem Tryz.lays268 : Go.Proofs.Lays.n268 Tryz.prog Tryz.lays268_ren := {
  mixed := by kernel_rfl
  f195 := Tryz.func163.trans (congrArg some (by kernel_rfl))
  f197 := Tryz.func164.trans (congrArg some (by kernel_rfl))
  f260 := Tryz.func186.trans (congrArg some (by kernel_rfl))
  f268 := Tryz.func132.trans (congrArg some (by kernel_rfl))
  t0 := Tryz.underlying0
  a0 := Tryz.isAgg0
  z0 := Tryz.sizeOf0
  v0 := Tryz.zeroValue0
  t3 := Tryz.underlying3
  a3 := Tryz.isAgg3
  z3 := Tryz.sizeOf3
  v3 := Tryz.zeroValue3
  t4 := Tryz.underlying4
  a4 := Tryz.isAgg4
  z4 := Tryz.sizeOf4
  v4 := Tryz.zeroValue4
  t5 := Tryz.underlying5
  a5 := Tryz.isAgg5
  z5 := Tryz.sizeOf5
  v5 := Tryz.zeroValue5
  t9 := Tryz.underlying9
  a9 := Tryz.isAgg9
  z9 := Tryz.sizeOf9
  v9 := Tryz.zeroValue9
  t21 := Tryz.underlying21
  a21 := Tryz.isAgg21
  z21 := Tryz.sizeOf21
  v21 := Tryz.zeroValue21
  t31 := Tryz.underlying23
  a31 := Tryz.isAgg23
  z31 := Tryz.sizeOf23
  v31 := Tryz.zeroValue23
  t46 := Tryz.underlying180
  a46 := Tryz.isAgg180
  z46 := Tryz.sizeOf180
  v46 := Tryz.zeroValue180
  t105 := Tryz.underlying193
  a105 := Tryz.isAgg193
  z105 := Tryz.sizeOf193
  v105 := Tryz.zeroValue193
  t119 := Tryz.underlying246
  a119 := Tryz.isAgg246
  z119 := Tryz.sizeOf246
  t138 := Tryz.underlying248
  a138 := Tryz.isAgg248
  z138 := Tryz.sizeOf248
  v138 := Tryz.zeroValue248
  t139 := Tryz.underlying249
  a139 := Tryz.isAgg249
  z139 := Tryz.sizeOf249
  v139 := Tryz.zeroValue249
  g3 := by kernel_rfl
  g4 := by kernel_rfl }
open Go.RowKit Go.Lib in
theorem Tryz.strings_explode_all (s : ByteArray) (n : Int) (w : World) (hn : n < 0) (hs : s.size < 4294967281) (hascii : ∀ (j : Nat) b, s.data.toList[j]? = some b → b.toNat < 128) :
    Calls Tryz.prog 132 #[.string s, .int .i64 n] w fun e w' =>
      e = .returned (.slice (some ⟨(w.iter s s.size).heap.size, 0, none⟩) s.size s.size) ∧ w' = (w.iter s s.size).alloc (.cells ((Lib.charsB s).map Value.string).toArray 9) := Any.strings_explode_all Tryz.lays268 (by kernel_rfl) s n w hn hs hascii
open Go.RowKit Go.Lib in
/-- strings.genSplit at sep == "", n < 0: 'return explode(s, n)'. (LAID: no walk: one application.) -/
theorem Tryz.strings_genSplit_chars (s sep : ByteArray) (sv n : Int) (w : World) (h0 : sep.size = 0) (hn : n < 0) (hs : s.size < 4294967281) (hascii : ∀ (j : Nat) b, s.data.toList[j]? = some b → b.toNat < 128) :
    Calls Tryz.prog 93 #[.string s, .string sep, .int .i64 sv, .int .i64 n] w fun e w' =>
      e = .returned (.slice (some ⟨(w.iter s s.size).heap.size, 0, none⟩) s.size s.size) ∧ w' = (w.iter s s.size).alloc (.cells ((Lib.charsB s).map Value.string).toArray 9) := Any.strings_genSplit_chars Tryz.lays221 (by kernel_rfl) s sep sv n w h0 hn hs hascii
open Go.RowKit Go.Lib in
/-- strings.Split(s, ""), s ASCII: a piece a byte. (LAID: no walk: one application.) -/
theorem Tryz.strings_Split_chars (s sep : ByteArray) (w : World) (h0 : sep.size = 0) (hs : s.size < 4294967281) (hascii : ∀ (j : Nat) b, s.data.toList[j]? = some b → b.toNat < 128) :
    Calls Tryz.prog 54 #[.string s, .string sep] w fun e w' =>
      e = .returned (.slice (some ⟨(w.iter s s.size).heap.size, 0, none⟩) s.size s.size) ∧ w' = (w.iter s s.size).alloc (.cells ((Lib.charsB s).map Value.string).toArray 9) := Any.strings_Split_chars Tryz.lays146 (by kernel_rfl) s sep w h0 hs hascii
open Go.RowKit Go.Lib in
/-- **unicode/utf8.DecodeRuneInString AT EVERY STRING.** (LAID: no walk: one application.) -/
theorem Tryz.utf8_DecodeRuneInString (s : ByteArray) (w : World) (hT : Lib.Utf8Tabs 3 4 w) :
    Calls Tryz.prog 164 #[.string s] w fun e w' => e = .returned (.tuple #[.int .i32 (Lib.decodeGo s).1, .int .i64 (Lib.decodeGo s).2]) ∧ Below w.heap.size w w' := Any.utf8_DecodeRuneInString Tryz.lays197 s w hT
def Tryz.lays271_ren : Go.Shelf.Ren := ⟨fun | 271 => 171 | 120 => 190 | 197 => 164 | 260 => 186 | n => n, fun | 9 => 9 | 21 => 21 | 3 => 3 | 4 => 4 | 5 => 5 | 105 => 193 | 119 => 246 | 0 => 0 | 46 => 180 | 139 => 249 | 138 => 248 | n => n, fun | 3 => 3 | 4 => 4 | n => n⟩
theorem Tryz.lays271 : Go.Proofs.Lays.n271 Tryz.prog Tryz.lays271_ren := {
  mixed := by kernel_rfl
  f120 := Tryz.func190.trans (congrArg some (by kernel_rfl))
  f197 := Tryz.func164.trans (congrArg some (by kernel_rfl))
  f260 := Tryz.func186.trans (congrArg some (by kernel_rfl))
  f271 := Tryz.func171.trans (congrArg some (by kernel_rfl))
  t0 := Tryz.underlying0
  a0 := Tryz.isAgg0
  z0 := Tryz.sizeOf0
  v0 := Tryz.zeroValue0
  t3 := Tryz.underlying3
  a3 := Tryz.isAgg3
  z3 := Tryz.sizeOf3
  v3 := Tryz.zeroValue3
  t4 := Tryz.underlying4
  a4 := Tryz.isAgg4
  z4 := Tryz.sizeOf4
  v4 := Tryz.zeroValue4
  t5 := Tryz.underlying5
  a5 := Tryz.isAgg5
  z5 := Tryz.sizeOf5
  v5 := Tryz.zeroValue5
  t9 := Tryz.underlying9
  a9 := Tryz.isAgg9
  z9 := Tryz.sizeOf9
  v9 := Tryz.zeroValue9
  t21 := Tryz.underlying21
  a21 := Tryz.isAgg21
  z21 := Tryz.sizeOf21
  v21 := Tryz.zeroValue21
  t46 := Tryz.underlying180
  a46 := Tryz.isAgg180
  z46 := Tryz.sizeOf180
  v46 := Tryz.zeroValue180
  t105 := Tryz.underlying193
  a105 := Tryz.isAgg193
  z105 := Tryz.sizeOf193
  v105 := Tryz.zeroValue193
  t119 := Tryz.underlying246
  a119 := Tryz.isAgg246
  z119 := Tryz.sizeOf246
  t138 := Tryz.underlying248
  a138 := Tryz.isAgg248
  z138 := Tryz.sizeOf248
  v138 := Tryz.zeroValue248
  t139 := Tryz.underlying249
  a139 := Tryz.isAgg249
  z139 := Tryz.sizeOf249
  v139 := Tryz.zeroValue249
  g3 := by kernel_rfl
  g4 := by kernel_rfl }
open Go.RowKit Go.Lib in
/-- **unicode/utf8.DecodeLastRuneInString AT EVERY STRING.** (LAID: no walk: one application.) -/
theorem Tryz.utf8_DecodeLastRuneInString (s : ByteArray) (w : World) (hs : s.size ≤ 9223372036854775807) (hT : Lib.Utf8Tabs 3 4 w) :
    Calls Tryz.prog 171 #[.string s] w fun e w' => e = .returned (.tuple #[.int .i32 (Lib.decodeLastL s.data.toList).1, .int .i64 (Lib.decodeLastL s.data.toList).2]) ∧ Below w.heap.size w w' := Any.utf8_DecodeLastRuneInString Tryz.lays271 s w hs hT
open Go.RowKit Go.Sort in
/-- .. and plain. (LAID: no walk: one application.) -/
theorem Tryz.slices_Sort_string_none (p : Option Addr) (cap : Nat) (w : World) :
    Calls Tryz.prog 157 #[.slice p 0 cap] w fun e w' => e = .returned (.tuple #[]) ∧ w' = w := Any.slices_Sort_string_none Tryz.lays190 p cap w
open Go.RowKit Go.Sort in
/-- .. and plain. (LAID: no walk: one application.) -/
theorem Tryz.sort_Strings_none (p : Option Addr) (cap : Nat) (w : World) :
    Calls Tryz.prog 117 #[.slice p 0 cap] w fun e w' => e = .returned (.tuple #[]) ∧ w' = w := Any.sort_Strings_none Tryz.lays192 p cap w
end Go.Proofs

namespace Go.Proofs.YtbhildmalcfhiaaGreatDoor
open Go.RowKit Go.Deep

structure FaultR where
  at_ : Nat
  kind : Int

def altN : ByteArray := ⟨#[97, 108, 116]⟩
def imgN : ByteArray := ⟨#[105, 109, 103]⟩
def aN : ByteArray := ⟨#[97]⟩
def titleN : ByteArray := ⟨#[116, 105, 116, 108, 101]⟩
/-- elements that are never open -/
def voids : List (List UInt8) := [[97, 114, 101, 97], [98, 97, 115, 101], [98, 114], [99, 111, 108], [101, 109, 98, 101, 100], [104, 114], [105, 109, 103], [105, 110, 112, 117, 116], [108, 105, 110, 107], [109, 101, 116, 97], [115, 111, 117, 114, 99, 101], [116, 114, 97, 99, 107], [119, 98, 114]]
def voidB (s : ByteArray) : Bool := voids.contains s.data.toList
/-- a string of gaps alone -/
def trimG (s : ByteArray) : List UInt8 := Lib.trimS s.data.toList [32, 9, 10]
def blankB (s : ByteArray) : Bool := (trimG s).isEmpty

def headB (nm : ByteArray) : Bool := decide (nm.size = 2) && (nAt nm 0 == 104) && decide (49 ≤ nAt nm 1) && decide (nAt nm 1 ≤ 54)
def oAlt (t : TokR) : List FaultR := if t.name = imgN ∧ (attrV altN t.atts).isSome = false then [⟨t.at_, 1⟩] else []
def oHead (last : Int) (t : TokR) : List FaultR := if headB t.name = true ∧ last + 1 < nAt t.name 1 - 48 then [⟨t.at_, 2⟩] else []
def nextL (last : Int) (t : TokR) : Int := if headB t.name = true then nAt t.name 1 - 48 else last
def idB (t : TokR) : List UInt8 := (attrS idN t.atts).data.toList
def oId (ids : List (List UInt8)) (t : TokR) : List FaultR := if idB t ≠ [] ∧ idB t ∈ ids then [⟨t.at_, 3⟩] else []
def nextI (ids : List (List UInt8)) (t : TokR) : List (List UInt8) := if idB t ≠ [] then ids ++ [idB t] else ids
def goodT (T : List TokR) (i : Nat) : Bool := match T[i + 1]? with | some u => decide (u.kind = 1) && !blankB u.text | none => false
def oTitle (titled : Bool) (T : List TokR) (i : Nat) (t : TokR) : List FaultR := if t.name = titleN ∧ titled = false ∧ goodT T i = false then [⟨0, 6⟩] else []
def nextT (titled : Bool) (t : TokR) : Bool := titled || decide (t.name = titleN)
/-- is nothing to be seen up to the link's end -/
def emptyL : List TokR → Bool
  | [] => true
  | u :: r => if u.kind = 3 ∧ u.name = aN then true else if u.kind = 1 ∧ blankB u.text = false then false else if u.kind = 2 ∧ u.name = imgN ∧ (attrS altN u.atts).data.toList ≠ [] then false else emptyL r
def oLink (T : List TokR) (i : Nat) (t : TokR) : List FaultR := if t.name = aN ∧ (attrV hrefN t.atts).isSome = true ∧ emptyL (T.drop (i + 1)) = true then [⟨t.at_, 7⟩] else []

structure TagS where
  last : Int
  ids : List (List UInt8)
  titled : Bool
  out : List FaultR
def tagStep (T : List TokR) (i : Nat) (t : TokR) (S : TagS) : TagS :=
  if t.kind = 2 then ⟨nextL S.last t, nextI S.ids t, nextT S.titled t, S.out ++ oAlt t ++ oHead S.last t ++ oId S.ids t ++ oTitle S.titled T i t ++ oLink T i t⟩ else S
def tagTo (T : List TokR) : Nat → TagS
  | 0 => ⟨0, [], false, []⟩
  | k + 1 => match T[k]? with | some t => tagStep T k t (tagTo T k) | none => tagTo T k
theorem tagTo_succ {T : List TokR} {k : Nat} {t : TokR} (h : T[k]? = some t) : tagTo T (k + 1) = tagStep T k t (tagTo T k) := by rw [tagTo, h]
def tagEnd (S : TagS) : List FaultR := S.out ++ (if S.titled = true then [] else [⟨0, 6⟩])

/-- the innermost element of a name among the first k -/
def findO (open_ : List TokR) (nm : ByteArray) : Nat → Option Nat
  | 0 => none
  | k + 1 => match open_[k]? with | some t => if t.name = nm then some k else findO open_ nm k | none => findO open_ nm k
structure NestS where
  open_ : List TokR
  out : List FaultR
def unclosed (l : List TokR) : List FaultR := l.map fun t => ⟨t.at_, 4⟩
def closeStep (t : TokR) (S : NestS) : NestS := match findO S.open_ t.name S.open_.length with
  | none => ⟨S.open_, S.out ++ [⟨t.at_, 5⟩]⟩
  | some j => ⟨S.open_.take j, S.out ++ unclosed (S.open_.drop (j + 1))⟩
def nestStep (t : TokR) (S : NestS) : NestS :=
  if t.kind = 2 ∧ voidB t.name = false then ⟨S.open_ ++ [t], S.out⟩ else if t.kind = 3 then closeStep t S else S
def nestTo (T : List TokR) : Nat → NestS
  | 0 => ⟨[], []⟩
  | k + 1 => match T[k]? with | some t => nestStep t (nestTo T k) | none => nestTo T k
theorem nestTo_succ {T : List TokR} {k : Nat} {t : TokR} (h : T[k]? = some t) : nestTo T (k + 1) = nestStep t (nestTo T k) := by rw [nestTo, h]
def nestEnd (S : NestS) : List FaultR := S.out ++ unclosed S.open_

structure RefS where
  last : Int
  titled : Bool
  seen : Bool
  ids : List (List UInt8)
  open_ : List TokR
  out : List FaultR
def refClose (t : TokR) (S : RefS) : RefS := let N := closeStep t ⟨S.open_, S.out⟩; { S with open_ := N.open_, out := N.out }
def refOpen (T : List TokR) (i : Nat) (t : TokR) (S : RefS) : RefS :=
  ⟨nextL S.last t, if t.name = titleN ∧ S.seen = false then goodT T i else S.titled, nextT S.seen t, nextI S.ids t, if voidB t.name = false then S.open_ ++ [t] else S.open_, S.out ++ oAlt t ++ oHead S.last t ++ oId S.ids t ++ oLink T i t⟩
def refStep (T : List TokR) (i : Nat) (t : TokR) (S : RefS) : RefS := if t.kind = 3 then refClose t S else if t.kind = 2 then refOpen T i t S else S
def refTo (T : List TokR) : Nat → RefS
  | 0 => ⟨0, false, false, [], [], []⟩
  | k + 1 => match T[k]? with | some t => refStep T k t (refTo T k) | none => refTo T k
theorem refTo_succ {T : List TokR} {k : Nat} {t : TokR} (h : T[k]? = some t) : refTo T (k + 1) = refStep T k t (refTo T k) := by rw [refTo, h]
def refEnd (S : RefS) : List FaultR := S.out ++ unclosed S.open_ ++ (if S.titled = true then [] else [⟨0, 6⟩])

structure Both (A : TagS) (N : NestS) (R : RefS) : Prop where
  last : A.last = R.last
  ids : A.ids = R.ids
  seen : A.titled = R.seen
  op : N.open_ = R.open_
  good : R.titled = true → R.seen = true
  out : (A.out ++ N.out).Perm (R.out ++ (if R.seen = true ∧ R.titled = false then [⟨0, 6⟩] else []))

theorem perm_end {α : Type} {a b r x : List α} (y : List α) (h : (a ++ b).Perm (r ++ x)) : (a ++ (b ++ y)).Perm (r ++ y ++ x) := by
  refine (List.append_assoc a b y ▸ (h.append_right y)).trans ?_
  rw [List.append_assoc, List.append_assoc]
  exact List.Perm.append_left r List.perm_append_comm
theorem Both.close {A : TagS} {N : NestS} {R : RefS} (t : TokR) (h : Both A N R) : Both A (closeStep t N) (refClose t R) := by
  unfold refClose closeStep
  rw [← h.op]
  cases findO N.open_ t.name N.open_.length with
  | none => exact ⟨h.last, h.ids, h.seen, rfl, h.good, perm_end _ h.out⟩
  | some j => exact ⟨h.last, h.ids, h.seen, rfl, h.good, perm_end _ h.out⟩
theorem Both.open_ {A : TagS} {N : NestS} {R : RefS} (T : List TokR) (i : Nat) (t : TokR) (hk : t.kind = 2) (h : Both A N R) : Both (tagStep T i t A) (nestStep t N) (refOpen T i t R) := by
  have hk3 : ¬ t.kind = 3 := by omega
  unfold tagStep nestStep refOpen
  rw [if_pos hk]
  have hout := h.out
  refine ⟨by simp only [h.last], by simp only [h.ids], by simp only [h.seen], ?_, ?_, ?_⟩
  · cases hv : voidB t.name with
    | true => simp [hk, h.op]
    | false => simp [hk, h.op]
  · simp only [nextT]
    intro hg
    by_cases hs : t.name = titleN ∧ R.seen = false
    · simp [hs.1]
    · rw [if_neg hs] at hg
      simp [h.good hg]
  · have hN : (if t.kind = 2 ∧ voidB t.name = false then (⟨N.open_ ++ [t], N.out⟩ : NestS) else if t.kind = 3 then closeStep t N else N).out = N.out := by
      split <;> first | rfl | (rw [if_neg hk3])
    rw [hN]
    simp only [← h.last, ← h.ids, ← h.seen]
    have key : (oTitle A.titled T i t ++ (if R.seen = true ∧ R.titled = false then [(⟨0, 6⟩ : FaultR)] else [])).Perm (if nextT A.titled t = true ∧ (if t.name = titleN ∧ A.titled = false then goodT T i else R.titled) = false then [(⟨0, 6⟩ : FaultR)] else []) := by
      have hs := h.seen
      have hgd := h.good
      unfold oTitle nextT
      by_cases h1 : t.name = titleN
      · cases hA : A.titled with
        | true => rw [hA] at hs; simp [h1, ← hs]
        | false =>
          rw [hA] at hs
          cases hG : goodT T i <;> simp [h1, ← hs]
      · simp [h1, hs]
    have e1 : (A.out ++ oAlt t ++ oHead A.last t ++ oId A.ids t ++ oTitle A.titled T i t ++ oLink T i t ++ N.out).Perm ((oAlt t ++ oHead A.last t ++ oId A.ids t ++ oLink T i t) ++ (oTitle A.titled T i t ++ (A.out ++ N.out))) := by
      simp only [List.append_assoc]
      refine (List.perm_append_comm_assoc _ _ _).trans ?_
      refine List.Perm.append_left _ ?_
      refine (List.perm_append_comm_assoc _ _ _).trans ?_
      refine List.Perm.append_left _ ?_
      refine (List.perm_append_comm_assoc _ _ _).trans ?_
      refine List.Perm.append_left _ ?_
      refine (List.perm_append_comm_assoc _ _ _).trans ?_
      refine List.Perm.trans ?_ (List.perm_append_comm_assoc _ _ _)
      refine List.Perm.append_left _ ?_
      exact List.perm_append_comm_assoc _ _ _
    refine e1.trans ?_
    have e2 : (R.out ++ oAlt t ++ oHead A.last t ++ oId A.ids t ++ oLink T i t ++ (if nextT A.titled t = true ∧ (if t.name = titleN ∧ A.titled = false then goodT T i else R.titled) = false then [(⟨0, 6⟩ : FaultR)] else [])).Perm ((oAlt t ++ oHead A.last t ++ oId A.ids t ++ oLink T i t) ++ (R.out ++ (if nextT A.titled t = true ∧ (if t.name = titleN ∧ A.titled = false then goodT T i else R.titled) = false then [(⟨0, 6⟩ : FaultR)] else []))) := by
      simp only [List.append_assoc]
      refine (List.perm_append_comm_assoc _ _ _).trans ?_
      refine List.Perm.append_left _ ?_
      refine (List.perm_append_comm_assoc _ _ _).trans ?_
      refine List.Perm.append_left _ ?_
      refine (List.perm_append_comm_assoc _ _ _).trans ?_
      refine List.Perm.append_left _ ?_
      exact List.perm_append_comm_assoc _ _ _
    refine List.Perm.trans ?_ e2.symm
    refine List.Perm.append_left _ ?_
    refine (List.Perm.append_left _ hout).trans ?_
    refine (List.perm_append_comm_assoc _ _ _).trans ?_
    exact List.Perm.append_left _ key
theorem both_to (T : List TokR) : ∀ k, Both (tagTo T k) (nestTo T k) (refTo T k)
  | 0 => ⟨rfl, rfl, rfl, rfl, (fun h => by cases h), by simp [tagTo, nestTo, refTo]⟩
  | k + 1 => by
    have ih := both_to T k
    cases hx : T[k]? with
    | none => simp only [tagTo, nestTo, refTo, hx]; exact ih
    | some t =>
      rw [tagTo_succ hx, nestTo_succ hx, refTo_succ hx]
      unfold refStep
      by_cases h3 : t.kind = 3
      · have h2 : ¬ t.kind = 2 := by omega
        rw [if_pos h3]
        unfold tagStep nestStep
        rw [if_neg h2, if_neg (fun e => h2 e.1), if_pos h3]
        exact ih.close t
      · rw [if_neg h3]
        by_cases h2 : t.kind = 2
        · rw [if_pos h2]
          exact ih.open_ T k t h2
        · rw [if_neg h2]
          unfold tagStep nestStep
          rw [if_neg h2, if_neg (fun e => h2 e.1), if_neg h3]
          exact ih
theorem faults_perm (T : List TokR) : (tagEnd (tagTo T T.length) ++ nestEnd (nestTo T T.length)).Perm (refEnd (refTo T T.length)) := by
  have h := both_to T T.length
  generalize tagTo T T.length = A at h ⊢
  generalize nestTo T T.length = N at h ⊢
  generalize refTo T T.length = R at h ⊢
  unfold tagEnd nestEnd refEnd
  rw [h.op]
  have e1 : (A.out ++ (if A.titled = true then [] else [(⟨0, 6⟩ : FaultR)]) ++ (N.out ++ unclosed R.open_)).Perm ((if A.titled = true then [] else [(⟨0, 6⟩ : FaultR)]) ++ ((A.out ++ N.out) ++ unclosed R.open_)) := by
    simp only [List.append_assoc]
    exact List.perm_append_comm_assoc _ _ _
  refine e1.trans ((List.Perm.append_left _ (h.out.append_right _)).trans ?_)
  have key : ((if A.titled = true then [] else [(⟨0, 6⟩ : FaultR)]) ++ (if R.seen = true ∧ R.titled = false then [(⟨0, 6⟩ : FaultR)] else [])) = (if R.titled = true then [] else [(⟨0, 6⟩ : FaultR)]) := by
    have hs := h.seen
    have hg := h.good
    cases h1 : R.seen <;> cases h2 : R.titled <;> simp_all
  rw [← key]
  generalize (if A.titled = true then [] else [(⟨0, 6⟩ : FaultR)]) = x
  generalize (if R.seen = true ∧ R.titled = false then [(⟨0, 6⟩ : FaultR)] else []) = y
  simp only [List.append_assoc]
  refine (List.perm_append_comm_assoc _ _ _).trans ?_
  refine List.Perm.append_left _ ?_
  rw [← List.append_assoc x y]
  exact List.perm_append_comm

/-- the order of faults -/
def faLt (x y : FaultR) : Bool := decide (x.at_ < y.at_) || (decide (x.at_ = y.at_) && decide (x.kind < y.kind))
def FaLe (x y : FaultR) : Prop := faLt y x = false
theorem faLe_iff (x y : FaultR) : FaLe x y ↔ (x.at_ < y.at_ ∨ (x.at_ = y.at_ ∧ x.kind ≤ y.kind)) := by
  unfold FaLe faLt
  simp only [Bool.or_eq_false_iff, Bool.and_eq_false_iff, decide_eq_false_iff_not]
  omega
theorem faLe_trans (a b c : FaultR) (h1 : FaLe a b) (h2 : FaLe b c) : FaLe a c := by
  rw [faLe_iff] at *; omega
theorem faLe_anti {a b : FaultR} (h1 : FaLe a b) (h2 : FaLe b a) : a = b := by
  rw [faLe_iff] at *
  obtain ⟨a1, a2⟩ := a; obtain ⟨b1, b2⟩ := b
  simp only at h1 h2
  have e1 : a1 = b1 := by omega
  have e2 : a2 = b2 := by omega
  rw [e1, e2]
theorem faLt_le {a b : FaultR} (h : faLt a b = true) : FaLe a b := by
  rw [faLe_iff]
  unfold faLt at h
  simp only [Bool.or_eq_true, Bool.and_eq_true, decide_eq_true_eq] at h
  omega
theorem faults_unique : ∀ {l1 l2 : List FaultR}, l1.Pairwise FaLe → l2.Pairwise FaLe → l1.Perm l2 → l1 = l2
  | [], l2, _, _, hp => by rw [List.nil_perm.1 hp]
  | a :: r, [], _, _, hp => by cases List.perm_nil.1 hp
  | a :: r, b :: q, h1, h2, hp => by
    obtain ⟨h1a, h1r⟩ := List.pairwise_cons.1 h1
    obtain ⟨h2b, h2q⟩ := List.pairwise_cons.1 h2
    have hab : a = b := by
      have ha : a ∈ b :: q := hp.mem_iff.1 (List.mem_cons_self ..)
      have hb : b ∈ a :: r := hp.mem_iff.2 (List.mem_cons_self ..)
      rcases List.mem_cons.1 ha with e | ha
      · exact e
      · rcases List.mem_cons.1 hb with e | hb
        · exact e.symm
        · exact faLe_anti (h1a b hb) (h2b a ha)
    subst hab
    rw [faults_unique h1r h2q (List.Perm.cons_inv hp)]

end Go.Proofs.YtbhildmalcfhiaaGreatDoor

namespace Go.Proofs.YtbhildmalcfhiaaGreatDoor
open Go.RowKit Go.Deep

theorem trimG_q (s : ByteArray) (w : World) (hs : s.size ≤ 9223372036854775807) : Calls Tryz.prog 98 #[.string s, .string ⟨#[32, 9, 10]⟩] w fun e w' => e = .returned (.string ⟨(trimG s).toArray⟩) ∧ Below w.heap.size w w' :=
  Any.strings_Trim_laid Tryz.lays160 (by kernel_rfl) s ⟨#[32, 9, 10]⟩ w hs (by decide) (ascii_of_all (by decide))
theorem blank_z {s z : ByteArray} {b : Bool} (hz : (⟨(trimG s).toArray⟩ : ByteArray) = z) (hb : blankB s = b) : z.toList.isEmpty = b ∧ (z.toList == []) = b := by
  subst hz
  rw [Go.ByteArray.toList_eq, ← hb, blankB]
  refine ⟨rfl, ?_⟩
  cases trimG s <;> rfl
set_option maxHeartbeats 1000000 in
theorem blank_q (s : ByteArray) (b : Bool) (w : World) (hs : s.size ≤ 9223372036854775807) (hb : blankB s = b) : Calls Tryz.prog 60 #[.string s] w fun e w' => e = .returned (.bool b) ∧ Below w.heap.size w w' := by
  obtain ⟨z, hz⟩ : ∃ z, (⟨(trimG s).toArray⟩ : ByteArray) = z := ⟨_, rfl⟩
  obtain ⟨e1, e2⟩ := blank_z hz hb
  have HZ := Lib.hid hz; clear hz hb
  go_enter Tryz.func60, Tryz.ntmps60
  go_wp2_with (go_at_call 98; go_must (refine (trimG_q s _ hs).mono ?_); rintro e w1 ⟨rfl, hb1⟩; rw [HZ.out]; have HB1 := Lib.hid hb1; clear hb1)
  go_ret
  exact ⟨rfl, HB1.out⟩
set_option maxHeartbeats 1000000 in
theorem trimGaps_q (s : ByteArray) (w : World) (hs : s.size ≤ 9223372036854775807) : Calls Tryz.prog 110 #[.string s] w fun e w' => e = .returned (.string ⟨(trimG s).toArray⟩) ∧ Below w.heap.size w w' := by
  go_enter Tryz.func110, Tryz.ntmps110
  go_wp2_with (go_at_call 98; go_must (refine (trimG_q s _ hs).mono ?_); rintro e w1 ⟨rfl, hb1⟩; have HB1 := Lib.hid hb1; clear hb1)
  go_ret
  exact ⟨rfl, HB1.out⟩
set_option maxHeartbeats 1000000 in
theorem blankR_q (s : ByteArray) (b : Bool) (w : World) (hs : s.size ≤ 9223372036854775807) (hb : blankB s = b) : Calls Tryz.prog 70 #[.string s] w fun e w' => e = .returned (.bool b) ∧ Below w.heap.size w w' := by
  obtain ⟨z, hz⟩ : ∃ z, (⟨(trimG s).toArray⟩ : ByteArray) = z := ⟨_, rfl⟩
  obtain ⟨e1, e2⟩ := blank_z hz hb
  have HZ := Lib.hid hz; clear hz hb
  go_enter Tryz.func70, Tryz.ntmps70
  go_wp2_with (go_at_call 110; go_must (refine (trimGaps_q s _ hs).mono ?_); rintro e w1 ⟨rfl, hb1⟩; rw [HZ.out]; have HB1 := Lib.hid hb1; clear hb1)
  go_ret
  exact ⟨rfl, HB1.out⟩

set_option maxRecDepth 100000 in
set_option maxHeartbeats 4000000 in
theorem isVoid_q (s : ByteArray) (b : Bool) (w : World) (hb : voidB s = b) : Calls Tryz.prog 62 #[.string s] w fun e w' => e = .returned (.bool b) ∧ w = w' := by
  subst hb
  by_cases h0 : s = ⟨#[97, 114, 101, 97]⟩
  · subst h0
    go_enter Tryz.func62, Tryz.ntmps62
    go_wp2_with fail
    go_ret
    exact ⟨rfl, rfl⟩
  by_cases h1 : s = ⟨#[98, 97, 115, 101]⟩
  · subst h1
    go_enter Tryz.func62, Tryz.ntmps62
    go_wp2_with fail
    go_ret
    exact ⟨rfl, rfl⟩
  by_cases h2 : s = ⟨#[98, 114]⟩
  · subst h2
    go_enter Tryz.func62, Tryz.ntmps62
    go_wp2_with fail
    go_ret
    exact ⟨rfl, rfl⟩
  by_cases h3 : s = ⟨#[99, 111, 108]⟩
  · subst h3
    go_enter Tryz.func62, Tryz.ntmps62
    go_wp2_with fail
    go_ret
    exact ⟨rfl, rfl⟩
  by_cases h4 : s = ⟨#[101, 109, 98, 101, 100]⟩
  · subst h4
    go_enter Tryz.func62, Tryz.ntmps62
    go_wp2_with fail
    go_ret
    exact ⟨rfl, rfl⟩
  by_cases h5 : s = ⟨#[104, 114]⟩
  · subst h5
    go_enter Tryz.func62, Tryz.ntmps62
    go_wp2_with fail
    go_ret
    exact ⟨rfl, rfl⟩
  by_cases h6 : s = ⟨#[105, 109, 103]⟩
  · subst h6
    go_enter Tryz.func62, Tryz.ntmps62
    go_wp2_with fail
    go_ret
    exact ⟨rfl, rfl⟩
  by_cases h7 : s = ⟨#[105, 110, 112, 117, 116]⟩
  · subst h7
    go_enter Tryz.func62, Tryz.ntmps62
    go_wp2_with fail
    go_ret
    exact ⟨rfl, rfl⟩
  by_cases h8 : s = ⟨#[108, 105, 110, 107]⟩
  · subst h8
    go_enter Tryz.func62, Tryz.ntmps62
    go_wp2_with fail
    go_ret
    exact ⟨rfl, rfl⟩
  by_cases h9 : s = ⟨#[109, 101, 116, 97]⟩
  · subst h9
    go_enter Tryz.func62, Tryz.ntmps62
    go_wp2_with fail
    go_ret
    exact ⟨rfl, rfl⟩
  by_cases h10 : s = ⟨#[115, 111, 117, 114, 99, 101]⟩
  · subst h10
    go_enter Tryz.func62, Tryz.ntmps62
    go_wp2_with fail
    go_ret
    exact ⟨rfl, rfl⟩
  by_cases h11 : s = ⟨#[116, 114, 97, 99, 107]⟩
  · subst h11
    go_enter Tryz.func62, Tryz.ntmps62
    go_wp2_with fail
    go_ret
    exact ⟨rfl, rfl⟩
  by_cases h12 : s = ⟨#[119, 98, 114]⟩
  · subst h12
    go_enter Tryz.func62, Tryz.ntmps62
    go_wp2_with fail
    go_ret
    exact ⟨rfl, rfl⟩
  have n0 : (s.toList == [97, 114, 101, 97]) = false := nm_ne' h0
  have n1 : (s.toList == [98, 97, 115, 101]) = false := nm_ne' h1
  have n2 : (s.toList == [98, 114]) = false := nm_ne' h2
  have n3 : (s.toList == [99, 111, 108]) = false := nm_ne' h3
  have n4 : (s.toList == [101, 109, 98, 101, 100]) = false := nm_ne' h4
  have n5 : (s.toList == [104, 114]) = false := nm_ne' h5
  have n6 : (s.toList == [105, 109, 103]) = false := nm_ne' h6
  have n7 : (s.toList == [105, 110, 112, 117, 116]) = false := nm_ne' h7
  have n8 : (s.toList == [108, 105, 110, 107]) = false := nm_ne' h8
  have n9 : (s.toList == [109, 101, 116, 97]) = false := nm_ne' h9
  have n10 : (s.toList == [115, 111, 117, 114, 99, 101]) = false := nm_ne' h10
  have n11 : (s.toList == [116, 114, 97, 99, 107]) = false := nm_ne' h11
  have n12 : (s.toList == [119, 98, 114]) = false := nm_ne' h12
  have HV := Lib.hid (show voidB s = false by
    rw [Go.ByteArray.toList_eq] at n0 n1 n2 n3 n4 n5 n6 n7 n8 n9 n10 n11 n12
    unfold voidB voids
    simp only [List.contains_cons, List.contains_nil, n0, n1, n2, n3, n4, n5, n6, n7, n8, n9, n10, n11, n12, Bool.or_false])
  clear h0 h1 h2 h3 h4 h5 h6 h7 h8 h9 h10 h11 h12
  go_enter Tryz.func62, Tryz.ntmps62
  go_wp2_with fail
  go_ret
  exact ⟨ret_bool HV.out.symm, rfl⟩

set_option maxRecDepth 100000 in
set_option maxHeartbeats 2000000 in
theorem contains_q (L : List (List UInt8)) (v : Value) (s : ByteArray) (b : Bool) (w : World) (h : OnesAt w v (strCells L)) (hb : L.contains s.data.toList = b) :
    Calls Tryz.prog 69 #[v, .string s] w fun e w' => e = .returned (.bool b) ∧ Below w.heap.size w w' := by
  obtain ⟨A, c, g, o, rfl, hlc, hc, hA, hcell⟩ := h
  simp only [strCells, List.length_map] at *
  have HA := Lib.hid hA; have HC := Lib.hid hcell; clear hA hcell
  have HB := Lib.hid hb; clear hb
  unfold maxLen at hc
  go_enter Tryz.func69, Tryz.ntmps69
  go_wp2_with fail
  go_loopw [9] (fun i wr => ∃ k q : Nat, k ≤ L.length ∧ i = .int .i64 k ∧ wr = w.drewN q ∧ Hid (L.contains s.data.toList = (L.drop k).contains s.data.toList)) (fun i _ => L.length - (intOf i).toNat)
  case atStart => exact ⟨0, 0, Nat.zero_le _, rfl, rfl, rfl⟩
  case round =>
    obtain ⟨k, q, hk, rfl, rfl, HS⟩ := hrel
    by_cases hlt : k < L.length
    · obtain rfl := HA.out (by intro h; simp only [List.map_eq_nil_iff] at h; rw [h] at hlt; simp at hlt)
      obtain ⟨x, hx⟩ : ∃ x, L[k]? = some x := ⟨_, List.getElem?_eq_getElem hlt⟩
      have p0 := HC.out k (.string ⟨x.toArray⟩) (by rw [List.getElem?_map, hx]; rfl)
      have HD := Lib.hid (show L.drop k = x :: L.drop (k + 1) by obtain ⟨h1, rfl⟩ := List.getElem?_eq_some_iff.1 hx; exact List.drop_eq_getElem_cons h1)
      clear hx
      by_cases hn : s = ⟨x.toArray⟩
      · have HF := Lib.hid (show b = true by rw [← HB.out, HS.out, HD.out, hn]; simp)
        have hs1 : (s.toList == x) = true := nm_eq' hn
        clear hn
        go_wp2_with fail
        go_ret
        exact ⟨ret_bool HF.out.symm, Below.drewN' (Below.refl _ _) _⟩
      · have hs1 : (s.toList == x) = false := nm_ne' hn
        have HS2 := Lib.hid (show L.contains s.data.toList = (L.drop (k + 1)).contains s.data.toList by
          rw [HS.out, HD.out, List.contains_cons]
          rw [show (s.data.toList == x) = false from beq_eq_false_iff_ne.2 (fun e => hn (Go.WideShapes.bytes_inj (by rw [e]))), Bool.false_or])
        clear hn
        go_wp2_with fail
        go_roundw
        case rel => exact ⟨k + 1, q, by omega, by go_num, rfl, HS2⟩
        case measure => simp [intOf]; omega
    · have HF := Lib.hid (show b = false by rw [← HB.out, HS.out, List.drop_eq_nil_of_le (by omega)]; rfl)
      go_wp2_with fail
      go_ret
      exact ⟨ret_bool HF.out.symm, Below.drewN' (Below.refl _ _) _⟩
def voidS : ByteArray := ⟨#[97, 114, 101, 97, 32, 98, 97, 115, 101, 32, 98, 114, 32, 99, 111, 108, 32, 101, 109, 98, 101, 100, 32, 104, 114, 32, 105, 109, 103, 32, 105, 110, 112, 117, 116, 32, 108, 105, 110, 107, 32, 109, 101, 116, 97, 32, 115, 111, 117, 114, 99, 101, 32, 116, 114, 97, 99, 107, 32, 119, 98, 114]⟩
theorem void_list : (Lib.splitB ⟨#[32]⟩ 0 (Lib.countB voidS ⟨#[32]⟩) voidS).map Value.string = strCells voids := by kernel_rfl
theorem void_count : Lib.countB voidS ⟨#[32]⟩ = 12 := by kernel_rfl
set_option maxRecDepth 100000 in
set_option maxHeartbeats 1000000 in
theorem voidR_q (s : ByteArray) (b : Bool) (w : World) (hm : MaxAt w) (hb : voidB s = b) : Calls Tryz.prog 72 #[.string s] w fun e w' => e = .returned (.bool b) ∧ Below w.heap.size w w' := by
  obtain ⟨m, hm⟩ := hm
  have hsp := Tryz.strings_Split voidS ⟨#[32]⟩ m w (by decide) hm (by decide)
  rw [void_list, void_count] at hsp
  have HSP := Lib.hid hsp; clear hsp hm
  have HO := Lib.hid (show OnesAt (w.alloc (.cells (strCells voids).toArray 9)) (.slice (some ⟨w.heap.size, 0, none⟩) 13 13) (strCells voids) from
    ⟨some ⟨w.heap.size, 0, none⟩, 13, w.heap.size, 0, rfl, by decide, by unfold maxLen; omega, fun _ => rfl, fun i x hx => by rw [Nat.zero_add]; exact cell_new w (strCells voids) 9 _ rfl i x hx⟩)
  go_enter Tryz.func72, Tryz.ntmps72
  go_wp2_with (first
    | (go_at_call 54; go_must (refine HSP.out.mono ?_); rintro e w1 ⟨rfl, rfl⟩)
    | (go_at_call 69; go_must (refine (contains_q voids _ s b _ HO.out hb).mono ?_); rintro e w2 ⟨rfl, hb2⟩; have HB2 := Lib.hid (((Below.refl w.heap.size w).alloc (Nat.le_refl _) _).trans (hb2.mono (by simp))); clear hb2))
  go_ret
  exact ⟨rfl, HB2.out⟩

end Go.Proofs.YtbhildmalcfhiaaGreatDoor

namespace Go.Proofs.YtbhildmalcfhiaaGreatDoor
open Go.RowKit Go.Deep

theorem emptyL_close {t : TokR} {r : List TokR} (h : t.kind = 3) (hn : t.name = aN) : emptyL (t :: r) = true := by rw [emptyL, if_pos ⟨h, hn⟩]
theorem emptyL_chars {t : TokR} {r : List TokR} (h : t.kind = 1) (hb : blankB t.text = false) : emptyL (t :: r) = false := by rw [emptyL, if_neg (fun e => by have := e.1; omega), if_pos ⟨h, hb⟩]
theorem emptyL_img {t : TokR} {r : List TokR} (h : t.kind = 2) (hn : t.name = imgN) (ha : (attrS altN t.atts).data.toList ≠ []) : emptyL (t :: r) = false := by rw [emptyL, if_neg (fun e => by have := e.1; omega), if_neg (fun e => by have := e.1; omega), if_pos ⟨h, hn, ha⟩]
theorem emptyL_on3 {t : TokR} {r : List TokR} (h : t.kind = 3) (hn : t.name ≠ aN) : emptyL (t :: r) = emptyL r := by rw [emptyL, if_neg (fun e => hn e.2), if_neg (fun e => by have := e.1; omega), if_neg (fun e => by have := e.1; omega)]
theorem emptyL_on1 {t : TokR} {r : List TokR} (h : t.kind = 1) (hn : blankB t.text = true) : emptyL (t :: r) = emptyL r := by rw [emptyL, if_neg (fun e => by have := e.1; omega), if_neg (fun e => by rw [hn] at e; cases e.2), if_neg (fun e => by have := e.1; omega)]
theorem emptyL_on2 {t : TokR} {r : List TokR} (h : t.kind = 2) (hn : t.name ≠ imgN) : emptyL (t :: r) = emptyL r := by rw [emptyL, if_neg (fun e => by have := e.1; omega), if_neg (fun e => by have := e.1; omega), if_neg (fun e => hn e.2.1)]
theorem emptyL_on2e {t : TokR} {r : List TokR} (h : t.kind = 2) (hn : (attrS altN t.atts).data.toList = []) : emptyL (t :: r) = emptyL r := by rw [emptyL, if_neg (fun e => by have := e.1; omega), if_neg (fun e => by have := e.1; omega), if_neg (fun e => e.2.2 hn)]
theorem emptyL_on {t : TokR} {r : List TokR} (h3 : ¬ (t.kind = 3 ∧ t.name = aN)) (h1 : ¬ (t.kind = 1 ∧ blankB t.text = false)) (h2 : ¬ (t.kind = 2 ∧ t.name = imgN ∧ (attrS altN t.atts).data.toList ≠ [])) : emptyL (t :: r) = emptyL r := by rw [emptyL, if_neg h3, if_neg h1, if_neg h2]
theorem tdrop_at {L : List (TokR × Value)} {k : Nat} {x : TokR × Value} (h : L[k]? = some x) : (L.map (·.1)).drop k = x.1 :: (L.map (·.1)).drop (k + 1) := by
  obtain ⟨hk, rfl⟩ := List.getElem?_eq_some_iff.1 h
  rw [List.drop_eq_getElem_cons (by simpa using hk)]
  simp
theorem ToksIn.keepB {w w' : World} {v : Value} {L : List (TokR × Value)} (h : ToksIn w v L) (hb : Below w.heap.size w w') : ToksIn w' v L := h.keep (Keeps.of_below hb)
theorem AttsAt.below {w w' : World} {v : Value} {L : List AttrR} (h : AttsAt w v L) (hb : Below w.heap.size w w') : AttsAt w' v L := h.keep (Keeps.of_below hb)
theorem toksF_text (s : ByteArray) : ∀ (f i a : Nat) (t : TokR), t ∈ toksF s f i a → t.text.size ≤ s.size := by
  have hx : ∀ a b, (s.extract a b).size ≤ s.size := fun a b => by rw [ByteArray.size_extract]; omega
  have hc : ∀ a b t, t ∈ charsL s a b → t.text.size ≤ s.size := fun a b t h => by
    unfold charsL at h
    split at h
    · simp at h; subst h; exact hx _ _
    · simp at h
  have ht : ∀ i, (tokAt s i).1.text.size ≤ s.size := fun i => by
    unfold tokAt
    split
    · exact hx _ _
    · exact hx _ _
    · exact Nat.zero_le _
    · exact Nat.zero_le _
    · exact Nat.zero_le _
  intro f
  induction f with
  | zero => exact fun i a t h => hc _ _ t h
  | succ f ih =>
    intro i a t h
    rw [toksF] at h
    split at h
    · split at h
      · exact ih _ _ t h
      · rcases List.mem_append.1 h with h | h
        · rcases List.mem_append.1 h with h | h
          · exact hc _ _ t h
          · unfold tokL at h
            rcases List.mem_cons.1 h with rfl | h
            · exact ht i
            · split at h
              · exact hc _ _ t h
              · simp at h
        · exact ih _ _ t h
    · exact hc _ _ t h
theorem tokR_text {s : ByteArray} {t : TokR} (h : t ∈ tokR s) : t.text.size ≤ 200000 := by
  unfold tokR at h
  split at h
  · rename_i h1
    have := toksF_text s _ _ _ t h
    unfold tokE at h1
    split at h1
    · cases h1
    · omega
  · simp at h

theorem ToksIn.cells {w : World} {At : Option Addr} {ct b k : Nat} {L : List (TokR × Value)} {x : TokR × Value} (h : ToksIn w (.slice At L.length ct) L) (hA : L ≠ [] → At = some ⟨b, 0, none⟩) (hx : L[k]? = some x) :
    AttsAt w x.2 x.1.atts ∧ ∀ j u, (tokRow x)[j]? = some u → w.cell? ⟨b, k * 5 + j, none⟩ = some u := by
  obtain ⟨A', c', b', he, _, _, hA', hc⟩ := h
  have hne : L ≠ [] := by intro e; rw [e] at hx; simp at hx
  have h1 := hA hne
  have h2 := hA' hne
  cases he
  rw [h1] at h2
  cases h2
  exact hc k x hx
theorem AttsAt.cells {w : World} {Ax : Option Addr} {cx b k : Nat} {l : List AttrR} {x : AttrR} (h : AttsAt w (.slice Ax l.length cx) l) (hA : l ≠ [] → Ax = some ⟨b, 0, none⟩) (hx : l[k]? = some x) :
    w.cell? ⟨b, k * 2, none⟩ = some (.string x.name) ∧ w.cell? ⟨b, k * 2 + 1, none⟩ = some (.string x.value) := by
  obtain ⟨A', c', b', he, _, _, hA', hc⟩ := h
  have hne : l ≠ [] := by intro e; rw [e] at hx; simp at hx
  have h1 := hA hne
  have h2 := hA' hne
  cases he
  rw [h1] at h2
  cases h2
  exact hc k x hx
theorem ToksIn.shape {w : World} {v : Value} {L : List (TokR × Value)} (h : ToksIn w v L) : ∃ (At : Option Addr) (ct b : Nat), v = .slice At L.length ct ∧ L.length ≤ ct ∧ ct ≤ 9223372036854775807 ∧ (L ≠ [] → At = some ⟨b, 0, none⟩) := by
  obtain ⟨A, c, b, h1, h2, h3, h4, _⟩ := h
  exact ⟨A, c, b, h1, h2, by unfold maxLen at h3; omega, h4⟩
theorem AttsAt.shape {w : World} {v : Value} {l : List AttrR} (h : AttsAt w v l) : ∃ (At : Option Addr) (ct b : Nat), v = .slice At l.length ct ∧ l.length ≤ ct ∧ ct ≤ 9223372036854775807 ∧ (l ≠ [] → At = some ⟨b, 0, none⟩) := by
  obtain ⟨A, c, b, h1, h2, h3, h4, _⟩ := h
  exact ⟨A, c, b, h1, h2, by unfold maxLen at h3; omega, h4⟩

set_option maxRecDepth 100000 in
set_option maxHeartbeats 2000000 in
theorem attrOf_q (kd : Int) (at0 : Nat) (nm tx : ByteArray) (av : Value) (l : List AttrR) (n v : ByteArray) (b : Bool) (w : World) (h : AttsAt w av l) (hv : attrS n l = v) (hb : (attrV n l).isSome = b) :
    Calls Tryz.prog 68 #[.agg #[.int .i64 kd, .int .i64 (at0 : Int), .string nm, .string tx, av], .string n] w fun e w' => e = .returned (.tuple #[.string v, .bool b]) ∧ Below w.heap.size w w' := by
  have HK := Lib.hid (fun wr (hb : Below w.heap.size w wr) => h.keep (Keeps.of_below hb))
  obtain ⟨A, c, g, rfl, hlc, hc, hA, hcell⟩ := h
  have HA := Lib.hid hA; have HC := Lib.hid hcell; clear hA hcell
  have HV := Lib.hid hv; have HB := Lib.hid hb; clear hv hb
  unfold maxLen at hc
  have HB0 := Lib.hid (Below.refl w.heap.size w)
  go_enter Tryz.func68, Tryz.ntmps68
  go_wp2_with fail
  go_loopw [11] (fun i wr => ∃ k : Nat, k ≤ l.length ∧ i = .int .i64 k ∧ Hid (Below w.heap.size w wr) ∧ Hid (attrV n l = attrV n (l.drop k))) (fun i _ => l.length - (intOf i).toNat)
  case atStart => exact ⟨0, Nat.zero_le _, rfl, HB0.out.alloc (Nat.le_refl _) _, rfl⟩
  case round =>
    clear HB0
    obtain ⟨k, hk, rfl, HBr, HS⟩ := hrel
    by_cases hlt : k < l.length
    · obtain rfl := HA.out (by intro h; rw [h] at hlt; simp at hlt)
      obtain ⟨x, hx⟩ : ∃ x, l[k]? = some x := ⟨_, List.getElem?_eq_getElem hlt⟩
      obtain ⟨p0, p1⟩ := HC.out k x hx
      have kb := Keeps.of_below HBr.out
      have p0 := kb _ _ p0
      have p1 := kb _ _ p1
      clear kb
      by_cases hn : x.name = n
      · have HV2 := Lib.hid (HS.out.trans (attr_hit hx hn))
        clear hx
        subst hn
        go_wp2_with fail
        go_ret2
        refine ⟨?_, HBr.out.alloc (by have := HBr.out.size; omega) _⟩
        rw [← HV.out, ← HB.out, attrS, HV2.out]; rfl
      · have HS2 := Lib.hid (HS.out.trans (attr_miss hx hn))
        have hs1 := nm_ne hn
        clear hx hn
        go_wp2_with fail
        go_roundw
        case rel => exact ⟨k + 1, by omega, by go_num, HBr.out.alloc (by have := HBr.out.size; omega) _, HS2⟩
        case measure => simp [intOf]; omega
    · have HS2 := Lib.hid (HS.out.trans (attr_end (by omega)))
      go_wp2_with fail
      go_ret2
      refine ⟨?_, HBr.out⟩
      rw [← HV.out, ← HB.out, attrS, HS2.out]; rfl

set_option maxRecDepth 100000 in
set_option maxHeartbeats 8000000 in
theorem emptyLink_q (jb : Nat) (pa : ByteArray) (fv : Value) (T : List (TokR × Value)) (At : Option Addr) (ct b i : Nat) (r : Bool) (w : World) (hJ : CB w jb 71 #[.string pa, .slice At T.length ct, fv]) (hT : ToksIn w (.slice At T.length ct) T) (hA : At = some ⟨b, 0, none⟩) (hi : i < T.length) (hc : T.length ≤ ct) (hcm : ct ≤ 9223372036854775807) (hx : ∀ x ∈ T, x.1.text.size ≤ 1048576) (hr : emptyL ((T.map (·.1)).drop (i + 1)) = r) :
    Calls Tryz.prog 61 #[.pointer (some ⟨jb, 0, none⟩), .int .i64 (i : Int)] w fun e w' => e = .returned (.bool r) ∧ Below w.heap.size w w' := by
  subst hA
  have HT := Lib.hid hT; clear hT
  have HX := Lib.hid hx; clear hx
  have HR := Lib.hid hr; clear hr
  have HB0 := Lib.hid (Below.refl w.heap.size w)
  have b1 : w.cell? ⟨jb, 1, none⟩ = some (.slice (some ⟨b, 0, none⟩) T.length ct) := hJ.c 1
  have bl := hJ.lt
  have hi1 : (i : Int) + 1 ≤ (T.length : Int) := by omega
  have hi2 : (i : Int) + 1 ≤ (ct : Int) := by omega
  have hi0 : (0 : Int) ≤ (i : Int) + 1 := by omega
  go_enter Tryz.func61, Tryz.ntmps61
  go_wp2_with fail
  all_goals
    go_loopw [17] (fun t wr => ∃ k : Nat, k ≤ T.length - (i + 1) ∧ t = .int .i64 k ∧ Hid (Below w.heap.size w wr) ∧ Hid (emptyL ((T.map (·.1)).drop (i + 1)) = emptyL ((T.map (·.1)).drop (i + 1 + k)))) (fun t _ => (T.length - (i + 1)) - (intOf t).toNat)
    case atStart => exact ⟨0, Nat.zero_le _, rfl, HB0, rfl⟩
    case round =>
      clear HB0
      obtain ⟨k, hk, rfl, HB, HS⟩ := hrel
      obtain ⟨wo, rfl⟩ : ∃ wo : World, wo = wr := ⟨_, rfl⟩
      have hww : w.heap.size ≤ wo.heap.size := HB.out.size
      by_cases hlt : k < T.length - (i + 1)
      · first
        | (exfalso; omega)
        | (obtain ⟨x, hx⟩ : ∃ x, T[i + 1 + k]? = some x := ⟨_, List.getElem?_eq_getElem (by omega)⟩
           have HS2 := Lib.hid (HS.out.trans (by rw [tdrop_at hx]))
           have htx := HX.out x (List.mem_of_getElem? hx)
           obtain ⟨hxa, hxc⟩ := (HT.out.keepB HB.out).cells (fun _ => rfl) hx
           clear hx
           obtain ⟨⟨kd, at0, nm, tx, atts⟩, av⟩ := x
           have HXA := Lib.hid hxa
           obtain ⟨Ax, cx, bx, hxv, _⟩ := hxa
           simp only at hxv HXA HS2 htx
           subst hxv
           have p0 := hxc 0 _ rfl
           have p1 := hxc 1 _ rfl
           have p2 := hxc 2 _ rfl
           have p3 := hxc 3 _ rfl
           have p4 := hxc 4 _ rfl
           simp only [Nat.add_zero] at p0
           rw [show (i + 1 + k) * 5 = (i + 1) * 5 + k * 5 by omega] at p0 p1 p2 p3 p4
           clear hxc
           by_cases k3 : kd = 3
           · subst k3
             by_cases hn : nm = aN
             · have HS3 := Lib.hid (HR.out.symm.trans (HS2.out.trans (emptyL_close rfl hn)))
               have z1 : (nm.toList == [97]) = true := nm_eq' hn
               clear hn
               go_wp2_with fail
               go_ret
               exact ⟨ret_bool HS3.out.symm, HB.out.alloc hww _⟩
             · have HS3 := Lib.hid (HS2.out.trans (emptyL_on3 rfl hn))
               have z1 : (nm.toList == [97]) = false := nm_ne' hn
               clear hn
               go_wp2_with fail
               go_roundw
               case rel => exact ⟨k + 1, by omega, by go_num, HB.out.alloc hww _, HS3⟩
               case measure => simp [intOf]; omega
           by_cases k1 : kd = 1
           · subst k1
             clear k3
             obtain ⟨bb, hbl⟩ : ∃ b, blankB tx = b := ⟨_, rfl⟩
             have HBl := Lib.hid hbl
             cases bb with
             | false =>
               have HS3 := Lib.hid (HR.out.symm.trans (HS2.out.trans (emptyL_chars rfl hbl)))
               clear hbl
               go_wp2_with (go_at_call 60; go_must (refine (blank_q tx false _ (by omega) HBl.out).mono ?_); rintro e w2 ⟨rfl, hb2⟩; have HX2 := Lib.hid ((CB.new wo #[.int .i64 1, .int .i64 (at0 : Int), .string nm, .string tx, .slice Ax atts.length cx] 56).below hb2); have x0 : w2.cell? ⟨wo.heap.size, 0, none⟩ = some (.int .i64 1) := HX2.out.c 0; have x2 : w2.cell? ⟨wo.heap.size, 2, none⟩ = some (.string nm) := HX2.out.c 2; have xl := HX2.out.lt; have HB2 := Lib.hid ((HB.out.alloc hww _).trans (hb2.mono (by simp; omega))); clear hb2)
               go_ret
               exact ⟨ret_bool HS3.out.symm, HB2.out⟩
             | true =>
               have HS3 := Lib.hid (HS2.out.trans (emptyL_on1 rfl hbl))
               clear hbl
               go_wp2_with (go_at_call 60; go_must (refine (blank_q tx true _ (by omega) HBl.out).mono ?_); rintro e w2 ⟨rfl, hb2⟩; have HX2 := Lib.hid ((CB.new wo #[.int .i64 1, .int .i64 (at0 : Int), .string nm, .string tx, .slice Ax atts.length cx] 56).below hb2); have x0 : w2.cell? ⟨wo.heap.size, 0, none⟩ = some (.int .i64 1) := HX2.out.c 0; have x2 : w2.cell? ⟨wo.heap.size, 2, none⟩ = some (.string nm) := HX2.out.c 2; have xl := HX2.out.lt; have HB2 := Lib.hid ((HB.out.alloc hww _).trans (hb2.mono (by simp; omega))); clear hb2)
               go_roundw
               case rel => exact ⟨k + 1, by omega, by go_num, HB2.out, HS3⟩
               case measure => simp [intOf]; omega
           by_cases k2 : kd = 2
           · subst k2
             clear k3 k1
             by_cases hn : nm = imgN
             · have z1 : (nm.toList == [105, 109, 103]) = true := nm_eq' hn
               obtain ⟨vv, hvv⟩ : ∃ v, attrS altN atts = v := ⟨_, rfl⟩
               obtain ⟨bb, hbb⟩ : ∃ v, (attrV altN atts).isSome = v := ⟨_, rfl⟩
               have HVV := Lib.hid hvv; have HBB := Lib.hid hbb
               clear hbb
               by_cases hne : vv.data.toList = []
               · obtain rfl := ba_empty hne
                 have HS3 := Lib.hid (HS2.out.trans (emptyL_on2e rfl (by rw [hvv])))
                 clear hvv hn hne
                 go_wp2_with (go_at_call 49; go_must (refine (attr_q 2 at0 nm tx _ atts altN ⟨#[]⟩ bb _ (HXA.out.keep (Keeps.alloc _ _)) HVV.out HBB.out).mono ?_); rintro e w2 ⟨rfl, hb2⟩; have HX2 := Lib.hid ((CB.new wo #[.int .i64 2, .int .i64 (at0 : Int), .string nm, .string tx, .slice Ax atts.length cx] 56).below hb2); have x0 : w2.cell? ⟨wo.heap.size, 0, none⟩ = some (.int .i64 2) := HX2.out.c 0; have x2 : w2.cell? ⟨wo.heap.size, 2, none⟩ = some (.string nm) := HX2.out.c 2; have xl := HX2.out.lt; have HB2 := Lib.hid ((HB.out.alloc hww _).trans (hb2.mono (by simp; omega))); clear hb2)
                 go_roundw
                 case rel => exact ⟨k + 1, by omega, by go_num, HB2.out, HS3⟩
                 case measure => simp [intOf]; omega
               · have HS3 := Lib.hid (HR.out.symm.trans (HS2.out.trans (emptyL_img rfl hn (by rw [hvv]; exact hne))))
                 have hne1 : (vv.toList == []) = false := by rw [Go.ByteArray.toList_eq]; exact beq_eq_false_iff_ne.2 hne
                 have hne2 : vv.toList.isEmpty = false := by rw [Go.ByteArray.toList_eq]; simpa using hne
                 have hne3 : ¬ vv.toList = [] := by rw [Go.ByteArray.toList_eq]; exact hne
                 clear hvv hn hne
                 go_wp2_with (go_at_call 49; go_must (refine (attr_q 2 at0 nm tx _ atts altN vv bb _ (HXA.out.keep (Keeps.alloc _ _)) HVV.out HBB.out).mono ?_); rintro e w2 ⟨rfl, hb2⟩; have HX2 := Lib.hid ((CB.new wo #[.int .i64 2, .int .i64 (at0 : Int), .string nm, .string tx, .slice Ax atts.length cx] 56).below hb2); have x0 : w2.cell? ⟨wo.heap.size, 0, none⟩ = some (.int .i64 2) := HX2.out.c 0; have x2 : w2.cell? ⟨wo.heap.size, 2, none⟩ = some (.string nm) := HX2.out.c 2; have xl := HX2.out.lt; have HB2 := Lib.hid ((HB.out.alloc hww _).trans (hb2.mono (by simp; omega))); clear hb2)
                 go_ret
                 exact ⟨ret_bool HS3.out.symm, HB2.out⟩
             · have HS3 := Lib.hid (HS2.out.trans (emptyL_on2 rfl hn))
               have z1 : (nm.toList == [105, 109, 103]) = false := nm_ne' hn
               clear hn
               go_wp2_with fail
               go_roundw
               case rel => exact ⟨k + 1, by omega, by go_num, HB.out.alloc hww _, HS3⟩
               case measure => simp [intOf]; omega
           have HS3 := Lib.hid (HS2.out.trans (emptyL_on (fun e => k3 e.1) (fun e => k1 e.1) (fun e => k2 e.1)))
           have z1 : (kd == 1) = false := beq_eq_false_iff_ne.2 k1
           have z2 : (kd == 2) = false := beq_eq_false_iff_ne.2 k2
           have z3 : (kd == 3) = false := beq_eq_false_iff_ne.2 k3
           clear k1 k2 k3
           go_wp2_with fail
           go_roundw
           case rel => exact ⟨k + 1, by omega, by go_num, HB.out.alloc hww _, HS3⟩
           case measure => simp [intOf]; omega)
      · have HS3 := Lib.hid (HR.out.symm.trans (HS.out.trans (by rw [List.drop_eq_nil_of_le (by simp; omega)]; rfl)) : r = true)
        go_wp2_with fail
        go_ret
        exact ⟨ret_bool HS3.out.symm, HB.out⟩

set_option maxRecDepth 100000 in
set_option maxHeartbeats 8000000 in
theorem emptyLinkR_q (T : List (TokR × Value)) (At : Option Addr) (ct b i : Nat) (r : Bool) (w : World) (hT : ToksIn w (.slice At T.length ct) T) (hA : At = some ⟨b, 0, none⟩) (hi : i < T.length) (hc : T.length ≤ ct) (hcm : ct ≤ 9223372036854775807) (hx : ∀ x ∈ T, x.1.text.size ≤ 1048576) (hr : emptyL ((T.map (·.1)).drop (i + 1)) = r) :
    Calls Tryz.prog 71 #[.slice At T.length ct, .int .i64 (i : Int)] w fun e w' => e = .returned (.bool r) ∧ Below w.heap.size w w' := by
  subst hA
  have HT := Lib.hid hT; clear hT
  have HX := Lib.hid hx; clear hx
  have HR := Lib.hid hr; clear hr
  have HB0 := Lib.hid (Below.refl w.heap.size w)
  have hi1 : (i : Int) + 1 ≤ (T.length : Int) := by omega
  have hi2 : (i : Int) + 1 ≤ (ct : Int) := by omega
  have hi0 : (0 : Int) ≤ (i : Int) + 1 := by omega
  go_enter Tryz.func71, Tryz.ntmps71
  go_wp2_with fail
  all_goals
    go_loopw [14] (fun t wr => ∃ k : Nat, k ≤ T.length - (i + 1) ∧ t = .int .i64 k ∧ Hid (Below w.heap.size w wr) ∧ Hid (emptyL ((T.map (·.1)).drop (i + 1)) = emptyL ((T.map (·.1)).drop (i + 1 + k)))) (fun t _ => (T.length - (i + 1)) - (intOf t).toNat)
    case atStart => exact ⟨0, Nat.zero_le _, rfl, HB0, rfl⟩
    case round =>
      clear HB0
      obtain ⟨k, hk, rfl, HB, HS⟩ := hrel
      obtain ⟨wo, rfl⟩ : ∃ wo : World, wo = wr := ⟨_, rfl⟩
      have hww : w.heap.size ≤ wo.heap.size := HB.out.size
      by_cases hlt : k < T.length - (i + 1)
      · first
        | (exfalso; omega)
        | (obtain ⟨x, hx⟩ : ∃ x, T[i + 1 + k]? = some x := ⟨_, List.getElem?_eq_getElem (by omega)⟩
           have HS2 := Lib.hid (HS.out.trans (by rw [tdrop_at hx]))
           have htx := HX.out x (List.mem_of_getElem? hx)
           obtain ⟨hxa, hxc⟩ := (HT.out.keepB HB.out).cells (fun _ => rfl) hx
           clear hx
           obtain ⟨⟨kd, at0, nm, tx, atts⟩, av⟩ := x
           have HXA := Lib.hid hxa
           obtain ⟨Ax, cx, bx, hxv, _⟩ := hxa
           simp only at hxv HXA HS2 htx
           subst hxv
           have p0 := hxc 0 _ rfl
           have p1 := hxc 1 _ rfl
           have p2 := hxc 2 _ rfl
           have p3 := hxc 3 _ rfl
           have p4 := hxc 4 _ rfl
           simp only [Nat.add_zero] at p0
           rw [show (i + 1 + k) * 5 = (i + 1) * 5 + k * 5 by omega] at p0 p1 p2 p3 p4
           clear hxc
           by_cases k3 : kd = 3
           · subst k3
             by_cases hn : nm = aN
             · have HS3 := Lib.hid (HR.out.symm.trans (HS2.out.trans (emptyL_close rfl hn)))
               have z1 : (nm.toList == [97]) = true := nm_eq' hn
               clear hn
               go_wp2_with fail
               go_ret
               exact ⟨ret_bool HS3.out.symm, HB.out.alloc hww _⟩
             · have HS3 := Lib.hid (HS2.out.trans (emptyL_on3 rfl hn))
               have z1 : (nm.toList == [97]) = false := nm_ne' hn
               clear hn
               go_wp2_with fail
               go_roundw
               case rel => exact ⟨k + 1, by omega, by go_num, HB.out.alloc hww _, HS3⟩
               case measure => simp [intOf]; omega
           by_cases k1 : kd = 1
           · subst k1
             clear k3
             obtain ⟨bb, hbl⟩ : ∃ b, blankB tx = b := ⟨_, rfl⟩
             have HBl := Lib.hid hbl
             cases bb with
             | false =>
               have HS3 := Lib.hid (HR.out.symm.trans (HS2.out.trans (emptyL_chars rfl hbl)))
               clear hbl
               go_wp2_with (go_at_call 70; go_must (refine (blankR_q tx false _ (by omega) HBl.out).mono ?_); rintro e w2 ⟨rfl, hb2⟩; have HX2 := Lib.hid ((CB.new wo #[.int .i64 1, .int .i64 (at0 : Int), .string nm, .string tx, .slice Ax atts.length cx] 56).below hb2); have x0 : w2.cell? ⟨wo.heap.size, 0, none⟩ = some (.int .i64 1) := HX2.out.c 0; have x2 : w2.cell? ⟨wo.heap.size, 2, none⟩ = some (.string nm) := HX2.out.c 2; have xl := HX2.out.lt; have HB2 := Lib.hid ((HB.out.alloc hww _).trans (hb2.mono (by simp; omega))); clear hb2)
               go_ret
               exact ⟨ret_bool HS3.out.symm, HB2.out⟩
             | true =>
               have HS3 := Lib.hid (HS2.out.trans (emptyL_on1 rfl hbl))
               clear hbl
               go_wp2_with (go_at_call 70; go_must (refine (blankR_q tx true _ (by omega) HBl.out).mono ?_); rintro e w2 ⟨rfl, hb2⟩; have HX2 := Lib.hid ((CB.new wo #[.int .i64 1, .int .i64 (at0 : Int), .string nm, .string tx, .slice Ax atts.length cx] 56).below hb2); have x0 : w2.cell? ⟨wo.heap.size, 0, none⟩ = some (.int .i64 1) := HX2.out.c 0; have x2 : w2.cell? ⟨wo.heap.size, 2, none⟩ = some (.string nm) := HX2.out.c 2; have xl := HX2.out.lt; have HB2 := Lib.hid ((HB.out.alloc hww _).trans (hb2.mono (by simp; omega))); clear hb2)
               go_roundw
               case rel => exact ⟨k + 1, by omega, by go_num, HB2.out, HS3⟩
               case measure => simp [intOf]; omega
           by_cases k2 : kd = 2
           · subst k2
             clear k3 k1
             by_cases hn : nm = imgN
             · have z1 : (nm.toList == [105, 109, 103]) = true := nm_eq' hn
               obtain ⟨vv, hvv⟩ : ∃ v, attrS altN atts = v := ⟨_, rfl⟩
               obtain ⟨bb, hbb⟩ : ∃ v, (attrV altN atts).isSome = v := ⟨_, rfl⟩
               have HVV := Lib.hid hvv; have HBB := Lib.hid hbb
               clear hbb
               by_cases hne : vv.data.toList = []
               · obtain rfl := ba_empty hne
                 have HS3 := Lib.hid (HS2.out.trans (emptyL_on2e rfl (by rw [hvv])))
                 clear hvv hn hne
                 go_wp2_with (go_at_call 68; go_must (refine (attrOf_q 2 at0 nm tx _ atts altN ⟨#[]⟩ bb _ (HXA.out.keep (Keeps.alloc _ _)) HVV.out HBB.out).mono ?_); rintro e w2 ⟨rfl, hb2⟩; have HX2 := Lib.hid ((CB.new wo #[.int .i64 2, .int .i64 (at0 : Int), .string nm, .string tx, .slice Ax atts.length cx] 56).below hb2); have x0 : w2.cell? ⟨wo.heap.size, 0, none⟩ = some (.int .i64 2) := HX2.out.c 0; have x2 : w2.cell? ⟨wo.heap.size, 2, none⟩ = some (.string nm) := HX2.out.c 2; have xl := HX2.out.lt; have HB2 := Lib.hid ((HB.out.alloc hww _).trans (hb2.mono (by simp; omega))); clear hb2)
                 go_roundw
                 case rel => exact ⟨k + 1, by omega, by go_num, HB2.out, HS3⟩
                 case measure => simp [intOf]; omega
               · have HS3 := Lib.hid (HR.out.symm.trans (HS2.out.trans (emptyL_img rfl hn (by rw [hvv]; exact hne))))
                 have hne1 : (vv.toList == []) = false := by rw [Go.ByteArray.toList_eq]; exact beq_eq_false_iff_ne.2 hne
                 have hne2 : vv.toList.isEmpty = false := by rw [Go.ByteArray.toList_eq]; simpa using hne
                 have hne3 : ¬ vv.toList = [] := by rw [Go.ByteArray.toList_eq]; exact hne
                 clear hvv hn hne
                 go_wp2_with (go_at_call 68; go_must (refine (attrOf_q 2 at0 nm tx _ atts altN vv bb _ (HXA.out.keep (Keeps.alloc _ _)) HVV.out HBB.out).mono ?_); rintro e w2 ⟨rfl, hb2⟩; have HX2 := Lib.hid ((CB.new wo #[.int .i64 2, .int .i64 (at0 : Int), .string nm, .string tx, .slice Ax atts.length cx] 56).below hb2); have x0 : w2.cell? ⟨wo.heap.size, 0, none⟩ = some (.int .i64 2) := HX2.out.c 0; have x2 : w2.cell? ⟨wo.heap.size, 2, none⟩ = some (.string nm) := HX2.out.c 2; have xl := HX2.out.lt; have HB2 := Lib.hid ((HB.out.alloc hww _).trans (hb2.mono (by simp; omega))); clear hb2)
                 go_ret
                 exact ⟨ret_bool HS3.out.symm, HB2.out⟩
             · have HS3 := Lib.hid (HS2.out.trans (emptyL_on2 rfl hn))
               have z1 : (nm.toList == [105, 109, 103]) = false := nm_ne' hn
               clear hn
               go_wp2_with fail
               go_roundw
               case rel => exact ⟨k + 1, by omega, by go_num, HB.out.alloc hww _, HS3⟩
               case measure => simp [intOf]; omega
           have HS3 := Lib.hid (HS2.out.trans (emptyL_on (fun e => k3 e.1) (fun e => k1 e.1) (fun e => k2 e.1)))
           have z1 : (kd == 1) = false := beq_eq_false_iff_ne.2 k1
           have z2 : (kd == 2) = false := beq_eq_false_iff_ne.2 k2
           have z3 : (kd == 3) = false := beq_eq_false_iff_ne.2 k3
           clear k1 k2 k3
           go_wp2_with fail
           go_roundw
           case rel => exact ⟨k + 1, by omega, by go_num, HB.out.alloc hww _, HS3⟩
           case measure => simp [intOf]; omega)
      · have HS3 := Lib.hid (HR.out.symm.trans (HS.out.trans (by rw [List.drop_eq_nil_of_le (by simp; omega)]; rfl)) : r = true)
        go_wp2_with fail
        go_ret
        exact ⟨ret_bool HS3.out.symm, HB.out⟩

end Go.Proofs.YtbhildmalcfhiaaGreatDoor

namespace Go.Proofs.YtbhildmalcfhiaaGreatDoor
open Go.RowKit Go.Deep

def faRow (pa : ByteArray) (x : FaultR) : List Value := [.string pa, .int .i64 (x.at_ : Int), .int .i64 x.kind]
def faCells (pa : ByteArray) (D : List FaultR) : List Value := D.flatMap (faRow pa)
theorem faCells_snoc (pa : ByteArray) (D : List FaultR) (x : FaultR) : faCells pa (D ++ [x]) = faCells pa D ++ faRow pa x := by simp [faCells]
theorem faCells_append (pa : ByteArray) (D E : List FaultR) : faCells pa (D ++ E) = faCells pa D ++ faCells pa E := by simp [faCells]
theorem faRow_one (pa : ByteArray) (x : FaultR) : ∀ u ∈ faRow pa x, u.oneCell' = true := by
  intro u hu
  simp only [faRow, List.mem_cons, List.not_mem_nil, or_false] at hu
  rcases hu with rfl | rfl | rfl <;> rfl
theorem faCells_one (pa : ByteArray) (D : List FaultR) : ∀ u ∈ faCells pa D, u.oneCell' = true := by
  intro u hu
  obtain ⟨x, _, hx⟩ := List.mem_flatMap.1 hu
  exact faRow_one pa x u hx
theorem info_fault : (Tryz.prog.info? 41).map (fun i => (i.zero, i.size, i.bytes)) = some (some (.agg #[.string ⟨#[]⟩, .int .i64 0, .int .i64 0]), 3, 32) := by kernel_rfl
/-- the blocks that an added fault may turn -/
def JP (jb : Nat) (w : World) (x : Nat) : Prop := x = jb ∨ ∃ cs fz, w.heap[x]? = some (.cells cs 41 fz)

/-- the judge of a page: N: the heap's size ahead of it -/
structure JS (N jb : Nat) (pa : ByteArray) (tv : Value) (D : List FaultR) (w0 w : World) : Prop where
  ex : ∃ A c, CB w jb 71 #[.string pa, tv, .slice A D.length c] ∧ w.ownsRow N 41 3 (.slice A D.length c) D.length (faCells pa D)
  bel : Below N w0 w
  h0 : w0.heap.size = N
  hj : N ≤ jb
  pb : CB w (jb + 1) 69 #[.pointer (some ⟨jb, 0, none⟩)]
section
variable {N jb : Nat} {pa : ByteArray} {tv : Value} {D : List FaultR} {w0 w w' : World}
theorem JS.size (h : JS N jb pa tv D w0 w) : N ≤ w.heap.size := by have := h.bel.size; have := h.h0; omega
theorem JS.below (h : JS N jb pa tv D w0 w) (hb : Below w.heap.size w w') : JS N jb pa tv D w0 w' := by
  obtain ⟨A, c, h1, h2⟩ := h.ex
  exact ⟨⟨A, c, h1.below hb, own_stay h2 hb⟩, h.bel.trans (hb.mono h.size), h.h0, h.hj, h.pb.below hb⟩
theorem JS.alloc (h : JS N jb pa tv D w0 w) (o : Obj) : JS N jb pa tv D w0 (w.alloc o) := h.below ((Below.refl _ _).alloc (Nat.le_refl _) o)
/-- another block of the call's own turns -/
theorem JS.other {x : Nat} (h : JS N jb pa tv D w0 w) (hg : w.grownBy w' (some x)) (hx : N ≤ x) (hne : ¬ JP jb w x) (hq : x ≠ jb + 1) : JS N jb pa tv D w0 w' := by
  obtain ⟨A, c, h1, h2⟩ := h.ex
  have g : GrownX (fun y => y = x) w w' := GrownX.of_grown hg (fun g e => (Option.some.inj e).symm)
  refine ⟨⟨A, c, h1.keepX g (fun e => hne (Or.inl e.symm)), own_keepX h2 g (fun g' hg' e => ?_)⟩, h.bel.trans (g.below h.size (fun y e => by omega)), h.h0, h.hj, h.pb.keepX g (fun e => hq e.symm)⟩
  subst e
  obtain ⟨cs, hc⟩ := own_type h2 hg'
  exact hne (Or.inr ⟨_, _, hc⟩)
end
theorem CB.jp {w w' : World} {n jb : Nat} {t : TypeId} {cs : Array Value} (h : CB w n t cs) (g : GrownX (JP jb w) w w') (hj : n ≠ jb) (ht : t ≠ 41) : CB w' n t cs :=
  h.keepX g (fun e => by
    rcases e with e | ⟨cs', fz, e⟩
    · exact hj e
    · rw [show w.heap[n]? = _ from h] at e
      cases e
      exact ht rfl)

set_option maxRecDepth 100000 in
set_option maxHeartbeats 4000000 in
theorem add_q (N jb : Nat) (pa : ByteArray) (tv : Value) (D : List FaultR) (a : Nat) (ai kd : Int) (w0 w : World) (h : JS N jb pa tv D w0 w) (ha : ai = (a : Int)) (hD : D.length ≤ 1048576) :
    Calls Tryz.prog 58 #[.pointer (some ⟨jb, 0, none⟩), .int .i64 ai, .int .i64 kd] w fun e w' => e = .returned (.tuple #[]) ∧ JS N jb pa tv (D ++ [⟨a, kd⟩]) w0 w' ∧ GrownX (JP jb w) w w' := by
  subst ha
  have hNw := h.size
  have HJ := Lib.hid h
  obtain ⟨A, c, hX, hO⟩ := h.ex
  have b0 : w.cell? ⟨jb, 0, none⟩ = some (.string pa) := hX.c 0
  have b2 : w.cell? ⟨jb, 2, none⟩ = some (.slice A D.length c) := hX.c 2
  have hlt : jb < w.heap.size := hX.lt
  have HX := Lib.hid hX; clear hX
  have HO := Lib.hid hO; clear hO h
  go_enter Tryz.func58, Tryz.ntmps58
  go_wp2_with fail
  go_region_law (refine step_pushT rfl (.tmp 10) (.tmp 18) 36 rfl N 41 _ 3 32 Tryz.underlying36 info_fault rfl (by omega) (.slice A D.length c) D.length _ (by simp [Act.eval]) (own_alloc (own_drew HO.out) _) (faRow pa ⟨a, kd⟩) rfl _ (by simp [Act.eval]) (cell_new _ (faRow pa ⟨a, kd⟩) 41 _ rfl) (faRow_one _ _) (by omega) (by unfold maxLen; omega) (by simp; omega) ?_
                 intro g6 k6 w6 own6 hg6 hgg6 hb6
                 have HX6 := Lib.hid (CB.other ((HX.out.drew).alloc (.cells (faRow pa ⟨a, kd⟩).toArray 41)) hg6 (fun e => own_ne_cb HO.out HX.out (by decide) e.symm))
                 have u2 : w6.cell? ⟨jb, 2, none⟩ = some (.slice A D.length c) := HX6.out.c 2
                 have u2f := HX6.out.f 2
                 have u2s : w6.shape? jb = some (71, 3) := HX6.out.sh)
  all_goals
    have e : (D ++ [(⟨a, kd⟩ : FaultR)]).length = D.length + 1 := by simp
    have HX7 := Lib.hid (HX6.out.put 2 (.slice (some ⟨g6, 0, none⟩) (D.length + 1) k6))
    have HG7 := Lib.hid (((((GrownX.refl (JP jb w) w).drew).alloc (.cells (faRow pa ⟨a, kd⟩).toArray 41)).trans (GrownX.of_grown hg6 (fun g hg => Or.inr (by obtain ⟨cs, hc⟩ := own_type HO.out hg; exact ⟨cs, _, hc⟩)))).set (Or.inl (Or.inl rfl)) 2 (.slice (some ⟨g6, 0, none⟩) (D.length + 1) k6))
    have HO7 := Lib.hid (own_keepX own6 (GrownX.one0 w6 jb 2 (.slice (some ⟨g6, 0, none⟩) (D.length + 1) k6)) (fun q hq e => own_ne_cb own6 HX6.out (by decide) (by rw [hq, e])))
    have HB7 := Lib.hid (Below.setCell (p := ⟨jb, 2, none⟩) ((((Below.refl N w).alloc hNw (.cells (faRow pa ⟨a, kd⟩).toArray 41)).drew).trans hb6) HJ.out.hj (.slice (some ⟨g6, 0, none⟩) (D.length + 1) k6))
    clear own6 hg6 hgg6 hb6
    go_wp2_with fail
    go_end0
    exact ⟨rfl, ⟨⟨_, _, by rw [e]; exact HX7.out, by rw [e, faCells_snoc]; exact HO7.out⟩, HJ.out.bel.trans HB7.out, HJ.out.h0, HJ.out.hj, HJ.out.pb.jp HG7.out (by omega) (by decide)⟩, HG7.out⟩

end Go.Proofs.YtbhildmalcfhiaaGreatDoor

namespace Go.Proofs.YtbhildmalcfhiaaGreatDoor
open Go.RowKit Go.Deep

/-- the faults that are gathered: N: the heap's size ahead of them -/
structure RS (N jb : Nat) (D : List FaultR) (w0 w : World) : Prop where
  ex : ∃ A c, CB w jb 122 #[.slice A D.length c] ∧ w.ownsRow N 41 3 (.slice A D.length c) D.length (faCells ⟨#[]⟩ D)
  bel : Below N w0 w
  h0 : w0.heap.size = N
  hj : N ≤ jb
section
variable {N jb : Nat} {D : List FaultR} {w0 w w' : World}
theorem RS.size (h : RS N jb D w0 w) : N ≤ w.heap.size := by have := h.bel.size; have := h.h0; omega
theorem RS.below (h : RS N jb D w0 w) (hb : Below w.heap.size w w') : RS N jb D w0 w' := by
  obtain ⟨A, c, h1, h2⟩ := h.ex
  exact ⟨⟨A, c, h1.below hb, own_stay h2 hb⟩, h.bel.trans (hb.mono h.size), h.h0, h.hj⟩
theorem RS.alloc (h : RS N jb D w0 w) (o : Obj) : RS N jb D w0 (w.alloc o) := h.below ((Below.refl _ _).alloc (Nat.le_refl _) o)
/-- another block of the call's own turns -/
theorem RS.other {x : Nat} (h : RS N jb D w0 w) (hg : w.grownBy w' (some x)) (hx : N ≤ x) (hne : ¬ JP jb w x) : RS N jb D w0 w' := by
  obtain ⟨A, c, h1, h2⟩ := h.ex
  have g : GrownX (fun y => y = x) w w' := GrownX.of_grown hg (fun g e => (Option.some.inj e).symm)
  refine ⟨⟨A, c, h1.keepX g (fun e => hne (Or.inl e.symm)), own_keepX h2 g (fun g' hg' e => ?_)⟩, h.bel.trans (g.below h.size (fun y e => by omega)), h.h0, h.hj⟩
  subst e
  obtain ⟨cs, hc⟩ := own_type h2 hg'
  exact hne (Or.inr ⟨_, _, hc⟩)
end
set_option maxRecDepth 100000 in
set_option maxHeartbeats 4000000 in
theorem addR_q (N jb : Nat) (D : List FaultR) (a : Nat) (ai kd : Int) (w0 w : World) (h : RS N jb D w0 w) (ha : ai = (a : Int)) (hD : D.length ≤ 1048576) :
    Calls Tryz.prog 67 #[.pointer (some ⟨jb, 0, none⟩), .int .i64 ai, .int .i64 kd] w fun e w' => e = .returned (.tuple #[]) ∧ RS N jb (D ++ [⟨a, kd⟩]) w0 w' ∧ GrownX (JP jb w) w w' := by
  subst ha
  have hNw := h.size
  have HJ := Lib.hid h
  obtain ⟨A, c, hX, hO⟩ := h.ex
  have b2 : w.cell? ⟨jb, 0, none⟩ = some (.slice A D.length c) := hX.c 0
  have hlt : jb < w.heap.size := hX.lt
  have HX := Lib.hid hX; clear hX
  have HO := Lib.hid hO; clear hO h
  go_enter Tryz.func67, Tryz.ntmps67
  go_wp2_with (at_builtin; go_must (refine wpList_push _ rfl (.tmp 10) (.tmp 14) 36 rfl N 41 _ 3 32 Tryz.underlying36 info_fault rfl (by omega) (.slice A D.length c) D.length _ rfl (own_alloc HO.out _) (faRow ⟨#[]⟩ ⟨a, kd⟩) rfl _ rfl (cell_new _ (faRow ⟨#[]⟩ ⟨a, kd⟩) 41 _ rfl) (faRow_one _ _) (by omega) (by unfold maxLen; omega) (by simp; omega) ?_); intro g6 k6 w6 own6 hg6 hgg6 hb6; have HX6 := Lib.hid (CB.other (HX.out.alloc (.cells (faRow ⟨#[]⟩ ⟨a, kd⟩).toArray 41)) hg6 (fun e => own_ne_cb HO.out HX.out (by decide) e.symm)); have u2 : w6.cell? ⟨jb, 0, none⟩ = some (.slice A D.length c) := HX6.out.c 0; have u2f := HX6.out.f 0; have u2l := HX6.out.lt; have u2s : w6.shape? jb = some (122, 1) := HX6.out.sh)
  have e : (D ++ [(⟨a, kd⟩ : FaultR)]).length = D.length + 1 := by simp
  have HX7 := Lib.hid (HX6.out.put 0 (.slice (some ⟨g6, 0, none⟩) (D.length + 1) k6))
  have HG7 := Lib.hid ((((GrownX.refl (JP jb w) w).alloc (.cells (faRow ⟨#[]⟩ ⟨a, kd⟩).toArray 41)).trans (GrownX.of_grown hg6 (fun g hg => Or.inr (by obtain ⟨cs, hc⟩ := own_type HO.out hg; exact ⟨cs, _, hc⟩)))).set (Or.inl (Or.inl rfl)) 0 (.slice (some ⟨g6, 0, none⟩) (D.length + 1) k6))
  have HO7 := Lib.hid (own_keepX own6 (GrownX.one0 w6 jb 0 (.slice (some ⟨g6, 0, none⟩) (D.length + 1) k6)) (fun q hq e => own_ne_cb own6 HX6.out (by decide) (by rw [hq, e])))
  have HB7 := Lib.hid (Below.setCell (p := ⟨jb, 0, none⟩) (((Below.refl N w).alloc hNw (.cells (faRow ⟨#[]⟩ ⟨a, kd⟩).toArray 41)).trans hb6) HJ.out.hj (.slice (some ⟨g6, 0, none⟩) (D.length + 1) k6))
  clear own6 hg6 hgg6 hb6
  go_end0
  exact ⟨rfl, ⟨⟨_, _, by rw [e]; exact HX7.out, by rw [e, faCells_snoc]; exact HO7.out⟩, HJ.out.bel.trans HB7.out, HJ.out.h0, HJ.out.hj⟩, HG7.out⟩

end Go.Proofs.YtbhildmalcfhiaaGreatDoor

namespace Go.Proofs.YtbhildmalcfhiaaGreatDoor
open Go.RowKit Go.Deep

def memF (ids : List (List UInt8)) (s : List UInt8) : Option Bool := if s ∈ ids then some true else none
theorem memF_put (ids : List (List UInt8)) (s : List UInt8) : putF (memF ids) s true = memF (ids ++ [s]) := by
  funext t
  unfold putF memF
  by_cases h : t = s
  · rw [if_pos h, if_pos (by simp [h])]
  · rw [if_neg h]
    by_cases h2 : t ∈ ids
    · rw [if_pos h2, if_pos (by simp [h2])]
    · rw [if_neg h2, if_neg (by simp [h, h2])]
theorem memF_get (ids : List (List UInt8)) (s : List UInt8) : (memF ids s).getD false = decide (s ∈ ids) := by
  unfold memF
  by_cases h : s ∈ ids <;> simp [h]
theorem JS.box {N jb : Nat} {pa : ByteArray} {tv : Value} {D : List FaultR} {w0 w : World} (h : JS N jb pa tv D w0 w) : ∃ fv, CB w jb 71 #[.string pa, tv, fv] := by
  obtain ⟨A, c, h1, _⟩ := h.ex
  exact ⟨_, h1⟩
/-- the state of the pass behind a part of a round -/
structure TS (N jb mb tb : Nat) (pa : ByteArray) (tv : Value) (cs : Array Value) (D : List FaultR) (n : Nat) (ids : List (List UInt8)) (w0 w : World) : Prop where
  js : JS N jb pa tv D w0 w
  map : BMap Tryz.prog 9 4 w mb n (memF ids)
  tok : CB w tb 56 cs
section
variable {N jb mb tb n : Nat} {pa : ByteArray} {tv : Value} {cs : Array Value} {D : List FaultR} {ids : List (List UInt8)} {w0 w w' : World}
theorem TS.below (h : TS N jb mb tb pa tv cs D n ids w0 w) (hb : Below w.heap.size w w') : TS N jb mb tb pa tv cs D n ids w0 w' := ⟨h.js.below hb, h.map.below hb, h.tok.below hb⟩
theorem TS.jp {D' : List FaultR} (h : TS N jb mb tb pa tv cs D n ids w0 w) (hj : JS N jb pa tv D' w0 w') (g : GrownX (JP jb w) w w') (ht : tb ≠ jb) : TS N jb mb tb pa tv cs D' n ids w0 w' := by
  refine ⟨hj, ?_, h.tok.jp g ht (by decide)⟩
  obtain ⟨es, clock, hm⟩ := h.map.block
  obtain ⟨fv, hb⟩ := h.js.box
  have hne : ¬ JP jb w mb := by
    rintro (e | ⟨cs', fz, e⟩)
    · subst e; rw [show w.heap[mb]? = _ from hb] at hm; cases hm
    · rw [hm] at e; cases e
  obtain ⟨Dm, ⟨es', clock', h1, h2⟩, h3⟩ := h.map
  exact ⟨Dm, ⟨es', clock', (g.block mb (Array.getElem?_eq_some_iff.1 h1).1 hne).trans h1, h2⟩, h3⟩
end
theorem TS.turned {N jb mb tb n : Nat} {pa : ByteArray} {tv : Value} {cs : Array Value} {D : List FaultR} {ids : List (List UInt8)} {s : List UInt8} {w0 w w' : World} (h : TS N jb mb tb pa tv cs D n ids w0 w) (hm : BMap Tryz.prog 9 4 w' mb (n + 1) (putF (memF ids) s true)) (ht : w.mapTurned w' mb) (hN : N ≤ mb) : TS N jb mb tb pa tv cs D (n + 1) (ids ++ [s]) w0 w' := by
  obtain ⟨es, clock, hb⟩ := h.map.block
  refine ⟨h.js.other ht.grown hN (fun e => ?_) ?_, by rw [← memF_put]; exact hm, h.tok.other ht.grown (fun e => ?_)⟩
  · rcases e with e | ⟨cs', fz, e⟩
    · obtain ⟨fv, hx⟩ := h.js.box
      subst e
      rw [show w.heap[mb]? = _ from hx] at hb; cases hb
    · rw [hb] at e; cases e
  · intro e
    have := h.js.pb
    rw [e] at hb
    rw [show w.heap[jb + 1]? = _ from this] at hb; cases hb
  · have e := Option.some.inj e
    subst e
    have := h.tok
    rw [show w.heap[tb]? = _ from this] at hb; cases hb
theorem memF_nil (w : World) : BMap Tryz.prog 9 4 (w.alloc (.map #[] 0)) w.heap.size 0 (memF []) := by
  have h : memF [] = fun _ => none := by funext s; simp [memF]
  rw [h]; exact mapR_made w
theorem zero_bool (w : World) : (zeroValue 4).run Tryz.prog w = .ok (.bool false) w := by kernel_rfl
theorem wrap_small {n : Int} (h : -9223372036854775808 ≤ n) (h2 : n ≤ 9223372036854775807) : IntKind.i64.wrap n = n := by
  rw [IntKind.wrap_i64]; omega
theorem oAlt_b {t : TokR} {b : Bool} (h : (decide (t.name = imgN) && !(attrV altN t.atts).isSome) = b) : oAlt t = bif b then [⟨t.at_, 1⟩] else [] := by
  subst h
  unfold oAlt
  by_cases h1 : t.name = imgN <;> cases h2 : (attrV altN t.atts).isSome <;> simp [h1]
theorem oLink_b {T : List TokR} {i : Nat} {t : TokR} {b : Bool} (h : (decide (t.name = aN) && (attrV hrefN t.atts).isSome && emptyL (T.drop (i + 1))) = b) : oLink T i t = bif b then [⟨t.at_, 7⟩] else [] := by
  subst h
  unfold oLink
  by_cases h1 : t.name = aN <;> cases h2 : (attrV hrefN t.atts).isSome <;> cases h3 : emptyL (T.drop (i + 1)) <;> simp [h1]
theorem atoi_one (c : UInt8) (h1 : 49 ≤ c.toNat) (h2 : c.toNat ≤ 54) : Lib.atoi [c] = some ((c.toNat : Int) - 48) := by
  have h : c = 49 ∨ c = 50 ∨ c = 51 ∨ c = 52 ∨ c = 53 ∨ c = 54 := by
    have e : ∀ n : Nat, c.toNat = n → n < 256 → c = UInt8.ofNat n := fun n hn hl => UInt8.toNat_inj.1 (by rw [hn, UInt8.toNat_ofNat']; omega)
    have : c.toNat = 49 ∨ c.toNat = 50 ∨ c.toNat = 51 ∨ c.toNat = 52 ∨ c.toNat = 53 ∨ c.toNat = 54 := by omega
    rcases this with h | h | h | h | h | h
    · exact Or.inl (e _ h (by decide))
    · exact Or.inr (Or.inl (e _ h (by decide)))
    · exact Or.inr (Or.inr (Or.inl (e _ h (by decide))))
    · exact Or.inr (Or.inr (Or.inr (Or.inl (e _ h (by decide)))))
    · exact Or.inr (Or.inr (Or.inr (Or.inr (Or.inl (e _ h (by decide))))))
    · exact Or.inr (Or.inr (Or.inr (Or.inr (Or.inr (e _ h (by decide))))))
  rcases h with rfl | rfl | rfl | rfl | rfl | rfl <;> decide
theorem atoi_q (z : ByteArray) (n : Int) (w : World) (hl : z.size ≤ 18) (h : Lib.atoi z.data.toList = some n) : Calls Tryz.prog 59 #[.string z] w fun e w' => e = .returned (.tuple #[.int .i64 n, .nilIface]) ∧ Below w.heap.size w w' :=
  (Tryz.strconv_Atoi z n hl h w).mono fun _ _ ⟨h1, t, h2⟩ => ⟨h1, by rw [h2]; exact Lib.bytesWorld_below _ _ t⟩
theorem head_form {nm : ByteArray} (h : headB nm = true) : ∃ c : UInt8, (c.toNat : Int) = nAt nm 1 ∧ 49 ≤ nAt nm 1 ∧ nAt nm 1 ≤ 54 ∧ nm.size = 2 ∧ (nm.extract 1 nm.size).data.toList = [c] := by
  simp only [headB, Bool.and_eq_true, decide_eq_true_eq] at h
  obtain ⟨⟨⟨h1, _⟩, h2⟩, h3⟩ := h
  refine ⟨bAt nm 1, rfl, h2, h3, h1, ?_⟩
  have h4 : nm.data.toList.length = 2 := by rw [size_toList]; exact h1
  have h5 := bAt_get (s := nm) (j := 1) (by omega)
  rw [ByteArray.data_extract, Array.toList_extract, h1]
  match hl : nm.data.toList, h4 with
  | [a, b], _ =>
    rw [hl] at h5
    simp at h5
    rw [← h5]; rfl
theorem attrS_size {n : ByteArray} {l : List AttrR} (h : ∀ a ∈ l, a.value.size ≤ maxLen) : (attrS n l).size ≤ maxLen := by
  unfold attrS
  induction l with
  | nil => rw [attrV]; exact Nat.zero_le _
  | cons a r ih =>
    rw [attrV]
    split
    · exact h a (List.mem_cons_self ..)
    · exact ih (fun x hx => h x (List.mem_cons_of_mem _ hx))
theorem attVal_size (s : ByteArray) (k : Nat) : (attVal s k).1.size ≤ s.size := by
  have hx : ∀ a b, (unBA (s.extract a b)).size ≤ s.size := fun a b => by
    have h := unU_len (s.extract a b).data.toList
    rw [← size_toList, unBA]
    simp only
    rw [size_toList] at h
    rw [ByteArray.size_extract] at h
    omega
  unfold attVal
  split
  · split
    · exact hx _ _
    · exact hx _ _
  · exact Nat.zero_le _
theorem attsF_vals (s : ByteArray) : ∀ (f i : Nat) (a : AttrR), a ∈ (attsF s f i).1 → a.value.size ≤ s.size
  | 0, i, a, h => by simp [attsF] at h
  | f + 1, i, a, h => by
    rw [attsF] at h
    repeat' split at h
    all_goals first
      | exact attsF_vals s f _ a h
      | (rcases List.mem_cons.1 h with rfl | h; exact attVal_size s _; exact attsF_vals s f _ a h)
      | (simp at h; done)
theorem tokR_vals {s : ByteArray} {t : TokR} (h : t ∈ tokR s) : ∀ a ∈ t.atts, a.value.size ≤ 200000 := by
  have hc : ∀ a b t, t ∈ charsL s a b → ∀ x ∈ t.atts, x.value.size ≤ s.size := fun a b t h x hx => by
    unfold charsL at h
    split at h
    · simp at h; subst h; cases hx
    · simp at h
  have ht : ∀ i, ∀ x ∈ (tokAt s i).1.atts, x.value.size ≤ s.size := fun i x hx => by
    unfold tokAt at hx
    split at hx
    · cases hx
    · cases hx
    · cases hx
    · exact attsF_vals s _ _ x hx
    · cases hx
  have hf : ∀ f i a t, t ∈ toksF s f i a → ∀ x ∈ t.atts, x.value.size ≤ s.size := by
    intro f
    induction f with
    | zero => exact fun i a t h => hc _ _ t h
    | succ f ih =>
      intro i a t h
      rw [toksF] at h
      split at h
      · split at h
        · exact ih _ _ t h
        · rcases List.mem_append.1 h with h | h
          · rcases List.mem_append.1 h with h | h
            · exact hc _ _ t h
            · unfold tokL at h
              rcases List.mem_cons.1 h with rfl | h
              · exact ht i
              · split at h
                · exact hc _ _ t h
                · simp at h
          · exact ih _ _ t h
      · exact hc _ _ t h
  unfold tokR at h
  split at h
  · rename_i h1
    have := hf _ _ _ t h
    unfold tokE at h1
    split at h1
    · cases h1
    · exact fun a ha => by have := this a ha; omega
  · simp at h
theorem tags_open {T : List TokR} {k at0 : Nat} {nm tx : ByteArray} {atts : List AttrR} {la la2 : Int} {ids ids3 : List (List UInt8)} {ti ti4 : Bool} {D D1 D2 D3 D4 E : List FaultR} (h : tagTo T k = ⟨la, ids, ti, D⟩) (hx : T[k]? = some ⟨2, at0, nm, tx, atts⟩)
    (h1 : D ++ oAlt ⟨2, at0, nm, tx, atts⟩ = D1) (h2 : D1 ++ oHead la ⟨2, at0, nm, tx, atts⟩ = D2) (h3 : D2 ++ oId ids ⟨2, at0, nm, tx, atts⟩ = D3) (h4 : D3 ++ oTitle ti T k ⟨2, at0, nm, tx, atts⟩ = D4)
    (h5 : nextL la ⟨2, at0, nm, tx, atts⟩ = la2) (h6 : nextI ids ⟨2, at0, nm, tx, atts⟩ = ids3) (h7 : nextT ti ⟨2, at0, nm, tx, atts⟩ = ti4) (h8 : oLink T k ⟨2, at0, nm, tx, atts⟩ = E) : tagTo T (k + 1) = ⟨la2, ids3, ti4, D4 ++ E⟩ := by
  rw [tagTo_succ hx, h, tagStep, if_pos rfl]
  simp only
  rw [h1, h2, h3, h4, h5, h6, h7, h8]
theorem tags_kind {T : List TokR} {k : Nat} {t : TokR} {S : TagS} (h : tagTo T k = S) (hx : T[k]? = some t) (hk : t.kind ≠ 2) : tagTo T (k + 1) = S := by
  rw [tagTo_succ hx, h, tagStep, if_neg hk]
theorem map_at {T : List (TokR × Value)} {k : Nat} {x : TokR × Value} (hx : T[k]? = some x) : (T.map (·.1))[k]? = some x.1 := by rw [List.getElem?_map, hx]; rfl

end Go.Proofs.YtbhildmalcfhiaaGreatDoor

namespace Go.Proofs.YtbhildmalcfhiaaGreatDoor
open Go.RowKit Go.Deep

theorem own_cut {w : World} {B K n c k : Nat} {e : TypeId} {A : Option Addr} {xs : List Value} (h : w.ownsRow B e K (.slice A n c) n xs) (hk : k ≤ n) : w.ownsRow B e K (.slice A k c) k (xs.take (k * K)) := by
  obtain ⟨hl, h2⟩ := h
  have hkK : k * K ≤ n * K := Nat.mul_le_mul_right K hk
  refine ⟨by rw [List.length_take, hl]; omega, ?_⟩
  rcases h2 with ⟨h1, rfl⟩ | ⟨g, cap, cur, h1, hB, hg, hnc, hm, hsz, ht⟩
  · cases h1
    have : k = 0 := by omega
    subst this
    exact .inl ⟨rfl, rfl⟩
  · cases h1
    refine .inr ⟨g, c, cur, rfl, hB, hg, by omega, hm, hsz, ?_⟩
    rw [← ht, List.take_take, Nat.min_eq_left hkK]
theorem tokCells_take : ∀ (O : List (TokR × Value)) (k : Nat), (tokCells O).take (k * 5) = tokCells (O.take k)
  | [], k => by simp [tokCells]
  | x :: r, 0 => by simp [tokCells]
  | x :: r, k + 1 => by
    have ih := tokCells_take r k
    have e : tokCells (x :: r) = tokRow x ++ tokCells r := rfl
    rw [e, List.take_succ_cons, show tokCells (x :: r.take k) = tokRow x ++ tokCells (r.take k) from rfl, ← ih]
    rw [show (k + 1) * 5 = (tokRow x).length + k * 5 by simp [tokRow]; omega, List.take_append]
    rw [List.take_of_length_le (by omega)]
    simp
theorem own_toks {w : World} {B b n c : Nat} {O : List (TokR × Value)} (h : w.ownsRow B 56 5 (.slice (some ⟨b, 0, none⟩) n c) n (tokCells O)) {i : Nat} {x : TokR × Value} (hx : O[i]? = some x) : ∀ j u, (tokRow x)[j]? = some u → w.cell? ⟨b, i * 5 + j, none⟩ = some u := by
  intro j u hu
  have hj : j < 5 := (List.getElem?_eq_some_iff.1 hu).1
  have h9 := (flatN 5 tokRow (fun _ => rfl) O i x hx j hj).trans hu
  obtain ⟨A, c', b', e, _, _, hA, hc⟩ := own_rd h
  have hlt : i * 5 + j < n * 5 := by have := (List.getElem?_eq_some_iff.1 h9).1; have := h.1; unfold tokCells at this; omega
  have := (hA (by omega)).1
  cases e
  cases this
  exact hc _ _ h9
theorem own_some {w : World} {B n c K : Nat} {e : TypeId} {A : Option Addr} {xs : List Value} (h : w.ownsRow B e K (.slice A n c) n xs) (hn : 0 < n) : ∃ b, A = some ⟨b, 0, none⟩ ∧ B ≤ b ∧ b < w.heap.size ∧ n ≤ c := by
  obtain ⟨A', c', e, _, hnc, hA⟩ := own_form h
  cases e
  obtain ⟨g, h1, h2, h3⟩ := hA hn
  exact ⟨g, h1, h2, h3, hnc⟩
theorem find_miss {l : List TokR} {nm : ByteArray} {k : Nat} {t : TokR} (h : l[k]? = some t) (hn : t.name ≠ nm) : findO l nm (k + 1) = findO l nm k := by rw [findO, h]; simp only; rw [if_neg hn]
theorem find_hit {l : List TokR} {nm : ByteArray} {k : Nat} {t : TokR} (h : l[k]? = some t) (hn : t.name = nm) : findO l nm (k + 1) = some k := by rw [findO, h]; simp only; rw [if_pos hn]
theorem unclosed_take {l : List TokR} {i : Nat} {t : TokR} (h : l[i]? = some t) : unclosed (l.take (i + 1)) = unclosed (l.take i) ++ [⟨t.at_, 4⟩] := by
  obtain ⟨hk, rfl⟩ := List.getElem?_eq_some_iff.1 h
  rw [unclosed, unclosed, List.take_succ_eq_append_getElem hk, List.map_append]; rfl
theorem unclosed_len (l : List TokR) : (unclosed l).length = l.length := by simp [unclosed]
/-- a token's box is no row of open tokens -/
def OffBox (ov : Value) (tb : Nat) : Prop := ∀ g, ov.ownBlock = some g → g ≠ tb

/-- the faults and the row of open elements -/
structure NS (N jb : Nat) (pa : ByteArray) (tv : Value) (D : List FaultR) (O : List (TokR × Value)) (A : Option Addr) (c : Nat) (w0 w : World) : Prop where
  js : JS N jb pa tv D w0 w
  op : w.ownsRow N 56 5 (.slice A O.length c) O.length (tokCells O)
section
variable {N jb : Nat} {pa : ByteArray} {tv : Value} {D : List FaultR} {O : List (TokR × Value)} {A : Option Addr} {c : Nat} {w0 w w' : World}
theorem NS.below (h : NS N jb pa tv D O A c w0 w) (hb : Below w.heap.size w w') : NS N jb pa tv D O A c w0 w' := ⟨h.js.below hb, own_stay h.op hb⟩
theorem NS.alloc (h : NS N jb pa tv D O A c w0 w) (o : Obj) : NS N jb pa tv D O A c w0 (w.alloc o) := h.below ((Below.refl _ _).alloc (Nat.le_refl _) o)
theorem NS.drewN (h : NS N jb pa tv D O A c w0 w) (n : Nat) : NS N jb pa tv D O A c w0 (w.drewN n) := h.below (Below.drewN' (Below.refl _ _) n)
theorem NS.off (h : NS N jb pa tv D O A c w0 w) {g : Nat} (hg : (Value.slice A O.length c).ownBlock = some g) : ¬ JP jb w g := by
  obtain ⟨cs, hc⟩ := own_type h.op hg
  rintro (e | ⟨cs', fz, e⟩)
  · obtain ⟨fv, hb⟩ := h.js.box
    rw [e] at hc
    have := Option.some.inj ((show w.heap[jb]? = _ from hb).symm.trans (show w.heap[jb]? = _ from hc))
    injection this with e1 e2
    exact absurd e2 (by decide)
  · rw [show w.heap[g]? = _ from hc] at e
    have := Option.some.inj e
    injection this with e1 e2
    exact absurd e2 (by decide)
theorem NS.jp {D' : List FaultR} (h : NS N jb pa tv D O A c w0 w) (hj : JS N jb pa tv D' w0 w') (g : GrownX (JP jb w) w w') : NS N jb pa tv D' O A c w0 w' := ⟨hj, own_keepX h.op g (fun _ hg => h.off hg)⟩
theorem NS.push {W : World} {x : TokR × Value} {g6 k6 : Nat} (h : NS N jb pa tv D O A c w0 W) (hg : W.grownBy w' (Value.slice A O.length c).ownBlock) (own6 : w'.ownsRow N 56 5 (.slice (some ⟨g6, 0, none⟩) (O.length + 1) k6) (O.length + 1) (tokCells O ++ tokRow x)) : NS N jb pa tv D (O ++ [x]) (some ⟨g6, 0, none⟩) k6 w0 w' := by
  have e : (O ++ [x]).length = O.length + 1 := by simp
  refine ⟨?_, by rw [e, tokCells_snoc]; exact own6⟩
  cases hv : (Value.slice A O.length c).ownBlock with
  | none => rw [hv] at hg; exact h.js.below ⟨hg.os, hg.tape, hg.output, hg.size, fun x hx => hg.block x hx (by simp)⟩
  | some g =>
    rw [hv] at hg
    exact h.js.other hg (own_block_ge h.op g hv) (h.off hv) (fun e => own_ne_cb h.op h.js.pb (by decide) (by rw [hv, e]))
theorem NS.cut (h : NS N jb pa tv D O A c w0 w) {j : Nat} (hj : j ≤ O.length) : NS N jb pa tv D (O.take j) A c w0 w := by
  have h2 := own_cut h.op hj
  rw [tokCells_take] at h2
  have e : (O.take j).length = j := by rw [List.length_take]; omega
  exact ⟨h.js, by rw [e]; exact h2⟩
end

theorem nest_push {T : List TokR} {k : Nat} {t : TokR} {O : List TokR} {E : List FaultR} (h : nestTo T k = ⟨O, E⟩) (hx : T[k]? = some t) (hk : t.kind = 2) (hv : voidB t.name = false) : nestTo T (k + 1) = ⟨O ++ [t], E⟩ := by rw [nestTo_succ hx, h, nestStep, if_pos ⟨hk, hv⟩]
theorem nest_next {T : List TokR} {k : Nat} {t : TokR} {O : List TokR} {E : List FaultR} (h : nestTo T k = ⟨O, E⟩) (hx : T[k]? = some t) (h2 : ¬ (t.kind = 2 ∧ voidB t.name = false)) (h3 : t.kind ≠ 3) : nestTo T (k + 1) = ⟨O, E⟩ := by rw [nestTo_succ hx, h, nestStep, if_neg h2, if_neg h3]
theorem nest_none {T : List TokR} {k : Nat} {t : TokR} {O : List TokR} {E : List FaultR} (h : nestTo T k = ⟨O, E⟩) (hx : T[k]? = some t) (h3 : t.kind = 3) (hf : findO O t.name O.length = none) : nestTo T (k + 1) = ⟨O, E ++ [⟨t.at_, 5⟩]⟩ := by
  rw [nestTo_succ hx, h, nestStep, if_neg (fun e => by have := e.1; omega), if_pos h3, closeStep]
  simp only [hf]
theorem nest_some {T : List TokR} {k j : Nat} {t : TokR} {O : List TokR} {E : List FaultR} (h : nestTo T k = ⟨O, E⟩) (hx : T[k]? = some t) (h3 : t.kind = 3) (hf : findO O t.name O.length = some j) : nestTo T (k + 1) = ⟨O.take j, E ++ unclosed (O.drop (j + 1))⟩ := by
  rw [nestTo_succ hx, h, nestStep, if_neg (fun e => by have := e.1; omega), if_pos h3, closeStep]
  simp only [hf]

end Go.Proofs.YtbhildmalcfhiaaGreatDoor
