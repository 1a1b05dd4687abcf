/-
  A string as a part of an address: tmpl.EscapeAddr, mastref1.AddrEscaped.
-/
import Derived.Test.YtenhhknmpafpdaaScheme
import Derived.Test.YtenhhknmpafpdaaRowB
import Derived.Test.YtenhhknmpafpdaaTLetters
import Derived.Test.YtenhhknmpafpdaaEscape
namespace Go.Proofs.Ytenhhknmpafpdaa
open Go.RowKit Go.Deep

def hexU (n : Nat) : UInt8 := if n < 10 then UInt8.ofNat (48 + n) else UInt8.ofNat (55 + n)
def keepB (f : Bool) (c : UInt8) : Bool := isLetterP (c.toNat : Int) || isDigitP (c.toNat : Int) || decide (0 ≤ Lib.indexByte [45, 95, 46, 126] c) || (f && decide (0 ≤ Lib.indexByte [58, 47, 63, 35, 61, 38, 37, 43, 44, 64] c))
def addrE (f : Bool) (c : UInt8) : List UInt8 := if keepB f c = true then [c] else [37, hexU (c.toNat / 16), hexU (c.toNat % 16)]
def addrEL (f : Bool) (l : List UInt8) : List UInt8 := l.flatMap (addrE f)
def addrES (f : Bool) (s : ByteArray) : ByteArray := if f && badB s.data.toList then ⟨#[35]⟩ else ⟨(escL (addrEL f s.data.toList)).toArray⟩
theorem addrE_le (f : Bool) (c : UInt8) : (addrE f c).length ≤ 3 := by unfold addrE; split <;> simp
theorem addrEL_le (f : Bool) : ∀ l : List UInt8, (addrEL f l).length ≤ 3 * l.length
  | [] => by simp [addrEL]
  | c :: l => by
    have h1 := addrE_le f c
    have h2 := addrEL_le f l
    have e : addrEL f (c :: l) = addrE f c ++ addrEL f l := by simp [addrEL]
    rw [e, List.length_append, List.length_cons]
    omega
theorem addrEL_take {f : Bool} {l : List UInt8} {k : Nat} {c : UInt8} (h : l[k]? = some c) : addrEL f (l.take (k + 1)) = addrEL f (l.take k) ++ addrE f c := by
  rw [take_next h]; simp [addrEL]
theorem addrE_keep {f : Bool} {c : UInt8} (h : keepB f c = true) : addrE f c = [c] := by rw [addrE, if_pos h]
theorem addrE_not {f : Bool} {c : UInt8} (h : keepB f c = false) : addrE f c = [37, hexU (c.toNat / 16), hexU (c.toNat % 16)] := by rw [addrE, h]; rfl
theorem hexU_at (h : Nat) (hp : h < 16) : (⟨#[48, 49, 50, 51, 52, 53, 54, 55, 56, 57, 65, 66, 67, 68, 69, 70]⟩ : ByteArray)[h]'hp = hexU h := by
  have key : ∀ i : Fin 16, (⟨#[48, 49, 50, 51, 52, 53, 54, 55, 56, 57, 65, 66, 67, 68, 69, 70]⟩ : ByteArray)[i.1]'i.2 = hexU i.1 := by decide +kernel
  exact key ⟨h, hp⟩
theorem hexU_cut (h : Nat) (hp : h < 16) : (⟨#[48, 49, 50, 51, 52, 53, 54, 55, 56, 57, 65, 66, 67, 68, 69, 70]⟩ : ByteArray).extract h (h + 1) = ⟨#[hexU h]⟩ := by
  have key : ∀ i : Fin 16, (⟨#[48, 49, 50, 51, 52, 53, 54, 55, 56, 57, 65, 66, 67, 68, 69, 70]⟩ : ByteArray).extract i.1 (i.1 + 1) = ⟨#[hexU i.1]⟩ := by decide +kernel
  exact key ⟨h, hp⟩

set_option maxRecDepth 100000 in
set_option maxHeartbeats 4000000 in
theorem escapeAddr_false (s : ByteArray) (w : World) (hs : s.size ≤ 200000) :
    Calls Try.prog 5 #[.string s, .bool false] w fun e w' => e = .returned (.string ⟨(escL (addrEL false s.data.toList)).toArray⟩) ∧ Below w.heap.size w w' := by

  go_enter Try.func5, Try.ntmps5
  go_wp2_with fail
  go_loopw [5, 6] (fun t5 t wr => ∃ (k mk : Nat) (Ao : Option Addr) (co : Nat), k ≤ s.size ∧ t = .int .i64 k ∧ t5 = .slice Ao mk co ∧ Hid (OwnM w.heap.size wr (.slice Ao mk co) mk (addrEL false (s.data.toList.take k))) ∧ Hid (Below w.heap.size w wr) ∧ mk ≤ 3 * k) (fun _ t _ => s.size - (intOf t).toNat)
  case atStart => exact ⟨0, 0, none, 0, Nat.zero_le _, rfl, rfl, (show OwnM _ _ _ _ _ from World.ownsRow_nil w _ 5 1), Below.refl _ _, Nat.zero_le _⟩
  case round =>
    obtain ⟨k, mk, Ao, co, hk, rfl, rfl, HOX, HBX, hmk⟩ := hrel
    by_cases hlt : k < s.size
    · have HE := Lib.hid (addrEL_take (f := false) (byteQ hlt))
      have hcb : (s[k].toNat : Int) < 256 := by have := s[k].toNat_lt; omega
      cases hla : isLetterP (s[k].toNat : Int)
      · have HLa := Lib.hid hla; clear hla
        cases hdi : isDigitP (s[k].toNat : Int)
        · have HDi := Lib.hid hdi; clear hdi
          obtain ⟨v1, hv1⟩ : ∃ v, Lib.indexByte (⟨#[45, 95, 46, 126]⟩ : ByteArray).data.toList s[k] = v := ⟨_, rfl⟩
          have H1 := Lib.hid hv1; clear hv1
          by_cases h1 : 0 ≤ v1
          · have HEs := Lib.hid (addrE_keep (f := false) (show keepB false s[k] = true by simp [keepB, H1.out, h1]))
            go_wp2_with (first | (go_at_call 12; refine (tmplIsLetter_any _ _ _ HLa.out).mono ?_; rintro e wx ⟨rfl, rfl⟩) | (go_at_call 13; refine (tmplIsDigit_any _ _ _ HDi.out).mono ?_; rintro e wx ⟨rfl, rfl⟩) | (go_at_call 14; (with_reducible refine (byte_v ⟨#[45, 95, 46, 126]⟩ s[k] _ v1 _ rfl H1.out).mono ?_); rintro e wx ⟨rfl, rfl⟩) | (at_builtin; have hh := HOX.out.alloc (.cells #[.int .u8 (s[k].toNat : Int)] 5); have k1 : (mk + 1) * 1 ≤ 140737488355328 := (by omega); have k2 : mk + 1 ≤ maxLen := (by unfold maxLen; omega); have k3 : w.heap.size ≤ (World.alloc wr (.cells #[.int .u8 (s[k].toNat : Int)] 5)).heap.size := (by have := HBX.out.size; simp; omega); have k4 := cell_new wr [.int .u8 (s[k].toNat : Int)] 5 (World.heap wr).size rfl; go_must (refine wpList_app _ rfl (.tmp 41) (.tmp 43) 26 rfl w.heap.size 5 (.int .u8 0) 1 Try.underlying26 info_byteQ rfl (.slice Ao mk co) mk _ rfl hh [.int .u8 (s[k].toNat : Int)] 1 rfl (by omega) _ (by first | rfl | simp) k4 (by intro u hu; simp at hu; first | (rcases hu with rfl | rfl <;> rfl) | (subst hu; rfl)) k1 k2 k3 ?_); clear hh k1 k2 k3 k4; intro g5 c5 w5 own5 hg5 hgg5 hb5))
            have HO5 := Lib.hid (ownM_more (cs := [s[k]]) own5 (by simp [byteCells]))
            have HB5 := Lib.hid ((HBX.out.alloc HBX.out.size (.cells #[.int .u8 (s[k].toNat : Int)] 5)).trans hb5)
            clear own5 hg5 hgg5 hb5
            go_roundw
            case rel => exact ⟨k + 1, mk + 1, _, _, by omega, by go_num, rfl, (show OwnM _ _ _ _ _ by rw [HE.out, HEs.out]; exact HO5.out), HB5.out, by omega⟩
            case measure => simp [intOf]; omega
          · have HEs := Lib.hid (addrE_not (f := false) (show keepB false s[k] = false by simp only [keepB, HLa.out, HDi.out, H1.out]; simp; omega))
            obtain ⟨h, hh⟩ : ∃ h : Nat, s[k].toNat / 16 = h := ⟨_, rfl⟩
            obtain ⟨l, hl⟩ : ∃ l : Nat, s[k].toNat % 16 = l := ⟨_, rfl⟩
            have hh16 : h < 16 := by have := s[k].toNat_lt; omega
            have hl16 : l < 16 := by omega
            have d1 : (s[k].toNat : Int) / 16 = (h : Int) := by omega
            have d2 : Go.bits BinOp.and IntKind.u8 (s[k].toNat : Int) 15 = (l : Int) := by rw [and15, hl]
            have d3 : (h : Int) < 16 := by omega
            have d4 : (l : Int) < 16 := by omega
            have x1 : (⟨#[48, 49, 50, 51, 52, 53, 54, 55, 56, 57, 65, 66, 67, 68, 69, 70]⟩ : ByteArray)[h]'hh16 = hexU h := hexU_at h hh16
            have x2 : (⟨#[48, 49, 50, 51, 52, 53, 54, 55, 56, 57, 65, 66, 67, 68, 69, 70]⟩ : ByteArray)[l]'hl16 = hexU l := hexU_at l hl16
            rw [hh, hl] at HEs
            have HH := Lib.hid hh
            have HL := Lib.hid hl
            clear hh hl
            go_wp2_with (first | (go_at_call 12; refine (tmplIsLetter_any _ _ _ HLa.out).mono ?_; rintro e wx ⟨rfl, rfl⟩) | (go_at_call 13; refine (tmplIsDigit_any _ _ _ HDi.out).mono ?_; rintro e wx ⟨rfl, rfl⟩) | (go_at_call 14; (with_reducible refine (byte_v ⟨#[45, 95, 46, 126]⟩ s[k] _ v1 _ rfl H1.out).mono ?_); rintro e wx ⟨rfl, rfl⟩))
            go_region_law (refine step_app rfl (.tmp 45) (.tmp 52) 26 rfl w.heap.size 5 (.int .u8 0) 1 Try.underlying26 info_byteQ rfl (.slice Ao mk co) mk _ (by simp [Act.eval]) ((own_drew HOX.out).alloc (.cells #[.int .u8 37, .int .u8 ((hexU h).toNat : Int), .int .u8 ((hexU l).toNat : Int)] 5)) [.int .u8 37, .int .u8 ((hexU h).toNat : Int), .int .u8 ((hexU l).toNat : Int)] 3 rfl (by omega) _ (by simp [Act.eval]) (cell_new _ _ _ _ rfl) (by intro u hu; simp at hu; rcases hu with rfl | rfl | rfl <;> rfl) (by omega) (by unfold maxLen; omega) (by have := HBX.out.size; simp; omega) ?_
                           intro g5 c5 w5 own5 hg5 hgg5 hb5)
            all_goals
              (try go_wp2_with fail)
              have HO5 := Lib.hid (ownM_more (cs := [37, hexU h, hexU l]) own5 (by simp [byteCells]))
              have HB5 := Lib.hid (((HBX.out.drew).alloc HBX.out.size (.cells #[.int .u8 37, .int .u8 ((hexU h).toNat : Int), .int .u8 ((hexU l).toNat : Int)] 5)).trans hb5)
              clear own5 hg5 hgg5 hb5
              go_roundw
              case rel => exact ⟨k + 1, mk + 3, _, _, by omega, by go_num, rfl, (show OwnM _ _ _ _ _ by rw [HE.out, HEs.out]; exact HO5.out), HB5.out, by omega⟩
              case measure => simp [intOf]; omega
        · have HDi := Lib.hid hdi; clear hdi
          have HEs := Lib.hid (addrE_keep (f := false) (show keepB false s[k] = true by simp [keepB, HDi.out]))
          go_wp2_with (first | (go_at_call 12; refine (tmplIsLetter_any _ _ _ HLa.out).mono ?_; rintro e wx ⟨rfl, rfl⟩) | (go_at_call 13; refine (tmplIsDigit_any _ _ _ HDi.out).mono ?_; rintro e wx ⟨rfl, rfl⟩) | (at_builtin; have hh := HOX.out.alloc (.cells #[.int .u8 (s[k].toNat : Int)] 5); have k1 : (mk + 1) * 1 ≤ 140737488355328 := (by omega); have k2 : mk + 1 ≤ maxLen := (by unfold maxLen; omega); have k3 : w.heap.size ≤ (World.alloc wr (.cells #[.int .u8 (s[k].toNat : Int)] 5)).heap.size := (by have := HBX.out.size; simp; omega); have k4 := cell_new wr [.int .u8 (s[k].toNat : Int)] 5 (World.heap wr).size rfl; go_must (refine wpList_app _ rfl (.tmp 41) (.tmp 43) 26 rfl w.heap.size 5 (.int .u8 0) 1 Try.underlying26 info_byteQ rfl (.slice Ao mk co) mk _ rfl hh [.int .u8 (s[k].toNat : Int)] 1 rfl (by omega) _ (by first | rfl | simp) k4 (by intro u hu; simp at hu; first | (rcases hu with rfl | rfl <;> rfl) | (subst hu; rfl)) k1 k2 k3 ?_); clear hh k1 k2 k3 k4; intro g5 c5 w5 own5 hg5 hgg5 hb5))
          have HO5 := Lib.hid (ownM_more (cs := [s[k]]) own5 (by simp [byteCells]))
          have HB5 := Lib.hid ((HBX.out.alloc HBX.out.size (.cells #[.int .u8 (s[k].toNat : Int)] 5)).trans hb5)
          clear own5 hg5 hgg5 hb5
          go_roundw
          case rel => exact ⟨k + 1, mk + 1, _, _, by omega, by go_num, rfl, (show OwnM _ _ _ _ _ by rw [HE.out, HEs.out]; exact HO5.out), HB5.out, by omega⟩
          case measure => simp [intOf]; omega
      · have HLa := Lib.hid hla; clear hla
        have HEs := Lib.hid (addrE_keep (f := false) (show keepB false s[k] = true by simp [keepB, HLa.out]))
        go_wp2_with (first | (go_at_call 12; refine (tmplIsLetter_any _ _ _ HLa.out).mono ?_; rintro e wx ⟨rfl, rfl⟩) | (at_builtin; have hh := HOX.out.alloc (.cells #[.int .u8 (s[k].toNat : Int)] 5); have k1 : (mk + 1) * 1 ≤ 140737488355328 := (by omega); have k2 : mk + 1 ≤ maxLen := (by unfold maxLen; omega); have k3 : w.heap.size ≤ (World.alloc wr (.cells #[.int .u8 (s[k].toNat : Int)] 5)).heap.size := (by have := HBX.out.size; simp; omega); have k4 := cell_new wr [.int .u8 (s[k].toNat : Int)] 5 (World.heap wr).size rfl; go_must (refine wpList_app _ rfl (.tmp 41) (.tmp 43) 26 rfl w.heap.size 5 (.int .u8 0) 1 Try.underlying26 info_byteQ rfl (.slice Ao mk co) mk _ rfl hh [.int .u8 (s[k].toNat : Int)] 1 rfl (by omega) _ (by first | rfl | simp) k4 (by intro u hu; simp at hu; first | (rcases hu with rfl | rfl <;> rfl) | (subst hu; rfl)) k1 k2 k3 ?_); clear hh k1 k2 k3 k4; intro g5 c5 w5 own5 hg5 hgg5 hb5))
        have HO5 := Lib.hid (ownM_more (cs := [s[k]]) own5 (by simp [byteCells]))
        have HB5 := Lib.hid ((HBX.out.alloc HBX.out.size (.cells #[.int .u8 (s[k].toNat : Int)] 5)).trans hb5)
        clear own5 hg5 hgg5 hb5
        go_roundw
        case rel => exact ⟨k + 1, mk + 1, _, _, by omega, by go_num, rfl, (show OwnM _ _ _ _ _ by rw [HE.out, HEs.out]; exact HO5.out), HB5.out, by omega⟩
        case measure => simp [intOf]; omega
    · have hke : k = s.size := by omega
      have HAll := Lib.hid (show addrEL false (s.data.toList.take k) = addrEL false s.data.toList by rw [hke, List.take_of_length_le (by rw [size_toList]; exact Nat.le_refl _)])
      have hown := HOX.out
      unfold OwnM at hown
      rw [HAll.out] at hown
      have hcv := conv_row hown
      obtain ⟨z, hz⟩ : ∃ z : ByteArray, (⟨(addrEL false s.data.toList).toArray⟩ : ByteArray) = z := ⟨_, rfl⟩
      rw [hz] at hcv
      have hzs : z.size ≤ 2097152 := by
        have h1 := addrEL_le false s.data.toList
        rw [size_toList] at h1
        rw [← hz]
        show (addrEL false s.data.toList).length ≤ 2097152
        omega
      have HZ := Lib.hid (show (⟨(escL z.data.toList).toArray⟩ : ByteArray) = ⟨(escL (addrEL false s.data.toList)).toArray⟩ by rw [← hz])
      clear hke hown hz
      go_wp2_with (go_at_call 7; go_must (refine (escape_q z _ _ HZ.out hzs).mono ?_); rintro e w5 ⟨rfl, hb⟩; have HB5 := Lib.hid (HBX.out.trans (hb.mono HBX.out.size)); clear hb)
      go_ret
      exact ⟨rfl, HB5.out⟩

set_option maxRecDepth 100000 in
set_option maxHeartbeats 4000000 in
theorem escapeAddr_true (s : ByteArray) (w : World) (hs : s.size ≤ 200000) (hbad : badB s.data.toList = false) :
    Calls Try.prog 5 #[.string s, .bool true] w fun e w' => e = .returned (.string ⟨(escL (addrEL true s.data.toList)).toArray⟩) ∧ Below w.heap.size w w' := by
  have HBad := Lib.hid hbad; clear hbad
  go_enter Try.func5, Try.ntmps5
  go_wp2_with (go_at_call 11; go_must (refine (badScheme_q s false _ (by omega) HBad.out).mono ?_); rintro e w1 ⟨rfl, hb⟩; have HB1 := Lib.hid hb; clear hb)
  go_loopw [5, 6] (fun t5 t wr => ∃ (k mk : Nat) (Ao : Option Addr) (co : Nat), k ≤ s.size ∧ t = .int .i64 k ∧ t5 = .slice Ao mk co ∧ Hid (OwnM w.heap.size wr (.slice Ao mk co) mk (addrEL true (s.data.toList.take k))) ∧ Hid (Below w.heap.size w wr) ∧ mk ≤ 3 * k) (fun _ t _ => s.size - (intOf t).toNat)
  case atStart => exact ⟨0, 0, none, 0, Nat.zero_le _, rfl, rfl, (show OwnM _ _ _ _ _ from World.ownsRow_nil w1 _ 5 1), HB1.out, Nat.zero_le _⟩
  case round =>
    obtain ⟨k, mk, Ao, co, hk, rfl, rfl, HOX, HBX, hmk⟩ := hrel
    by_cases hlt : k < s.size
    · have HE := Lib.hid (addrEL_take (f := true) (byteQ hlt))
      have hcb : (s[k].toNat : Int) < 256 := by have := s[k].toNat_lt; omega
      cases hla : isLetterP (s[k].toNat : Int)
      · have HLa := Lib.hid hla; clear hla
        cases hdi : isDigitP (s[k].toNat : Int)
        · have HDi := Lib.hid hdi; clear hdi
          obtain ⟨v1, hv1⟩ : ∃ v, Lib.indexByte (⟨#[45, 95, 46, 126]⟩ : ByteArray).data.toList s[k] = v := ⟨_, rfl⟩
          have H1 := Lib.hid hv1; clear hv1
          by_cases h1 : 0 ≤ v1
          · have HEs := Lib.hid (addrE_keep (f := true) (show keepB true s[k] = true by simp [keepB, H1.out, h1]))
            go_wp2_with (first | (go_at_call 12; refine (tmplIsLetter_any _ _ _ HLa.out).mono ?_; rintro e wx ⟨rfl, rfl⟩) | (go_at_call 13; refine (tmplIsDigit_any _ _ _ HDi.out).mono ?_; rintro e wx ⟨rfl, rfl⟩) | (go_at_call 14; (with_reducible refine (byte_v ⟨#[45, 95, 46, 126]⟩ s[k] _ v1 _ rfl H1.out).mono ?_); rintro e wx ⟨rfl, rfl⟩) | (at_builtin; have hh := HOX.out.alloc (.cells #[.int .u8 (s[k].toNat : Int)] 5); have k1 : (mk + 1) * 1 ≤ 140737488355328 := (by omega); have k2 : mk + 1 ≤ maxLen := (by unfold maxLen; omega); have k3 : w.heap.size ≤ (World.alloc wr (.cells #[.int .u8 (s[k].toNat : Int)] 5)).heap.size := (by have := HBX.out.size; simp; omega); have k4 := cell_new wr [.int .u8 (s[k].toNat : Int)] 5 (World.heap wr).size rfl; go_must (refine wpList_app _ rfl (.tmp 41) (.tmp 43) 26 rfl w.heap.size 5 (.int .u8 0) 1 Try.underlying26 info_byteQ rfl (.slice Ao mk co) mk _ rfl hh [.int .u8 (s[k].toNat : Int)] 1 rfl (by omega) _ (by first | rfl | simp) k4 (by intro u hu; simp at hu; first | (rcases hu with rfl | rfl <;> rfl) | (subst hu; rfl)) k1 k2 k3 ?_); clear hh k1 k2 k3 k4; intro g5 c5 w5 own5 hg5 hgg5 hb5))
            have HO5 := Lib.hid (ownM_more (cs := [s[k]]) own5 (by simp [byteCells]))
            have HB5 := Lib.hid ((HBX.out.alloc HBX.out.size (.cells #[.int .u8 (s[k].toNat : Int)] 5)).trans hb5)
            clear own5 hg5 hgg5 hb5
            go_roundw
            case rel => exact ⟨k + 1, mk + 1, _, _, by omega, by go_num, rfl, (show OwnM _ _ _ _ _ by rw [HE.out, HEs.out]; exact HO5.out), HB5.out, by omega⟩
            case measure => simp [intOf]; omega
          · obtain ⟨v2, hv2⟩ : ∃ v, Lib.indexByte (⟨#[58, 47, 63, 35, 61, 38, 37, 43, 44, 64]⟩ : ByteArray).data.toList s[k] = v := ⟨_, rfl⟩
            have H2 := Lib.hid hv2; clear hv2
            by_cases h2 : 0 ≤ v2
            · have HEs := Lib.hid (addrE_keep (f := true) (show keepB true s[k] = true by simp [keepB, H2.out, h2]))
              go_wp2_with (first | (go_at_call 12; refine (tmplIsLetter_any _ _ _ HLa.out).mono ?_; rintro e wx ⟨rfl, rfl⟩) | (go_at_call 13; refine (tmplIsDigit_any _ _ _ HDi.out).mono ?_; rintro e wx ⟨rfl, rfl⟩) | (go_at_call 14; (with_reducible refine (byte_v ⟨#[45, 95, 46, 126]⟩ s[k] _ v1 _ rfl H1.out).mono ?_); rintro e wx ⟨rfl, rfl⟩) | (go_at_call 14; (with_reducible refine (byte_v ⟨#[58, 47, 63, 35, 61, 38, 37, 43, 44, 64]⟩ s[k] _ v2 _ rfl H2.out).mono ?_); rintro e wx ⟨rfl, rfl⟩) | (at_builtin; have hh := HOX.out.alloc (.cells #[.int .u8 (s[k].toNat : Int)] 5); have k1 : (mk + 1) * 1 ≤ 140737488355328 := (by omega); have k2 : mk + 1 ≤ maxLen := (by unfold maxLen; omega); have k3 : w.heap.size ≤ (World.alloc wr (.cells #[.int .u8 (s[k].toNat : Int)] 5)).heap.size := (by have := HBX.out.size; simp; omega); have k4 := cell_new wr [.int .u8 (s[k].toNat : Int)] 5 (World.heap wr).size rfl; go_must (refine wpList_app _ rfl (.tmp 41) (.tmp 43) 26 rfl w.heap.size 5 (.int .u8 0) 1 Try.underlying26 info_byteQ rfl (.slice Ao mk co) mk _ rfl hh [.int .u8 (s[k].toNat : Int)] 1 rfl (by omega) _ (by first | rfl | simp) k4 (by intro u hu; simp at hu; first | (rcases hu with rfl | rfl <;> rfl) | (subst hu; rfl)) k1 k2 k3 ?_); clear hh k1 k2 k3 k4; intro g5 c5 w5 own5 hg5 hgg5 hb5))
              have HO5 := Lib.hid (ownM_more (cs := [s[k]]) own5 (by simp [byteCells]))
              have HB5 := Lib.hid ((HBX.out.alloc HBX.out.size (.cells #[.int .u8 (s[k].toNat : Int)] 5)).trans hb5)
              clear own5 hg5 hgg5 hb5
              go_roundw
              case rel => exact ⟨k + 1, mk + 1, _, _, by omega, by go_num, rfl, (show OwnM _ _ _ _ _ by rw [HE.out, HEs.out]; exact HO5.out), HB5.out, by omega⟩
              case measure => simp [intOf]; omega
            · have HEs := Lib.hid (addrE_not (f := true) (show keepB true s[k] = false by simp only [keepB, HLa.out, HDi.out, H1.out, H2.out]; simp; omega))
              obtain ⟨h, hh⟩ : ∃ h : Nat, s[k].toNat / 16 = h := ⟨_, rfl⟩
              obtain ⟨l, hl⟩ : ∃ l : Nat, s[k].toNat % 16 = l := ⟨_, rfl⟩
              have hh16 : h < 16 := by have := s[k].toNat_lt; omega
              have hl16 : l < 16 := by omega
              have d1 : (s[k].toNat : Int) / 16 = (h : Int) := by omega
              have d2 : Go.bits BinOp.and IntKind.u8 (s[k].toNat : Int) 15 = (l : Int) := by rw [and15, hl]
              have d3 : (h : Int) < 16 := by omega
              have d4 : (l : Int) < 16 := by omega
              have x1 : (⟨#[48, 49, 50, 51, 52, 53, 54, 55, 56, 57, 65, 66, 67, 68, 69, 70]⟩ : ByteArray)[h]'hh16 = hexU h := hexU_at h hh16
              have x2 : (⟨#[48, 49, 50, 51, 52, 53, 54, 55, 56, 57, 65, 66, 67, 68, 69, 70]⟩ : ByteArray)[l]'hl16 = hexU l := hexU_at l hl16
              rw [hh, hl] at HEs
              have HH := Lib.hid hh
              have HL := Lib.hid hl
              clear hh hl
              go_wp2_with (first | (go_at_call 12; refine (tmplIsLetter_any _ _ _ HLa.out).mono ?_; rintro e wx ⟨rfl, rfl⟩) | (go_at_call 13; refine (tmplIsDigit_any _ _ _ HDi.out).mono ?_; rintro e wx ⟨rfl, rfl⟩) | (go_at_call 14; (with_reducible refine (byte_v ⟨#[45, 95, 46, 126]⟩ s[k] _ v1 _ rfl H1.out).mono ?_); rintro e wx ⟨rfl, rfl⟩) | (go_at_call 14; (with_reducible refine (byte_v ⟨#[58, 47, 63, 35, 61, 38, 37, 43, 44, 64]⟩ s[k] _ v2 _ rfl H2.out).mono ?_); rintro e wx ⟨rfl, rfl⟩))
              go_region_law (refine step_app rfl (.tmp 45) (.tmp 52) 26 rfl w.heap.size 5 (.int .u8 0) 1 Try.underlying26 info_byteQ rfl (.slice Ao mk co) mk _ (by simp [Act.eval]) ((own_drew HOX.out).alloc (.cells #[.int .u8 37, .int .u8 ((hexU h).toNat : Int), .int .u8 ((hexU l).toNat : Int)] 5)) [.int .u8 37, .int .u8 ((hexU h).toNat : Int), .int .u8 ((hexU l).toNat : Int)] 3 rfl (by omega) _ (by simp [Act.eval]) (cell_new _ _ _ _ rfl) (by intro u hu; simp at hu; rcases hu with rfl | rfl | rfl <;> rfl) (by omega) (by unfold maxLen; omega) (by have := HBX.out.size; simp; omega) ?_
                             intro g5 c5 w5 own5 hg5 hgg5 hb5)
              all_goals
                (try go_wp2_with fail)
                have HO5 := Lib.hid (ownM_more (cs := [37, hexU h, hexU l]) own5 (by simp [byteCells]))
                have HB5 := Lib.hid (((HBX.out.drew).alloc HBX.out.size (.cells #[.int .u8 37, .int .u8 ((hexU h).toNat : Int), .int .u8 ((hexU l).toNat : Int)] 5)).trans hb5)
                clear own5 hg5 hgg5 hb5
                go_roundw
                case rel => exact ⟨k + 1, mk + 3, _, _, by omega, by go_num, rfl, (show OwnM _ _ _ _ _ by rw [HE.out, HEs.out]; exact HO5.out), HB5.out, by omega⟩
                case measure => simp [intOf]; omega
        · have HDi := Lib.hid hdi; clear hdi
          have HEs := Lib.hid (addrE_keep (f := true) (show keepB true s[k] = true by simp [keepB, HDi.out]))
          go_wp2_with (first | (go_at_call 12; refine (tmplIsLetter_any _ _ _ HLa.out).mono ?_; rintro e wx ⟨rfl, rfl⟩) | (go_at_call 13; refine (tmplIsDigit_any _ _ _ HDi.out).mono ?_; rintro e wx ⟨rfl, rfl⟩) | (at_builtin; have hh := HOX.out.alloc (.cells #[.int .u8 (s[k].toNat : Int)] 5); have k1 : (mk + 1) * 1 ≤ 140737488355328 := (by omega); have k2 : mk + 1 ≤ maxLen := (by unfold maxLen; omega); have k3 : w.heap.size ≤ (World.alloc wr (.cells #[.int .u8 (s[k].toNat : Int)] 5)).heap.size := (by have := HBX.out.size; simp; omega); have k4 := cell_new wr [.int .u8 (s[k].toNat : Int)] 5 (World.heap wr).size rfl; go_must (refine wpList_app _ rfl (.tmp 41) (.tmp 43) 26 rfl w.heap.size 5 (.int .u8 0) 1 Try.underlying26 info_byteQ rfl (.slice Ao mk co) mk _ rfl hh [.int .u8 (s[k].toNat : Int)] 1 rfl (by omega) _ (by first | rfl | simp) k4 (by intro u hu; simp at hu; first | (rcases hu with rfl | rfl <;> rfl) | (subst hu; rfl)) k1 k2 k3 ?_); clear hh k1 k2 k3 k4; intro g5 c5 w5 own5 hg5 hgg5 hb5))
          have HO5 := Lib.hid (ownM_more (cs := [s[k]]) own5 (by simp [byteCells]))
          have HB5 := Lib.hid ((HBX.out.alloc HBX.out.size (.cells #[.int .u8 (s[k].toNat : Int)] 5)).trans hb5)
          clear own5 hg5 hgg5 hb5
          go_roundw
          case rel => exact ⟨k + 1, mk + 1, _, _, by omega, by go_num, rfl, (show OwnM _ _ _ _ _ by rw [HE.out, HEs.out]; exact HO5.out), HB5.out, by omega⟩
          case measure => simp [intOf]; omega
      · have HLa := Lib.hid hla; clear hla
        have HEs := Lib.hid (addrE_keep (f := true) (show keepB true s[k] = true by simp [keepB, HLa.out]))
        go_wp2_with (first | (go_at_call 12; refine (tmplIsLetter_any _ _ _ HLa.out).mono ?_; rintro e wx ⟨rfl, rfl⟩) | (at_builtin; have hh := HOX.out.alloc (.cells #[.int .u8 (s[k].toNat : Int)] 5); have k1 : (mk + 1) * 1 ≤ 140737488355328 := (by omega); have k2 : mk + 1 ≤ maxLen := (by unfold maxLen; omega); have k3 : w.heap.size ≤ (World.alloc wr (.cells #[.int .u8 (s[k].toNat : Int)] 5)).heap.size := (by have := HBX.out.size; simp; omega); have k4 := cell_new wr [.int .u8 (s[k].toNat : Int)] 5 (World.heap wr).size rfl; go_must (refine wpList_app _ rfl (.tmp 41) (.tmp 43) 26 rfl w.heap.size 5 (.int .u8 0) 1 Try.underlying26 info_byteQ rfl (.slice Ao mk co) mk _ rfl hh [.int .u8 (s[k].toNat : Int)] 1 rfl (by omega) _ (by first | rfl | simp) k4 (by intro u hu; simp at hu; first | (rcases hu with rfl | rfl <;> rfl) | (subst hu; rfl)) k1 k2 k3 ?_); clear hh k1 k2 k3 k4; intro g5 c5 w5 own5 hg5 hgg5 hb5))
        have HO5 := Lib.hid (ownM_more (cs := [s[k]]) own5 (by simp [byteCells]))
        have HB5 := Lib.hid ((HBX.out.alloc HBX.out.size (.cells #[.int .u8 (s[k].toNat : Int)] 5)).trans hb5)
        clear own5 hg5 hgg5 hb5
        go_roundw
        case rel => exact ⟨k + 1, mk + 1, _, _, by omega, by go_num, rfl, (show OwnM _ _ _ _ _ by rw [HE.out, HEs.out]; exact HO5.out), HB5.out, by omega⟩
        case measure => simp [intOf]; omega
    · have hke : k = s.size := by omega
      have HAll := Lib.hid (show addrEL true (s.data.toList.take k) = addrEL true s.data.toList by rw [hke, List.take_of_length_le (by rw [size_toList]; exact Nat.le_refl _)])
      have hown := HOX.out
      unfold OwnM at hown
      rw [HAll.out] at hown
      have hcv := conv_row hown
      obtain ⟨z, hz⟩ : ∃ z : ByteArray, (⟨(addrEL true s.data.toList).toArray⟩ : ByteArray) = z := ⟨_, rfl⟩
      rw [hz] at hcv
      have hzs : z.size ≤ 2097152 := by
        have h1 := addrEL_le true s.data.toList
        rw [size_toList] at h1
        rw [← hz]
        show (addrEL true s.data.toList).length ≤ 2097152
        omega
      have HZ := Lib.hid (show (⟨(escL z.data.toList).toArray⟩ : ByteArray) = ⟨(escL (addrEL true s.data.toList)).toArray⟩ by rw [← hz])
      clear hke hown hz
      go_wp2_with (go_at_call 7; go_must (refine (escape_q z _ _ HZ.out hzs).mono ?_); rintro e w5 ⟨rfl, hb⟩; have HB5 := Lib.hid (HBX.out.trans (hb.mono HBX.out.size)); clear hb)
      go_ret
      exact ⟨rfl, HB5.out⟩

set_option maxRecDepth 100000 in
set_option maxHeartbeats 4000000 in
theorem addrEscaped_false (s : ByteArray) (w : World) (hs : s.size ≤ 200000) :
    Calls Try.prog 6 #[.string s, .bool false] w fun e w' => e = .returned (.string ⟨(escL (addrEL false s.data.toList)).toArray⟩) ∧ Below w.heap.size w w' := by

  go_enter Try.func6, Try.ntmps6
  go_wp2_with fail
  go_loopw [5, 6] (fun t5 t wr => ∃ (k : Nat) (z : ByteArray), k ≤ s.size ∧ t = .int .i64 k ∧ t5 = .string z ∧ Hid (z.data.toList = addrEL false (s.data.toList.take k)) ∧ Hid (Below w.heap.size w wr) ∧ z.size ≤ 3 * k) (fun _ t _ => s.size - (intOf t).toNat)
  case atStart => exact ⟨0, ⟨#[]⟩, Nat.zero_le _, rfl, rfl, rfl, Below.refl _ _, Nat.zero_le _⟩
  case round =>
    obtain ⟨k, z, hk, rfl, rfl, HZ, HB, hzk⟩ := hrel
    by_cases hlt : k < s.size
    · have HE := Lib.hid (addrEL_take (f := false) (byteQ hlt))
      have hcb : (s[k].toNat : Int) < 256 := by have := s[k].toNat_lt; omega
      cases hla : isLetterP (s[k].toNat : Int)
      · have HLa := Lib.hid hla; clear hla
        cases hdi : isDigitP (s[k].toNat : Int)
        · have HDi := Lib.hid hdi; clear hdi
          obtain ⟨v1, hv1⟩ : ∃ v, Lib.indexByte (⟨#[45, 95, 46, 126]⟩ : ByteArray).data.toList s[k] = v := ⟨_, rfl⟩
          have H1 := Lib.hid hv1; clear hv1
          by_cases h1 : 0 ≤ v1
          · have HEs := Lib.hid (addrE_keep (f := false) (show keepB false s[k] = true by simp [keepB, H1.out, h1]))
            have f1 : (k : Int) + 1 ≤ (s.size : Int) := by omega
            have hkk : (k : Int) ≤ (k : Int) + 1 := by omega
            obtain ⟨y, hy⟩ : ∃ y, s.extract k (k + 1) = y := ⟨_, rfl⟩
            have HY := Lib.hid (show y.data.toList = [s[k]] by rw [← hy]; exact one_cut s k hlt)
            have hys : y.size = 1 := by rw [← size_toList, HY.out]; rfl
            go_wp2_with (first | (go_at_call 16; refine (refIsLetter_any _ _ _ HLa.out).mono ?_; rintro e wx ⟨rfl, rfl⟩) | (go_at_call 17; refine (refIsDigit_any _ _ _ HDi.out).mono ?_; rintro e wx ⟨rfl, rfl⟩) | (go_at_call 14; (with_reducible refine (byte_v ⟨#[45, 95, 46, 126]⟩ s[k] _ v1 _ rfl H1.out).mono ?_); rintro e wx ⟨rfl, rfl⟩))
            go_roundw
            case rel =>
              refine ⟨k + 1, _, by omega, by go_num, rfl, ?_, HB.out, ?_⟩
              · show _ = _
                rw [HE.out, HEs.out]
                simp only [ByteArray.data_append, Array.toList_append, HZ.out, HY.out]
              · simp only [ByteArray.size_append, hys]; omega
            case measure => simp [intOf]; omega
          · have HEs := Lib.hid (addrE_not (f := false) (show keepB false s[k] = false by simp only [keepB, HLa.out, HDi.out, H1.out]; simp; omega))
            obtain ⟨h, hh⟩ : ∃ h : Nat, s[k].toNat / 16 = h := ⟨_, rfl⟩
            obtain ⟨l, hl⟩ : ∃ l : Nat, s[k].toNat % 16 = l := ⟨_, rfl⟩
            have hh16 : h < 16 := by have := s[k].toNat_lt; omega
            have hl16 : l < 16 := by omega
            have d1 : (s[k].toNat : Int) / 16 = (h : Int) := by omega
            have d2 : (s[k].toNat : Int) % 16 = (l : Int) := by omega
            have d3 : (h : Int) < 16 := by omega
            have d4 : (l : Int) < 16 := by omega
            have x1 := hexU_cut h hh16
            have x2 := hexU_cut l hl16
            rw [hh, hl] at HEs
            have HH := Lib.hid hh
            have HL := Lib.hid hl
            clear hh hl
            go_wp2_with (first | (go_at_call 16; refine (refIsLetter_any _ _ _ HLa.out).mono ?_; rintro e wx ⟨rfl, rfl⟩) | (go_at_call 17; refine (refIsDigit_any _ _ _ HDi.out).mono ?_; rintro e wx ⟨rfl, rfl⟩) | (go_at_call 14; (with_reducible refine (byte_v ⟨#[45, 95, 46, 126]⟩ s[k] _ v1 _ rfl H1.out).mono ?_); rintro e wx ⟨rfl, rfl⟩))
            go_quiet (fail)
            go_wp2_with fail
            go_roundw
            case rel =>
              refine ⟨k + 1, _, by omega, by go_num, rfl, ?_, Below.drewN' HB.out _, ?_⟩
              · show _ = _
                rw [HE.out, HEs.out]
                simp only [ByteArray.data_append, Array.toList_append, HZ.out]
                simp
              · simp only [ByteArray.size_append]
                have e1 : (⟨#[37]⟩ : ByteArray).size = 1 := rfl
                have e2 : (⟨#[hexU h]⟩ : ByteArray).size = 1 := rfl
                have e3 : (⟨#[hexU l]⟩ : ByteArray).size = 1 := rfl
                omega
            case measure => simp [intOf]; omega
        · have HDi := Lib.hid hdi; clear hdi
          have HEs := Lib.hid (addrE_keep (f := false) (show keepB false s[k] = true by simp [keepB, HDi.out]))
          have f1 : (k : Int) + 1 ≤ (s.size : Int) := by omega
          have hkk : (k : Int) ≤ (k : Int) + 1 := by omega
          obtain ⟨y, hy⟩ : ∃ y, s.extract k (k + 1) = y := ⟨_, rfl⟩
          have HY := Lib.hid (show y.data.toList = [s[k]] by rw [← hy]; exact one_cut s k hlt)
          have hys : y.size = 1 := by rw [← size_toList, HY.out]; rfl
          go_wp2_with (first | (go_at_call 16; refine (refIsLetter_any _ _ _ HLa.out).mono ?_; rintro e wx ⟨rfl, rfl⟩) | (go_at_call 17; refine (refIsDigit_any _ _ _ HDi.out).mono ?_; rintro e wx ⟨rfl, rfl⟩))
          go_roundw
          case rel =>
            refine ⟨k + 1, _, by omega, by go_num, rfl, ?_, HB.out, ?_⟩
            · show _ = _
              rw [HE.out, HEs.out]
              simp only [ByteArray.data_append, Array.toList_append, HZ.out, HY.out]
            · simp only [ByteArray.size_append, hys]; omega
          case measure => simp [intOf]; omega
      · have HLa := Lib.hid hla; clear hla
        have HEs := Lib.hid (addrE_keep (f := false) (show keepB false s[k] = true by simp [keepB, HLa.out]))
        have f1 : (k : Int) + 1 ≤ (s.size : Int) := by omega
        have hkk : (k : Int) ≤ (k : Int) + 1 := by omega
        obtain ⟨y, hy⟩ : ∃ y, s.extract k (k + 1) = y := ⟨_, rfl⟩
        have HY := Lib.hid (show y.data.toList = [s[k]] by rw [← hy]; exact one_cut s k hlt)
        have hys : y.size = 1 := by rw [← size_toList, HY.out]; rfl
        go_wp2_with (first | (go_at_call 16; refine (refIsLetter_any _ _ _ HLa.out).mono ?_; rintro e wx ⟨rfl, rfl⟩))
        go_roundw
        case rel =>
          refine ⟨k + 1, _, by omega, by go_num, rfl, ?_, HB.out, ?_⟩
          · show _ = _
            rw [HE.out, HEs.out]
            simp only [ByteArray.data_append, Array.toList_append, HZ.out, HY.out]
          · simp only [ByteArray.size_append, hys]; omega
        case measure => simp [intOf]; omega
    · have hke : k = s.size := by omega
      have HAll := Lib.hid (show (⟨(escL z.data.toList).toArray⟩ : ByteArray) = ⟨(escL (addrEL false s.data.toList)).toArray⟩ by rw [HZ.out, hke, List.take_of_length_le (by rw [size_toList]; exact Nat.le_refl _)])
      clear hke
      go_wp2_with (go_at_call 8; go_must (refine (escaped_q2 z _ _ HAll.out (by omega)).mono ?_); rintro e w5 ⟨rfl, rfl⟩)
      go_ret
      exact ⟨rfl, HB.out⟩

set_option maxRecDepth 100000 in
set_option maxHeartbeats 4000000 in
theorem addrEscaped_true (s : ByteArray) (w : World) (hs : s.size ≤ 200000) (hbad : (!badB s.data.toList) = true) :
    Calls Try.prog 6 #[.string s, .bool true] w fun e w' => e = .returned (.string ⟨(escL (addrEL true s.data.toList)).toArray⟩) ∧ Below w.heap.size w w' := by
  have HBad := Lib.hid hbad; clear hbad
  go_enter Try.func6, Try.ntmps6
  go_wp2_with (go_at_call 15; go_must (refine (safeScheme_q s true _ (by omega) HBad.out).mono ?_); rintro e w1 ⟨rfl, hb⟩; have HB1 := Lib.hid hb; clear hb)
  go_loopw [5, 6] (fun t5 t wr => ∃ (k : Nat) (z : ByteArray), k ≤ s.size ∧ t = .int .i64 k ∧ t5 = .string z ∧ Hid (z.data.toList = addrEL true (s.data.toList.take k)) ∧ Hid (Below w.heap.size w wr) ∧ z.size ≤ 3 * k) (fun _ t _ => s.size - (intOf t).toNat)
  case atStart => exact ⟨0, ⟨#[]⟩, Nat.zero_le _, rfl, rfl, rfl, HB1.out, Nat.zero_le _⟩
  case round =>
    obtain ⟨k, z, hk, rfl, rfl, HZ, HB, hzk⟩ := hrel
    by_cases hlt : k < s.size
    · have HE := Lib.hid (addrEL_take (f := true) (byteQ hlt))
      have hcb : (s[k].toNat : Int) < 256 := by have := s[k].toNat_lt; omega
      cases hla : isLetterP (s[k].toNat : Int)
      · have HLa := Lib.hid hla; clear hla
        cases hdi : isDigitP (s[k].toNat : Int)
        · have HDi := Lib.hid hdi; clear hdi
          obtain ⟨v1, hv1⟩ : ∃ v, Lib.indexByte (⟨#[45, 95, 46, 126]⟩ : ByteArray).data.toList s[k] = v := ⟨_, rfl⟩
          have H1 := Lib.hid hv1; clear hv1
          by_cases h1 : 0 ≤ v1
          · have HEs := Lib.hid (addrE_keep (f := true) (show keepB true s[k] = true by simp [keepB, H1.out, h1]))
            have f1 : (k : Int) + 1 ≤ (s.size : Int) := by omega
            have hkk : (k : Int) ≤ (k : Int) + 1 := by omega
            obtain ⟨y, hy⟩ : ∃ y, s.extract k (k + 1) = y := ⟨_, rfl⟩
            have HY := Lib.hid (show y.data.toList = [s[k]] by rw [← hy]; exact one_cut s k hlt)
            have hys : y.size = 1 := by rw [← size_toList, HY.out]; rfl
            go_wp2_with (first | (go_at_call 16; refine (refIsLetter_any _ _ _ HLa.out).mono ?_; rintro e wx ⟨rfl, rfl⟩) | (go_at_call 17; refine (refIsDigit_any _ _ _ HDi.out).mono ?_; rintro e wx ⟨rfl, rfl⟩) | (go_at_call 14; (with_reducible refine (byte_v ⟨#[45, 95, 46, 126]⟩ s[k] _ v1 _ rfl H1.out).mono ?_); rintro e wx ⟨rfl, rfl⟩))
            go_roundw
            case rel =>
              refine ⟨k + 1, _, by omega, by go_num, rfl, ?_, HB.out, ?_⟩
              · show _ = _
                rw [HE.out, HEs.out]
                simp only [ByteArray.data_append, Array.toList_append, HZ.out, HY.out]
              · simp only [ByteArray.size_append, hys]; omega
            case measure => simp [intOf]; omega
          · obtain ⟨v2, hv2⟩ : ∃ v, Lib.indexByte (⟨#[58, 47, 63, 35, 61, 38, 37, 43, 44, 64]⟩ : ByteArray).data.toList s[k] = v := ⟨_, rfl⟩
            have H2 := Lib.hid hv2; clear hv2
            by_cases h2 : 0 ≤ v2
            · have HEs := Lib.hid (addrE_keep (f := true) (show keepB true s[k] = true by simp [keepB, H2.out, h2]))
              have f1 : (k : Int) + 1 ≤ (s.size : Int) := by omega
              have hkk : (k : Int) ≤ (k : Int) + 1 := by omega
              obtain ⟨y, hy⟩ : ∃ y, s.extract k (k + 1) = y := ⟨_, rfl⟩
              have HY := Lib.hid (show y.data.toList = [s[k]] by rw [← hy]; exact one_cut s k hlt)
              have hys : y.size = 1 := by rw [← size_toList, HY.out]; rfl
              go_wp2_with (first | (go_at_call 16; refine (refIsLetter_any _ _ _ HLa.out).mono ?_; rintro e wx ⟨rfl, rfl⟩) | (go_at_call 17; refine (refIsDigit_any _ _ _ HDi.out).mono ?_; rintro e wx ⟨rfl, rfl⟩) | (go_at_call 14; (with_reducible refine (byte_v ⟨#[45, 95, 46, 126]⟩ s[k] _ v1 _ rfl H1.out).mono ?_); rintro e wx ⟨rfl, rfl⟩) | (go_at_call 14; (with_reducible refine (byte_v ⟨#[58, 47, 63, 35, 61, 38, 37, 43, 44, 64]⟩ s[k] _ v2 _ rfl H2.out).mono ?_); rintro e wx ⟨rfl, rfl⟩))
              go_roundw
              case rel =>
                refine ⟨k + 1, _, by omega, by go_num, rfl, ?_, HB.out, ?_⟩
                · show _ = _
                  rw [HE.out, HEs.out]
                  simp only [ByteArray.data_append, Array.toList_append, HZ.out, HY.out]
                · simp only [ByteArray.size_append, hys]; omega
              case measure => simp [intOf]; omega
            · have HEs := Lib.hid (addrE_not (f := true) (show keepB true s[k] = false by simp only [keepB, HLa.out, HDi.out, H1.out, H2.out]; simp; omega))
              obtain ⟨h, hh⟩ : ∃ h : Nat, s[k].toNat / 16 = h := ⟨_, rfl⟩
              obtain ⟨l, hl⟩ : ∃ l : Nat, s[k].toNat % 16 = l := ⟨_, rfl⟩
              have hh16 : h < 16 := by have := s[k].toNat_lt; omega
              have hl16 : l < 16 := by omega
              have d1 : (s[k].toNat : Int) / 16 = (h : Int) := by omega
              have d2 : (s[k].toNat : Int) % 16 = (l : Int) := by omega
              have d3 : (h : Int) < 16 := by omega
              have d4 : (l : Int) < 16 := by omega
              have x1 := hexU_cut h hh16
              have x2 := hexU_cut l hl16
              rw [hh, hl] at HEs
              have HH := Lib.hid hh
              have HL := Lib.hid hl
              clear hh hl
              go_wp2_with (first | (go_at_call 16; refine (refIsLetter_any _ _ _ HLa.out).mono ?_; rintro e wx ⟨rfl, rfl⟩) | (go_at_call 17; refine (refIsDigit_any _ _ _ HDi.out).mono ?_; rintro e wx ⟨rfl, rfl⟩) | (go_at_call 14; (with_reducible refine (byte_v ⟨#[45, 95, 46, 126]⟩ s[k] _ v1 _ rfl H1.out).mono ?_); rintro e wx ⟨rfl, rfl⟩) | (go_at_call 14; (with_reducible refine (byte_v ⟨#[58, 47, 63, 35, 61, 38, 37, 43, 44, 64]⟩ s[k] _ v2 _ rfl H2.out).mono ?_); rintro e wx ⟨rfl, rfl⟩))
              go_quiet (fail)
              go_wp2_with fail
              go_roundw
              case rel =>
                refine ⟨k + 1, _, by omega, by go_num, rfl, ?_, Below.drewN' HB.out _, ?_⟩
                · show _ = _
                  rw [HE.out, HEs.out]
                  simp only [ByteArray.data_append, Array.toList_append, HZ.out]
                  simp
                · simp only [ByteArray.size_append]
                  have e1 : (⟨#[37]⟩ : ByteArray).size = 1 := rfl
                  have e2 : (⟨#[hexU h]⟩ : ByteArray).size = 1 := rfl
                  have e3 : (⟨#[hexU l]⟩ : ByteArray).size = 1 := rfl
                  omega
              case measure => simp [intOf]; omega
        · have HDi := Lib.hid hdi; clear hdi
          have HEs := Lib.hid (addrE_keep (f := true) (show keepB true s[k] = true by simp [keepB, HDi.out]))
          have f1 : (k : Int) + 1 ≤ (s.size : Int) := by omega
          have hkk : (k : Int) ≤ (k : Int) + 1 := by omega
          obtain ⟨y, hy⟩ : ∃ y, s.extract k (k + 1) = y := ⟨_, rfl⟩
          have HY := Lib.hid (show y.data.toList = [s[k]] by rw [← hy]; exact one_cut s k hlt)
          have hys : y.size = 1 := by rw [← size_toList, HY.out]; rfl
          go_wp2_with (first | (go_at_call 16; refine (refIsLetter_any _ _ _ HLa.out).mono ?_; rintro e wx ⟨rfl, rfl⟩) | (go_at_call 17; refine (refIsDigit_any _ _ _ HDi.out).mono ?_; rintro e wx ⟨rfl, rfl⟩))
          go_roundw
          case rel =>
            refine ⟨k + 1, _, by omega, by go_num, rfl, ?_, HB.out, ?_⟩
            · show _ = _
              rw [HE.out, HEs.out]
              simp only [ByteArray.data_append, Array.toList_append, HZ.out, HY.out]
            · simp only [ByteArray.size_append, hys]; omega
          case measure => simp [intOf]; omega
      · have HLa := Lib.hid hla; clear hla
        have HEs := Lib.hid (addrE_keep (f := true) (show keepB true s[k] = true by simp [keepB, HLa.out]))
        have f1 : (k : Int) + 1 ≤ (s.size : Int) := by omega
        have hkk : (k : Int) ≤ (k : Int) + 1 := by omega
        obtain ⟨y, hy⟩ : ∃ y, s.extract k (k + 1) = y := ⟨_, rfl⟩
        have HY := Lib.hid (show y.data.toList = [s[k]] by rw [← hy]; exact one_cut s k hlt)
        have hys : y.size = 1 := by rw [← size_toList, HY.out]; rfl
        go_wp2_with (first | (go_at_call 16; refine (refIsLetter_any _ _ _ HLa.out).mono ?_; rintro e wx ⟨rfl, rfl⟩))
        go_roundw
        case rel =>
          refine ⟨k + 1, _, by omega, by go_num, rfl, ?_, HB.out, ?_⟩
          · show _ = _
            rw [HE.out, HEs.out]
            simp only [ByteArray.data_append, Array.toList_append, HZ.out, HY.out]
          · simp only [ByteArray.size_append, hys]; omega
        case measure => simp [intOf]; omega
    · have hke : k = s.size := by omega
      have HAll := Lib.hid (show (⟨(escL z.data.toList).toArray⟩ : ByteArray) = ⟨(escL (addrEL true s.data.toList)).toArray⟩ by rw [HZ.out, hke, List.take_of_length_le (by rw [size_toList]; exact Nat.le_refl _)])
      clear hke
      go_wp2_with (go_at_call 8; go_must (refine (escaped_q2 z _ _ HAll.out (by omega)).mono ?_); rintro e w5 ⟨rfl, rfl⟩)
      go_ret
      exact ⟨rfl, HB.out⟩

set_option maxRecDepth 100000 in
theorem escapeAddr_bad (s : ByteArray) (w : World) (hs : s.size ≤ 200000) (hbad : badB s.data.toList = true) :
    Calls Try.prog 5 #[.string s, .bool true] w fun e w' => e = .returned (.string ⟨#[35]⟩) ∧ Below w.heap.size w w' := by
  have HBad := Lib.hid hbad; clear hbad
  go_enter Try.func5, Try.ntmps5
  go_wp2_with (go_at_call 11; go_must (refine (badScheme_q s true _ (by omega) HBad.out).mono ?_); rintro e w1 ⟨rfl, hb⟩; have HB1 := Lib.hid hb; clear hb)
  go_ret
  exact ⟨rfl, HB1.out⟩
set_option maxRecDepth 100000 in
theorem addrEscaped_bad (s : ByteArray) (w : World) (hs : s.size ≤ 200000) (hbad : (!badB s.data.toList) = false) :
    Calls Try.prog 6 #[.string s, .bool true] w fun e w' => e = .returned (.string ⟨#[35]⟩) ∧ Below w.heap.size w w' := by
  have HBad := Lib.hid hbad; clear hbad
  go_enter Try.func6, Try.ntmps6
  go_wp2_with (go_at_call 15; go_must (refine (safeScheme_q s false _ (by omega) HBad.out).mono ?_); rintro e w1 ⟨rfl, hb⟩; have HB1 := Lib.hid hb; clear hb)
  go_ret
  exact ⟨rfl, HB1.out⟩

theorem escapeAddr_q (s : ByteArray) (f : Bool) (w : World) (hs : s.size ≤ 200000) :
    Calls Try.prog 5 #[.string s, .bool f] w fun e w' => e = .returned (.string (addrES f s)) ∧ Below w.heap.size w w' := by
  cases f
  · exact escapeAddr_false s w hs
  · cases h : badB s.data.toList
    · rw [show addrES true s = ⟨(escL (addrEL true s.data.toList)).toArray⟩ by rw [addrES, h]; rfl]
      exact escapeAddr_true s w hs h
    · rw [show addrES true s = ⟨#[35]⟩ by rw [addrES, h]; rfl]
      exact escapeAddr_bad s w hs h
theorem addrEscaped_q (s : ByteArray) (f : Bool) (w : World) (hs : s.size ≤ 200000) :
    Calls Try.prog 6 #[.string s, .bool f] w fun e w' => e = .returned (.string (addrES f s)) ∧ Below w.heap.size w w' := by
  cases f
  · exact addrEscaped_false s w hs
  · cases h : badB s.data.toList
    · rw [show addrES true s = ⟨(escL (addrEL true s.data.toList)).toArray⟩ by rw [addrES, h]; rfl]
      exact addrEscaped_true s w hs (by rw [h]; rfl)
    · rw [show addrES true s = ⟨#[35]⟩ by rw [addrES, h]; rfl]
      exact addrEscaped_bad s w hs (by rw [h]; rfl)

end Go.Proofs.Ytenhhknmpafpdaa
