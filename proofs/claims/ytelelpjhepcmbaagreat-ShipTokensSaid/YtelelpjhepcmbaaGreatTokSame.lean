/-
  Tokens compared: mastlaw1.sameTokens, where both lists hold the same.
-/
import Derived.Test.YtelelpjhepcmbaaGreatTokEq
import Derived.Deep.Cut
import Derived.Deep.CutRange
namespace Go.Proofs.YtelelpjhepcmbaaGreat
open Go.RowKit Go.Deep

structure FirstT (na nb : Nat) (ca cb : Array Value) (w0 w : World) : Prop where
  a : CB w na 35 ca
  b : CB w nb 35 cb
  bel : Below w0.heap.size w0 w
theorem FirstT.below {na nb : Nat} {ca cb : Array Value} {w0 w w' : World} (h : FirstT na nb ca cb w0 w) (hb : Below w.heap.size w w') : FirstT na nb ca cb w0 w' := ⟨h.a.below hb, h.b.below hb, h.bel.trans (hb.mono h.bel.size)⟩
theorem FirstT.ab (w : World) (ca cb : Array Value) : FirstT w.heap.size (w.heap.size + 1) ca cb w ((w.alloc (.cells ca 35)).alloc (.cells cb 35)).drew :=
  ⟨((CB.new w ca 35).alloc _).drew, by have := CB.new (w.alloc (.cells ca 35)) cb 35; rw [World.size_alloc] at this; exact this.drew, (((Below.refl _ _).alloc (Nat.le_refl _) _).alloc (by simp) _).drew⟩
theorem FirstT.ba (w : World) (ca cb : Array Value) : FirstT (w.heap.size + 1) w.heap.size ca cb w ((w.alloc (.cells cb 35)).alloc (.cells ca 35)).drew :=
  ⟨by have := CB.new (w.alloc (.cells cb 35)) ca 35; rw [World.size_alloc] at this; exact this.drew, ((CB.new w cb 35).alloc _).drew, (((Below.refl _ _).alloc (Nat.le_refl _) _).alloc (by simp) _).drew⟩
theorem keeps_drewN {w : World} {n : Nat} {a : Addr} {v : Value} (h : w.cell? a = some v) : (w.drewN n).cell? a = some v := h
def ToksIn (w : World) (v : Value) (L : List (TokR × Value)) : Prop := ∃ (A : Option Addr) (c b : Nat), v = .slice A L.length c ∧ L.length ≤ c ∧ c ≤ maxLen ∧ (L ≠ [] → A = some ⟨b, 0, none⟩) ∧ ∀ i x, L[i]? = some x → AttsAt w x.2 x.1.atts ∧ ∀ j u, (tokRow x)[j]? = some u → w.cell? ⟨b, i * 5 + j, none⟩ = some u
theorem ToksIn.of_own {w : World} {B : Nat} {v : Value} {L : List (TokR × Value)} (h : ToksOwn w B v L) : ToksIn w v L := by
  obtain ⟨A, c, b, h1, h2, h3, h4, h5⟩ := own_rd h.row
  refine ⟨A, c, b, h1, h2, h3, fun hne => (h4 (by cases L; exact absurd rfl hne; simp)).1, fun i x hx => ⟨.of_own (h.att x (List.mem_of_getElem? hx)), fun j u hu => ?_⟩⟩
  have hj : j < 5 := (List.getElem?_eq_some_iff.1 hu).1
  exact h5 _ _ ((flatN 5 tokRow (fun _ => rfl) L i x hx j hj).trans hu)
theorem ToksIn.keep {w w' : World} {v : Value} {L : List (TokR × Value)} (h : ToksIn w v L) (k : Keeps w w') : ToksIn w' v L := by
  obtain ⟨A, c, b, h1, h2, h3, h4, h5⟩ := h
  exact ⟨A, c, b, h1, h2, h3, h4, fun i a ha => ⟨(h5 i a ha).1.keep k, fun j u hu => k _ _ ((h5 i a ha).2 j u hu)⟩⟩

set_option maxRecDepth 100000 in
set_option maxHeartbeats 20000000 in
theorem sameToks_q (L1 L2 : List (TokR × Value)) (v1 v2 : Value) (w : World) (h1 : ToksIn w v1 L1) (h2 : ToksIn w v2 L2) (he : L1.map (·.1) = L2.map (·.1)) :
    Calls Tryz.prog 6 #[v1, v2] w fun e w' => e = .returned (.bool true) ∧ Below w.heap.size w w' := by
  have hlen : L2.length = L1.length := by have := congrArg List.length he; simpa using this.symm
  have HK1 := Lib.hid (fun wr (hb : Below w.heap.size w wr) => h1.keep (Keeps.of_below hb))
  have HK2 := Lib.hid (fun wr (hb : Below w.heap.size w wr) => h2.keep (Keeps.of_below hb))
  obtain ⟨A1, c1, b1, rfl, hl1, hc1, hA1, hcell1⟩ := h1
  obtain ⟨A2, c2, b2, rfl, hl2, hc2, hA2, hcell2⟩ := h2
  rw [hlen] at HK2 ⊢
  have HC1 := Lib.hid hcell1; have HC2 := Lib.hid hcell2
  have HA1 := Lib.hid hA1; have HA2 := Lib.hid hA2
  have HE := Lib.hid he
  have HLen := Lib.hid hlen
  have HB0 := Lib.hid (Below.refl w.heap.size w)
  clear hcell1 hcell2 hA1 hA2 he hlen hl2 hc2
  unfold maxLen at hc1
  go_enter Tryz.func6, Tryz.ntmps6
  go_wp2_with fail
  go_loopw [15] (fun i wr => ∃ k : Nat, k ≤ L1.length ∧ i = .int .i64 k ∧ Hid (Below w.heap.size w wr)) (fun i _ => L1.length - (intOf i).toNat)
  case atStart => exact ⟨0, Nat.zero_le _, rfl, HB0⟩
  case round =>
    clear HB0
    obtain ⟨k, hk, rfl, HB⟩ := hrel
    by_cases hlt : k < L1.length
    · have hne : L1 ≠ [] := by intro h; rw [h] at hlt; simp at hlt
      have hne2 : L2 ≠ [] := by intro h; have := HLen.out; rw [h] at this; simp at this; omega
      obtain rfl := HA1.out hne
      obtain rfl := HA2.out hne2
      obtain ⟨x, hx⟩ : ∃ x, L1[k]? = some x := ⟨_, List.getElem?_eq_getElem hlt⟩
      obtain ⟨z, hz⟩ : ∃ x, L2[k]? = some x := ⟨_, List.getElem?_eq_getElem (by have := HLen.out; omega)⟩
      have hxz : x.1 = z.1 := by
        have h9 := congrArg (fun l => l[k]?) HE.out
        simp only [List.getElem?_map, hx, hz, Option.map_some, Option.some.injEq] at h9
        exact h9
      obtain ⟨xa, xc⟩ := HC1.out k x hx
      obtain ⟨za, zc⟩ := HC2.out k z hz
      obtain ⟨⟨kd, at0, nm, tx, atts⟩, xv⟩ := x
      obtain ⟨zt, zv⟩ := z
      simp only at hxz
      subst hxz
      have xa := xa.keep (Keeps.of_below HB.out)
      have za := za.keep (Keeps.of_below HB.out)
      have HXA := Lib.hid xa
      have HZA := Lib.hid za
      obtain ⟨Ax, cx, bx, hxv, _⟩ := xa
      obtain ⟨Az, cz, bz, hzv, _⟩ := za
      simp only at hxv hzv HXA HZA
      subst hxv hzv
      have kb := Keeps.of_below HB.out
      have p0 := kb _ _ (xc 0 _ rfl)
      have p1 := kb _ _ (xc 1 _ rfl)
      have p2 := kb _ _ (xc 2 _ rfl)
      have p3 := kb _ _ (xc 3 _ rfl)
      have p4 := kb _ _ (xc 4 _ rfl)
      have q0 := kb _ _ (zc 0 _ rfl)
      have q1 := kb _ _ (zc 1 _ rfl)
      have q2 := kb _ _ (zc 2 _ rfl)
      have q3 := kb _ _ (zc 3 _ rfl)
      have q4 := kb _ _ (zc 4 _ rfl)
      simp only [Nat.add_zero] at p0 q0
      have e1 : (nm.toList == nm.toList) = true := by simp
      have e2 : (tx.toList == tx.toList) = true := by simp
      have l1 : b1 < wr.heap.size := World.block_lt_of_cell? _ _ p0
      have l2 : b2 < wr.heap.size := World.block_lt_of_cell? _ _ q0
      clear kb xc zc hx hz
      go_wp2_with fail
      go_cut [6, 7] from 16 to 60 (fun s6 s7 wx => ∃ na nb, s6 = .pointer (some ⟨na, 0, none⟩) ∧ s7 = .pointer (some ⟨nb, 0, none⟩) ∧ Hid (FirstT na nb #[.int .i64 kd, .int .i64 (at0 : Int), .string nm, .string tx, .slice Ax atts.length cx] #[.int .i64 kd, .int .i64 (at0 : Int), .string nm, .string tx, .slice Az atts.length cz] wr wx))
      case first =>
        go_region
        all_goals
          go_wp2_with fail
          go_meet
        all_goals first
          | exact ⟨_, _, rfl, rfl, FirstT.ab _ _ _⟩
          | exact ⟨_, _, rfl, rfl, FirstT.ba _ _ _⟩
      case rest =>
        obtain ⟨na, nb, rfl, rfl, HF⟩ := hcut
        clear p0 p1 p2 p3 p4 q0 q1 q2 q3 q4
        have a0 := HF.out.a.c 0
        have a1 := HF.out.a.c 1
        have a2 := HF.out.a.c 2
        have a3 := HF.out.a.c 3
        have a4 := HF.out.a.c 4
        have b0 := HF.out.b.c 0
        have b1 := HF.out.b.c 1
        have b2 := HF.out.b.c 2
        have b3 := HF.out.b.c 3
        have b4 := HF.out.b.c 4
        simp only [List.getElem?_toArray, List.getElem?_cons_zero, List.getElem?_cons_succ] at a0 a1 a2 a3 a4 b0 b1 b2 b3 b4
        have hna := HF.out.a.lt
        have hnb := HF.out.b.lt
        have HB5 := Lib.hid (HB.out.trans (HF.out.bel.mono HB.out.size))
        have HX5 := Lib.hid (HXA.out.keep (Keeps.of_below HF.out.bel))
        have HZ5 := Lib.hid (HZA.out.keep (Keeps.of_below HF.out.bel))
        go_wp2_with (go_at_call 13; go_must (refine (equalAtts_same atts _ _ _ HX5.out HZ5.out).mono ?_); rintro e w8 ⟨rfl, hb8⟩; have HB8 := Lib.hid (HB5.out.trans (hb8.mono HB5.out.size)); clear hb8)
        go_roundw
        case rel => exact ⟨k + 1, by omega, by go_num, HB8⟩
        case measure => simp [intOf]; omega
    · go_wp2_with fail
      go_ret
      exact ⟨rfl, HB.out⟩

end Go.Proofs.YtelelpjhepcmbaaGreat
