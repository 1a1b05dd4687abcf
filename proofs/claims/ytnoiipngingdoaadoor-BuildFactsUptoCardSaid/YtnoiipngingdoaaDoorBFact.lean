/-
  The value of a name, copied: build.Fact.
-/
import Derived.Test.YtnoiipngingdoaaDoorCloneW
namespace Go.Proofs.YtnoiipngingdoaaDoor
open Go.RowKit Go.Deep

/-- there is a fact of that name -/
def foundB (l : List (ByteArray × Val)) (nm : ByteArray) : Bool := l.any fun x => x.1.toList == nm.toList
theorem foundB_at {l : List (ByteArray × Val)} {nm : ByteArray} {k : Nat} {x : ByteArray × Val} (h : l[k]? = some x) (hx : (x.1.toList == nm.toList) = true) : foundB l nm = true := by
  unfold foundB
  rw [List.any_eq_true]
  exact ⟨x, List.mem_of_getElem? h, hx⟩
theorem foundB_none {l : List (ByteArray × Val)} {nm : ByteArray} (hb : ∀ (j : Nat) (y : ByteArray × Val), l[j]? = some y → (y.1.toList == nm.toList) = false) : foundB l nm = false := by
  unfold foundB
  rw [List.any_eq_false]
  intro x hx
  obtain ⟨j, hj⟩ := List.getElem?_of_mem hx
  rw [hb j x hj]
  simp
theorem val_done2 {fn : Func} {a : Act} {W : World} {Post : Ending → World → Prop} {n p q : Nat} {cs : Array Value} {b : Bool} (hfn : fn.results = #[.cell p 29, .tmp q]) (hb : CB W n 29 cs) (hs : cs.size = 6)
    (hp : a.tmps.getD p undef = .pointer (some ⟨n, 0, none⟩)) (hc : a.tmps.getD q undef = .bool b) (hd : a.defers = []) (h : Post (.returned (.tuple #[.agg cs, .bool b])) W) : bodyPost Tryd.prog fn Post .ret a W := by
  refine bodyPost_ret ?_ hd h
  rw [results_cell_tmp hfn, hp, hc]
  have h2 := run_loadVar_row (P := Tryd.prog) W n 29 29 cs (0, 0) _ hb Tryd.underlying29 rfl (by rw [hs]; kernel_rfl)
  simp [asAddr, h2, Result.andThen]
/-- a value and whether there is one -/
def BFactPost (r : Val) (b : Bool) (w : World) (e : Ending) (w' : World) : Prop := ∃ (A1 : Option Addr) (n1 c1 : Nat) (A2 : Option Addr) (n2 c2 : Nat), e = .returned (.tuple #[valAgg r (.slice A1 n1 c1) (.slice A2 n2 c2), .bool b]) ∧ ValIn w' AnyB (valAgg r (.slice A1 n1 c1) (.slice A2 n2 c2)) r ∧ Below w.heap.size w w'
theorem _root_.Go.RowKit.Below.setB {B : Nat} {a w : World} {n : Nat} (h : Below B a w) (hn : B ≤ n) (o : Nat) (v : Value) : Below B a (w.setCell ⟨n, o, none⟩ v) := h.setCell (p := ⟨n, o, none⟩) hn v

set_option maxRecDepth 100000 in
set_option maxHeartbeats 8000000 in
theorem bfact_q (l : List (ByteArray × Val)) (v : Value) (nm : ByteArray) (w : World) (h : NamedsAt w v l) (hm : ∀ x ∈ l, valW x.2 ≤ 1073741824) : Calls Tryd.prog 4 #[v, .string nm] w (BFactPost (factO l nm) (foundB l nm) w) := by
  obtain ⟨A, c, b, o, iv, kv, rfl, hlc, hc, hA, hcell⟩ := h
  unfold maxLen at hc
  have HC := Lib.hid hcell; clear hcell
  have HA := Lib.hid hA; clear hA
  have HM := Lib.hid hm; clear hm
  go_enter Tryd.func4, Tryd.ntmps4
  go_wp2_with fail
  obtain ⟨w2, hw2⟩ : ∃ w2, w.alloc (.cells #[.int .i64 0, .bool false, .int .i64 0, .string ⟨#[]⟩, .slice none 0 0, .slice none 0 0] 29) = w2 := ⟨_, rfl⟩
  have HZ2 := Lib.hid (show CB w2 w.heap.size 29 (valC valZ (.slice none 0 0) (.slice none 0 0)) by rw [← hw2]; exact CB.new w _ _)
  have HB2 := Lib.hid (show Below w.heap.size w w2 by rw [← hw2]; exact (Below.refl _ _).alloc (Nat.le_refl _) _)
  rw [hw2]
  clear hw2
  obtain ⟨n, hn⟩ : ∃ n, w.heap.size = n := ⟨_, rfl⟩
  rw [hn] at HZ2
  rw [hn]
  have hnw : w.heap.size ≤ n := by omega
  clear hn
  go_loopw [10] (fun t wr => ∃ k : Nat, k ≤ l.length ∧ t = .int .i64 k ∧ Hid (CB wr n 29 (valC valZ (.slice none 0 0) (.slice none 0 0))) ∧ Hid (Below w.heap.size w wr) ∧ Hid (∀ (j : Nat) (y : ByteArray × Val), l[j]? = some y → j < k → (y.1.toList == nm.toList) = false)) (fun t _ => l.length - (intOf t).toNat)
  case atStart => exact ⟨0, Nat.zero_le _, rfl, HZ2, HB2, fun j y _ h => absurd h (by omega)⟩
  case round =>
    clear HZ2 HB2
    obtain ⟨k, hk, rfl, HZ, HB, HAll⟩ := hrel
    have hnl := HZ.out.lt
    have hbs := HB.out.size
    by_cases hlt : k < l.length
    · have hA2 := HA.out (by rintro rfl; simp at hlt)
      subst hA2
      obtain ⟨x, hx⟩ : ∃ x, l[k]? = some x := ⟨_, List.getElem?_eq_getElem hlt⟩
      obtain ⟨q0, q1, q2⟩ := HC.out k x hx
      obtain ⟨⟨A1, c1, e1⟩, ⟨A2, c2, e2⟩⟩ := q2.form
      rw [e1, e2] at q1 q2
      have kp := Keeps.of_below HB.out
      have x0 := kp _ _ q0
      obtain ⟨x1, x2, x3, x4, x5, x6⟩ := q1.keep kp
      have HQ := Lib.hid (q2.keeps kp)
      have HX0 := Lib.hid hx
      clear q0 q1 q2 e1 e2 kp hx
      cases hq : (x.1.toList == nm.toList)
      · have HAll2 := Lib.hid (show ∀ (j : Nat) (y : ByteArray × Val), l[j]? = some y → j < k + 1 → (y.1.toList == nm.toList) = false by
          intro j y h3 h4
          rcases Nat.lt_succ_iff_lt_or_eq.1 h4 with h5 | rfl
          · exact HAll.out j y h3 h5
          · rw [HX0.out] at h3
            cases h3
            exact hq)
        go_wp2_with fail
        go_roundw
        case rel => exact ⟨k + 1, by omega, by go_num, Lib.hid (HZ.out.alloc _), Lib.hid (HB.out.alloc hbs _), HAll2⟩
        case measure => simp [intOf]; omega
      · have HF := Lib.hid (factO_at HX0.out hq HAll.out)
        have HFo := Lib.hid (foundB_at HX0.out hq)
        have hmx := HM.out x (List.mem_of_getElem? HX0.out)
        have HQ2 := Lib.hid (HQ.out.keeps (Keeps.alloc wr (.cells #[.string x.1, .int .i64 x.2.kind, .bool x.2.flag, .int .i64 x.2.num, .string x.2.text, .slice A1 x.2.items.length c1, .slice A2 x.2.keys.length c2] 33)))
        have HZa := Lib.hid (HZ.out.alloc (.cells #[.string x.1, .int .i64 x.2.kind, .bool x.2.flag, .int .i64 x.2.num, .string x.2.text, .slice A1 x.2.items.length c1, .slice A2 x.2.keys.length c2] 33))
        have HBa := Lib.hid (HB.out.alloc hbs (.cells #[.string x.1, .int .i64 x.2.kind, .bool x.2.flag, .int .i64 x.2.num, .string x.2.text, .slice A1 x.2.items.length c1, .slice A2 x.2.keys.length c2] 33))
        have hcall := clone_q _ x.2 _ _ (Nat.le_refl _) HQ2.out hmx
        unfold valAgg at hcall
        go_wp2_with fail
        refine hcall.mono ?_
        clear hcall
        rintro e w9 ⟨A8, n8, c8, A9, n9, c9, rfl, hv9, hb9⟩
        have HZ9 := Lib.hid (HZa.out.below hb9)
        have HB9 := Lib.hid (HBa.out.trans (hb9.mono HBa.out.size))
        have HV9 := Lib.hid (show ValIn w9 (fun b => n + 1 ≤ b) _ x.2 from hv9.keep (KeepsIn.refl _ _) (fun b _ hb => by rw [World.size_alloc] at hb; omega))
        clear hv9 hb9
        unfold valAgg
        have zc0 := HZ9.out.c 0
        have zf0 := HZ9.out.f 0
        have zc1 := HZ9.out.c 1
        have zf1 := HZ9.out.f 1
        have zc2 := HZ9.out.c 2
        have zf2 := HZ9.out.f 2
        have zc3 := HZ9.out.c 3
        have zf3 := HZ9.out.f 3
        have zc4 := HZ9.out.c 4
        have zf4 := HZ9.out.f 4
        have zc5 := HZ9.out.c 5
        have zf5 := HZ9.out.f 5
        have zsh := HZ9.out.sh
        have hn9 : n < w9.heap.size := HZ9.out.lt
        simp only [valC, valZ, Val.kind, Val.flag, Val.num, Val.text] at zc0 zc1 zc2 zc3 zc4 zc5 zsh
        go_wp2_with fail
        (try simp only [Exit.inBlock, Exit.then])
        rw [HF.out, HFo.out]
        exact val_done2 (n := n) rfl ((((((HZ9.out.put 0 _).put 1 _).put 2 _).put 3 _).put 4 _).put 5 _) rfl rfl rfl rfl
          ⟨A8, n8, c8, A9, n9, c9, rfl, HV9.out.keep ((((((keepsIn_set (by omega)).trans (keepsIn_set (by omega))).trans (keepsIn_set (by omega))).trans (keepsIn_set (by omega))).trans (keepsIn_set (by omega))).trans (keepsIn_set (by omega))) (fun _ _ _ => trivial),
            (((((HB9.out.setB hnw 0 _).setB hnw 1 _).setB hnw 2 _).setB hnw 3 _).setB hnw 4 _).setB hnw 5 _⟩
    · have hall : ∀ (j : Nat) (y : ByteArray × Val), l[j]? = some y → (y.1.toList == nm.toList) = false := fun j y h3 => HAll.out j y h3 (by have := (List.getElem?_eq_some_iff.1 h3).1; omega)
      have HF := Lib.hid (factO_none hall)
      have HFo := Lib.hid (foundB_none hall)
      clear hall
      have zc0 := HZ.out.c 0
      have zf0 := HZ.out.f 0
      have zc1 := HZ.out.c 1
      have zf1 := HZ.out.f 1
      have zc2 := HZ.out.c 2
      have zf2 := HZ.out.f 2
      have zc3 := HZ.out.c 3
      have zf3 := HZ.out.f 3
      have zc4 := HZ.out.c 4
      have zf4 := HZ.out.f 4
      have zc5 := HZ.out.c 5
      have zf5 := HZ.out.f 5
      have zsh := HZ.out.sh
      simp only [valC, valZ, Val.kind, Val.flag, Val.num, Val.text] at zc0 zc1 zc2 zc3 zc4 zc5 zsh
      go_wp2_with fail
      (try simp only [Exit.inBlock, Exit.then])
      rw [HF.out, HFo.out]
      exact val_done2 (n := n) rfl ((((((HZ.out.put 0 _).put 1 _).put 2 _).put 3 _).put 4 _).put 5 _) rfl rfl rfl rfl
        ⟨none, 0, 0, none, 0, 0, rfl, valZ_in _, (((((HB.out.setB hnw 0 _).setB hnw 1 _).setB hnw 2 _).setB hnw 3 _).setB hnw 4 _).setB hnw 5 _⟩

end Go.Proofs.YtnoiipngingdoaaDoor
