/-
  ShipFaults is proved: for all outputs Faults returns what the reference returns, or has its error. No condition.
-/
import Derived.Test.YtbhildmalcfhiaaGreatDoorOwn
import Derived.Test.YtbhildmalcfhiaaGreatDoorRowOps
import Derived.Test.YtbhildmalcfhiaaGreatDoorFaPage
import Derived.Test.YtbhildmalcfhiaaGreatDoorFaEnd
import Derived.Test.YtbhildmalcfhiaaGreatDoorFaNestP
import Derived.Test.YtbhildmalcfhiaaGreatDoorTokRaw
import Derived.BigQuiet
import Derived.Deep.QuietTactic
import Derived.RegionTactic
import Derived.Test.YtbhildmalcfhiaaGreatDoorFaTop
import Derived.Test.YtbhildmalcfhiaaGreatDoorBase
import Derived.JoinedCond
import Derived.HandedShaped
import Derived.Test.YtbhildmalcfhiaaGreatDoorCards
import Derived.Test.YtbhildmalcfhiaaGreatDoorTie
import Derived.OpenShut
import Derived.Deep.DeepHandedRow
import Derived.Lib.LaidTab
import Derived.Lay
namespace Go.Proofs.YtbhildmalcfhiaaGreatDoor
open Go.RowKit Go.Deep

theorem own_put {w : World} {B K g cap n : Nat} {e : TypeId} {xs : List Value} (h : w.ownsRow B e K (.slice (some ⟨g, 0, none⟩) n cap) n xs) (o : Nat) (v : Value) :
    (w.setCell ⟨g, o, none⟩ v).ownsRow B e K (.slice (some ⟨g, 0, none⟩) n cap) n (xs.set o v) := by
  obtain ⟨hl, h2⟩ := h
  rcases h2 with ⟨h3, _⟩ | ⟨g', cap', cur, h3, hB, hg, hnc, hm, hsz, htake⟩
  · cases h3
  · cases h3
    refine ⟨by rw [List.length_set]; exact hl, Or.inr ⟨g, cap, cur.setIfInBounds o v, rfl, hB, ?_, hnc, hm, by simpa using hsz, ?_⟩⟩
    · exact heap_setCell_same w g o cur e v hg
    · rw [← htake]
      simp [List.take_set]
theorem set_app {α : Type} (P l : List α) (i : Nat) (v : α) : (P ++ l).set (P.length + i) v = P ++ l.set i v := by
  rw [List.set_append_right _ _ (by omega), show P.length + i - P.length = i by omega]
theorem swap4 {α : Type} (P D : List α) (a b c d : α) {k : Nat} (hk : P.length = 2 * k) :
    ((((P ++ a :: b :: c :: d :: D).set (2 * (k + 1)) a).set (2 * (k + 1) + 1) b).set (2 * k) c).set (2 * k + 1) d = P ++ c :: d :: a :: b :: D := by
  rw [← hk, show 2 * (k + 1) + 1 = P.length + 3 by omega, show 2 * (k + 1) = P.length + 2 by omega, set_app, set_app, show P.length = P.length + 0 from rfl, set_app, Nat.add_zero, set_app]
  rfl

end Go.Proofs.YtbhildmalcfhiaaGreatDoor

namespace Go.Proofs.YtbhildmalcfhiaaGreatDoor
open Go.RowKit Go.Deep

theorem own_fault {w : World} {B g cap n : Nat} {pa : ByteArray} {L : List FaultR} {j : Nat} {x : FaultR} (h : w.ownsRow B 41 3 (.slice (some ⟨g, 0, none⟩) n cap) n (faCells pa L)) (hx : L[j]? = some x) :
    (w.cell? ⟨g, j * 3, none⟩ = some (.string pa) ∧ w.cell? ⟨g, j * 3 + 1, none⟩ = some (.int .i64 (x.at_ : Int)) ∧ w.cell? ⟨g, j * 3 + 2, none⟩ = some (.int .i64 x.kind)) ∧ ∀ o, w.frozen? ⟨g, o, none⟩ = false := by
  obtain ⟨cur, hg, hsz, ht, _, _, _⟩ := own_block h
  have hn : L.length = n := by have := h.1; rw [faCells_len] at this; omega
  have hj := (List.getElem?_eq_some_iff.1 hx).1
  have key : ∀ c, c < 3 → w.cell? ⟨g, j * 3 + c, none⟩ = (faRow pa x)[c]? := fun c hc => by
    have k := faCells_at pa L j x hx c hc
    rw [← ht, List.getElem?_take_of_lt (by omega)] at k
    rw [cell_of_row w g _ _ _ (0, 0) hg, ← k]; simp
  exact ⟨⟨key 0 (by omega), key 1 (by omega), key 2 (by omega)⟩, fun o => frozen_of_row w g _ _ _ hg⟩
theorem swap6 {α : Type} (P D : List α) (a b c d e f : α) {k : Nat} (hk : P.length = 3 * k) :
    ((((((P ++ a :: b :: c :: d :: e :: f :: D).set (3 * (k + 1)) a).set (3 * (k + 1) + 1) b).set (3 * (k + 1) + 2) c).set (3 * k) d).set (3 * k + 1) e).set (3 * k + 2) f = P ++ d :: e :: f :: a :: b :: c :: D := by
  rw [← hk, show 3 * (k + 1) + 1 = P.length + 4 by omega, show 3 * (k + 1) + 2 = P.length + 5 by omega, show 3 * (k + 1) = P.length + 3 by omega, set_app, set_app, set_app, show ∀ l : List α, (P ++ l).set P.length d = P ++ l.set 0 d from fun l => set_app P l 0 d, set_app, set_app]
  rfl
theorem faCells_swap (pa : ByteArray) (A B : List FaultR) (y x : FaultR) : ((((((faCells pa (A ++ y :: x :: B)).set ((A.length + 1) * 3) (.string pa)).set ((A.length + 1) * 3 + 1) (.int .i64 (y.at_ : Int))).set ((A.length + 1) * 3 + 2) (.int .i64 y.kind)).set (A.length * 3) (.string pa)).set (A.length * 3 + 1) (.int .i64 (x.at_ : Int))).set (A.length * 3 + 2) (.int .i64 x.kind) = faCells pa (A ++ x :: y :: B) := by
  have h1 : ∀ p q : FaultR, faCells pa (A ++ p :: q :: B) = faCells pa A ++ Value.string pa :: Value.int .i64 (p.at_ : Int) :: Value.int .i64 p.kind :: Value.string pa :: Value.int .i64 (q.at_ : Int) :: Value.int .i64 q.kind :: faCells pa B := fun p q => by rw [faCells_append]; rfl
  rw [h1, h1]
  have hk : (faCells pa A).length = 3 * A.length := by rw [faCells_len]; omega
  have := swap6 (faCells pa A) (faCells pa B) (.string pa) (.int .i64 (y.at_ : Int)) (.int .i64 y.kind) (.string pa) (.int .i64 (x.at_ : Int)) (.int .i64 x.kind) hk
  rw [Nat.mul_comm A.length 3, Nat.mul_comm (A.length + 1) 3]
  exact this
/-- the output's box, the row of what is found so far and the row of the page's faults, apart -/
structure PState (K ob M : Nat) (pa bo : ByteArray) (ar : Option Addr) (n cr : Nat) (R : List FaultR) (A : Option Addr) (c : Nat) (D : List (ByteArray × FaultR)) (w0 w : World) : Prop where
  out : CB w ob 62 #[.string pa, .string bo]
  row : w.ownsRow K 41 3 (.slice A D.length c) D.length (pfCells D)
  src : w.ownsRow M 41 3 (.slice ar n cr) n (faCells ⟨#[]⟩ R)
  apart : ∀ g, (Value.slice A D.length c).ownBlock = some g → (Value.slice ar n cr).ownBlock ≠ some g
  hK : K ≤ w.heap.size
  bel : Below K w0 w
section
variable {K ob M : Nat} {pa bo : ByteArray} {ar A : Option Addr} {n cr c : Nat} {R : List FaultR} {D : List (ByteArray × FaultR)} {w0 w w' : World}
theorem PState.below (h : PState K ob M pa bo ar n cr R A c D w0 w) (hb : Below w.heap.size w w') : PState K ob M pa bo ar n cr R A c D w0 w' :=
  ⟨h.out.below hb, own_stay h.row hb, own_stay h.src hb, h.apart, Nat.le_trans h.hK hb.size, h.bel.trans (hb.mono h.hK)⟩
theorem PState.alloc (h : PState K ob M pa bo ar n cr R A c D w0 w) (o : Obj) : PState K ob M pa bo ar n cr R A c D w0 (w.alloc o) := h.below ((Below.refl _ _).alloc (Nat.le_refl _) o)
theorem PState.push {x : ByteArray × FaultR} {g6 k6 : Nat} (h : PState K ob M pa bo ar n cr R A c D w0 w) (hg : w.grownBy w' (Value.slice A D.length c).ownBlock) (hor : (Value.slice A D.length c).ownBlock = some g6 ∨ w.heap.size ≤ g6) (own6 : w'.ownsRow K 41 3 (.slice (some ⟨g6, 0, none⟩) (D.length + 1) k6) (D.length + 1) (pfCells D ++ pfRow x)) (hb : Below K w w') : PState K ob M pa bo ar n cr R (some ⟨g6, 0, none⟩) k6 (D ++ [x]) w0 w' := by
  have hl : (D ++ [x]).length = D.length + 1 := by simp
  refine ⟨h.out.grown h.row hg (by decide), by rw [hl, pfCells_append, show pfCells [x] = pfRow x by simp [pfCells]]; exact own6, own_keepX h.src (GrownX.of_grown (p := fun g => (Value.slice A D.length c).ownBlock = some g) hg (fun g hg => hg)) (fun g hg hq => h.apart g hq hg), ?_, Nat.le_trans h.hK hb.size, h.bel.trans hb⟩
  intro g hg1 hg2
  simp only [Value.ownBlock, Option.some.injEq] at hg1
  subst hg1
  rcases hor with hq | hq
  · exact h.apart _ hq hg2
  · have := own_lt h.src _ hg2
    omega
end
theorem out_ok {x : OutV} (hp : pageB x.path = true) : outFa x = withP x.path (faS (tokR x.body)) := by rw [outFa, if_pos hp]
theorem allFa_skip {l : List OutV} {k : Nat} {x : OutV} {D : List (ByteArray × FaultR)} (h : allFa (l.take k) = D) (hx : l[k]? = some x) (hp : pageB x.path = false) : allFa (l.take (k + 1)) = D := by
  rw [allFa_step h hx, outFa, if_neg (by rw [hp]; simp), List.append_nil]
theorem faLt_yes1 {x y : FaultR} (h : x.at_ < y.at_) : faLt x y = true := faLt_iff.2 (Or.inl h)
def refFaults (l : List OutV) : List (ByteArray × FaultR) := if pagesE l = 0 then allFa l else []

end Go.Proofs.YtbhildmalcfhiaaGreatDoor

namespace Go.Proofs.YtbhildmalcfhiaaGreatDoor
open Go.RowKit Go.Deep

set_option maxRecDepth 100000 in
set_option maxHeartbeats 40000000 in
theorem faultsOfR_q (l : List OutV) (v : Value) (w : World) (h : OutsAt w v l) (hm : MaxT w.heap.size w) (hz : ∀ x ∈ l, x.path.size ≤ 1048576) (hl : l.length ≤ 480) :
    Calls Tryz.prog 14 #[v] w (FaultsE (refFaults l) (pagesE l) w) := by
  obtain ⟨A, c, b, o, rfl, hlc, hc, hA, hcell⟩ := h
  have HC := Lib.hid hcell; clear hcell
  have HA := Lib.hid hA; clear hA
  have HZ := Lib.hid hz; clear hz
  unfold maxLen at hc
  obtain ⟨K, hK⟩ : ∃ K, w.heap.size = K := ⟨_, rfl⟩
  have HM := Lib.hid (show MaxT K w from hK ▸ hm); clear hm
  have HK := Lib.hid hK
  have HB0 := Lib.hid (Below.refl K w)
  clear hK
  go_enter Tryz.func14, Tryz.ntmps14
  go_wp2_with fail
  go_loopw [4, 16] (fun t4 t16 wr => ∃ (k : Nat) (D : List (ByteArray × FaultR)) (A' : Option Addr) (c' q : Nat), t4 = .slice A' q c' ∧ t16 = .int .i64 k ∧ D.length = q ∧ k ≤ l.length ∧ q ≤ k * 200000 ∧ Hid (allFa (l.take k) = D) ∧ Hid (∀ i x, i < k → l[i]? = some x → pageB x.path = true → tokE x.body = 0) ∧ Hid (wr.ownsRow K 41 3 (.slice A' q c') q (pfCells D)) ∧ Hid (Below K w wr)) (fun _ t16 _ => l.length - (intOf t16).toNat)
  case atStart => exact ⟨0, [], none, 0, 0, rfl, rfl, rfl, Nat.zero_le _, Nat.zero_le _, rfl, fun i x hi => absurd hi (by omega), World.ownsRow_nil _ _ _ _, HB0⟩
  case round =>
    clear HB0
    obtain ⟨k, D, A', c', q, rfl, rfl, hq, hk, hqk, HR, HE, HO, HB⟩ := hrel
    obtain ⟨wo, rfl⟩ : ∃ wo : World, wo = wr := ⟨_, rfl⟩
    have hKr : K ≤ wo.heap.size := by have h1 := HB.out.size; have h2 := HK.out; omega
    by_cases hlt : k < l.length
    · obtain ⟨x, hx⟩ : ∃ x, l[k]? = some x := ⟨_, List.getElem?_eq_getElem hlt⟩
      obtain rfl : A = some ⟨b, o, none⟩ := HA.out (by intro h0; rw [h0] at hlt; simp at hlt)
      have kc := (HC.out k x hx).keep (Keeps.of_below (by have := HB.out; rw [← HK.out] at this; exact this))
      have k0 := kc.c0
      have k1 := kc.c1
      have HX := Lib.hid hx
      have hzx := HZ.out x (List.mem_of_getElem? hx)
      clear hx kc
      obtain ⟨path, body⟩ := x
      simp only at k0 k1 hzx HX
      obtain ⟨pb, hpb⟩ : ∃ v, pageB path = v := ⟨_, rfl⟩
      have HPb := Lib.hid hpb; clear hpb
      cases pb with
      | false =>
        have HE2 := Lib.hid (ok_next HE.out HX.out (fun e => by rw [HPb.out] at e; cases e))
        have HR2 := Lib.hid (allFa_skip HR.out HX.out HPb.out)
        go_wp2_with (go_at_call 29; go_must (refine (isPageR_q path body false _ (by omega) HPb.out).mono ?_); rintro e w5 ⟨rfl, hb5⟩; have HB5 := Lib.hid ((HB.out.alloc hKr _).trans (hb5.mono (by simp; omega))); have HO5 := Lib.hid (own_stay (own_alloc HO.out _) hb5); clear hb5)
        go_roundw
        case rel => exact ⟨k + 1, D, A', c', q, rfl, by go_num, hq, by omega, Nat.le_trans hqk (Nat.mul_le_mul_right _ (Nat.le_succ k)), HR2, HE2, HO5, HB5⟩
        case measure => simp [intOf]; omega
      | true =>
        rcases tokE_two body with hte | hte
        · have HTe := Lib.hid hte
          have HE2 := Lib.hid (ok_next HE.out HX.out (fun _ => hte))
          clear hte
          obtain ⟨R0, hR0⟩ : ∃ R0, refEnd (refTo (tokR body) (tokR body).length) = R0 := ⟨_, rfl⟩
          have HR0 := Lib.hid hR0
          have HS0 := Lib.hid (show (faS (tokR body)).Perm R0 from hR0 ▸ faS_perm (tokR body))
          obtain ⟨m0, hm0⟩ : ∃ m, R0.length = m := ⟨_, rfl⟩
          have hm9 : m0 ≤ 200000 := by
            have a1 : (faS (tokR body)).length ≤ 200000 := by
              have := outFa_len ⟨path, body⟩
              rw [out_ok (by simpa using HPb.out), withP_len] at this
              exact this
            have a2 := HS0.out.length_eq
            omega
          have HM0 := Lib.hid hm0
          clear hR0 hm0
          go_wp2_with (first
            | (go_at_call 29; go_must (refine (isPageR_q path body true _ (by omega) HPb.out).mono ?_); rintro e w5 ⟨rfl, hb5⟩; have HB5 := Lib.hid ((HB.out.alloc hKr _).trans (hb5.mono (by simp; omega))); have HO5 := Lib.hid (own_stay (own_alloc HO.out _) hb5); have HX5 := Lib.hid ((CB.new wo #[.string path, .string body] 62).below hb5); have x0 : w5.cell? ⟨wo.heap.size, 0, none⟩ = some (.string path) := HX5.out.c 0; have x1 : w5.cell? ⟨wo.heap.size, 1, none⟩ = some (.string body) := HX5.out.c 1; have xl := HX5.out.lt; have hK5 : K ≤ w5.heap.size := (by omega); clear hb5)
            | (go_at_call 22; go_must (refine (tokensOf_q body w5 ((HM.out.keep HB5.out).up hK5)).mono ?_); rintro e w6 ⟨ov6, L, rfl, hl6, hO6, hb6⟩; rw [HTe.out]; have HL6 := Lib.hid hl6; have HT6 := Lib.hid hO6; have HX6 := Lib.hid (HX5.out.below hb6); have HB6 := Lib.hid (HB5.out.trans (hb6.mono hK5)); have HO6 := Lib.hid (own_stay HO5.out hb6); have hK6 : K ≤ w6.heap.size := (by have := hb6.size; omega); have hn6 : L.length ≤ 20000 := toks_len hl6; clear hl6 hO6 hb6)
            | (go_at_call 35; obtain ⟨M, hM⟩ : ∃ M, w6.heap.size = M := ⟨_, rfl⟩; go_must (refine (pageFaults_q L ov6 w6 HT6.out.rows ((HM.out.keep HB6.out).up hK6) hn6 (page_text HL6.out)).mono ?_); rintro e w7 ⟨A7, c7, rfl, own7, hb7⟩; have e7 : refEnd (refTo (L.map (·.1)) L.length) = R0 := (by rw [← HR0.out, ← HL6.out, List.length_map]); rw [e7, HM0.out, hM] at own7; rw [hM] at hb7; rw [e7, HM0.out]; have HO7 := Lib.hid own7; have HB7 := Lib.hid hb7; have HM6 := Lib.hid hM; clear own7 hb7 hM e7))
          clear x0 x1 xl HB5 HO5 HX5
          obtain ⟨A9, c9, hv9, hc9, hmc, hA9⟩ := own_form HO7.out
          cases hv9
          have HA9 := Lib.hid hA9
          unfold maxLen at hc9
          clear hA9
          go_loopw [36] (fun t36 wr => ∃ (i : Nat) (S C : List FaultR), i ≤ m0 ∧ t36 = .int .i64 i ∧ Hid (S.length = i) ∧ Hid (S.length + C.length = m0) ∧ Hid ((S ++ C).Perm R0) ∧ Hid (S.Pairwise FaLe) ∧ Hid (wr.ownsRow M 41 3 (.slice A7 m0 c7) m0 (faCells ⟨#[]⟩ (S ++ C))) ∧ Hid (Below M w6 wr)) (fun t _ => m0 - (intOf t).toNat)
          case atStart => exact ⟨0, [], R0, Nat.zero_le _, rfl, rfl, Lib.hid (by have h9 := HM0.out; simp only [List.length_nil]; omega), Lib.hid (by rw [List.nil_append]), List.Pairwise.nil, HO7, HB7⟩
          case round =>
            clear HO7 HB7
            obtain ⟨i, S, C, hi, rfl, HSl, HSc, HPm, HSs, HOw, HBw⟩ := hrel
            obtain ⟨wy, rfl⟩ : ∃ wy : World, wy = wr := ⟨_, rfl⟩
            by_cases hlt2 : i < m0
            · focus
              obtain ⟨x, C', rfl⟩ : ∃ x C', C = x :: C' := by
                cases C with
                | nil => have h1 := HSc.out; have h2 := HSl.out; simp at h1; omega
                | cons x C' => exact ⟨x, C', rfl⟩
              obtain ⟨gg, rfl, hgg5, hgl⟩ := HA9.out (by omega)
              have HIn := Lib.hid (InsAt.start HPm.out HSs.out)
              have hi64 : (i : Int) < 9223372036854775807 := by omega
              clear HA9
              go_wp2_with fail
              go_loopw [11] (fun t11 wr => ∃ (k2 : Nat) (A2 B2 : List FaultR), k2 ≤ i ∧ t11 = .int .i64 k2 ∧ Hid (A2.length = k2) ∧ Hid (A2.length + B2.length = i) ∧ Hid (InsAt FaLe R0 A2 x B2 C') ∧ Hid (wr.ownsRow M 41 3 (.slice (some ⟨gg, 0, none⟩) m0 c7) m0 (faCells ⟨#[]⟩ (A2 ++ x :: (B2 ++ C')))) ∧ Hid (Below M w6 wr)) (fun t11 _ => (intOf t11).toNat)
              case atStart => exact ⟨i, S, [], Nat.le_refl _, rfl, HSl, Lib.hid (by have h9 := HSl.out; simp only [List.length_nil]; omega), HIn, HOw, HBw⟩
              case round =>
                clear HOw HBw HIn HSs HPm
                obtain ⟨k2, A2, B2, hk2, rfl, HAl, HBl, HIn, HOw, HBw⟩ := hrel
                have hNr : M ≤ wr.heap.size := by have := HBw.out.size; have := HM6.out; omega
                have HCl : Hid (i + 1 + C'.length = m0) := Lib.hid (by have h1 := HSc.out; have h2 := HSl.out; simp at h1; omega)
                by_cases hk0 : k2 = 0
                · subst hk0
                  obtain rfl : A2 = [] := List.eq_nil_of_length_eq_zero HAl.out
                  have HFi2 := Lib.hid HIn.out.first
                  go_wp2_with fail
                  try simp only [List.append_eq, List.cons_append, List.nil_append]
                  refine wp_region_grow (by kernel_rfl) (by kernel_rfl) ?_
                  repeat (refine wq_step (fun K hK => ?_); go_simp; (refine hK _ ?_; clear hK K))
                  refine wq_nil ?_
                  intro _ hw'
                  obtain ⟨g5, hw''⟩ := hw'
                  subst hw''
                  have HO5 := Lib.hid (own_stay HOw.out g5.h)
                  have HB5 := Lib.hid (HBw.out.trans (g5.h.mono hNr))
                  go_wp2_with fail
                  go_roundw
                  case rel => exact ⟨i + 1, x :: B2, C', by omega, by go_num, Lib.hid (by have h9 := HBl.out; simp only [List.length_nil] at h9; simp only [List.length_cons]; omega), Lib.hid (by have h1 := HBl.out; have h2 := HCl.out; simp only [List.length_nil] at h1; simp only [List.length_cons]; omega), HFi2.out.2, HFi2.out.1, HO5, HB5⟩
                  case measure => simp [intOf]; omega
                · obtain ⟨A3, y, rfl⟩ : ∃ A3 y, A2 = A3 ++ [y] := by
                    rcases List.eq_nil_or_concat A2 with h9 | ⟨a, b, h9⟩
                    · exact absurd (by rw [← HAl.out, h9]; rfl) hk0
                    · exact ⟨a, b, by rw [h9, List.concat_eq_append]⟩
                  have hq1 : A3.length + 1 = k2 := by have := HAl.out; simpa using this
                  obtain ⟨p, hp⟩ : ∃ p, A3.length = p := ⟨_, rfl⟩
                  rw [hp] at hq1
                  have HGy := Lib.hid (show (A3 ++ [y] ++ x :: (B2 ++ C'))[p]? = some y by rw [List.append_assoc, List.getElem?_append_right (by omega), show p - A3.length = 0 by omega]; rfl)
                  have HGx := Lib.hid (show (A3 ++ [y] ++ x :: (B2 ++ C'))[k2]? = some x by rw [List.getElem?_append_right (by rw [HAl.out]; exact Nat.le_refl _), HAl.out]; simp)
                  have hk1 : (0 : Int) < (k2 : Int) := by omega
                  have hk6 : 0 < k2 := by omega
                  have hk7 : decide (0 < k2) = true := by simpa using hk6
                  have hkm : (k2 : Int) - 1 = (p : Int) := by omega
                  have hk4 : (p : Int) < (m0 : Int) := by omega
                  have hk5 : (k2 : Int) < (m0 : Int) := by omega
                  have hk9 : p ≤ i := by omega
                  have hk8 : p < k2 := by omega
                  have hk3 : IntKind.i64.wrap (p : Int) = (p : Int) := IntWalk.i64_in _ (by omega)
                  have HQ1 := Lib.hid (show A3.length = p ∧ p + 1 = k2 from ⟨hp, hq1⟩)
                  clear hq1 hp
                  have hx1 : ∀ q : Gr wr, q.w.cell? ⟨gg, k2 * 3 + 1, none⟩ = some (.int .i64 (x.at_ : Int)) := fun q => (own_fault (own_stay HOw.out q.h) HGx.out).1.2.1
                  have hx2 : ∀ q : Gr wr, q.w.cell? ⟨gg, k2 * 3 + 2, none⟩ = some (.int .i64 x.kind) := fun q => (own_fault (own_stay HOw.out q.h) HGx.out).1.2.2
                  have hy1 : ∀ q : Gr wr, q.w.cell? ⟨gg, p * 3 + 1, none⟩ = some (.int .i64 (y.at_ : Int)) := fun q => (own_fault (own_stay HOw.out q.h) HGy.out).1.2.1
                  have hy2 : ∀ q : Gr wr, q.w.cell? ⟨gg, p * 3 + 2, none⟩ = some (.int .i64 y.kind) := fun q => (own_fault (own_stay HOw.out q.h) HGy.out).1.2.2
                  obtain ⟨xa, xk⟩ := x
                  obtain ⟨ya, yk⟩ := y
                  simp only at hx1 hx2 hy1 hy2
                  by_cases hc1 : xa < ya
                  · focus
                    have HXY := Lib.hid (show FaLe ⟨xa, xk⟩ ⟨ya, yk⟩ from faLt_le (faLt_iff.2 (Or.inl hc1)))
                    have t1 : decide ((xa : Int) < (ya : Int)) = true := by simp <;> omega
                    have t2 : decide (xa < ya) = true := by simp <;> omega
                    have t3 : (xa : Int) < (ya : Int) := by omega
                    clear hc1
                    go_wp2_with fail
                    try simp only [List.append_eq, List.cons_append, List.nil_append]
                    refine wp_region_grow (by kernel_rfl) (by kernel_rfl) ?_
                    repeat (refine wq_step (fun K hK => ?_); go_simp; (refine hK _ ?_; clear hK K))
                    refine wq_nil ?_
                    intro _ hw'
                    obtain ⟨g5, hw''⟩ := hw'
                    subst hw''
                    have HO5 := Lib.hid (own_stay HOw.out g5.h)
                    have HB5 := Lib.hid (HBw.out.trans (g5.h.mono hNr))
                    clear hx1 hx2 hy1 hy2 hk0 HOw HBw
                    have HQx5 := Lib.hid (own_fault HO5.out HGx.out)
                    have HQy5 := Lib.hid (own_fault HO5.out HGy.out)
                    have d0 := HQx5.out.1.1
                    have d1 := HQx5.out.1.2.1
                    have d2 := HQx5.out.1.2.2
                    have d4 := HQy5.out.1.1
                    have d5 := HQy5.out.1.2.1
                    have d6 := HQy5.out.1.2.2
                    have f0 := HQx5.out.2 (k2 * 3)
                    have f1 := HQx5.out.2 (k2 * 3 + 1)
                    have f2 := HQx5.out.2 (k2 * 3 + 2)
                    have f4 := HQy5.out.2 (p * 3)
                    have f5 := HQy5.out.2 (p * 3 + 1)
                    have f6 := HQy5.out.2 (p * 3 + 2)
                    simp only at d0 d1 d2 d4 d5 d6
                    have HOq := HO5
                    have HBq := HB5
                    clear HQx5 HQy5
                    go_wp2_with fail
                    go_region
                    go_wp2_with fail
                    go_roundw
                    case rel =>
                      obtain ⟨hq, hq2⟩ := HQ1.out
                      subst hq
                      subst hq2
                      refine ⟨A3.length, A3, ⟨ya, yk⟩ :: B2, by omega, by go_num, rfl, Lib.hid (by have h9 := HBl.out; simp only [List.length_append, List.length_cons, List.length_nil] at h9 ⊢; omega), HIn.out.down HXY.out, ?_, ?_⟩
                      · have h4 := own_put (own_put (own_put (own_put (own_put (own_put (HOq.out) ((A3.length + 1) * 3) (.string ⟨#[]⟩)) ((A3.length + 1) * 3 + 1) (.int .i64 (ya : Int))) ((A3.length + 1) * 3 + 2) (.int .i64 yk)) (A3.length * 3) (.string ⟨#[]⟩)) (A3.length * 3 + 1) (.int .i64 (xa : Int))) (A3.length * 3 + 2) (.int .i64 xk)
                        rw [show A3 ++ [⟨ya, yk⟩] ++ ⟨xa, xk⟩ :: (B2 ++ C') = A3 ++ ⟨ya, yk⟩ :: ⟨xa, xk⟩ :: (B2 ++ C') by simp, faCells_swap ⟨#[]⟩ A3 (B2 ++ C') ⟨ya, yk⟩ ⟨xa, xk⟩] at h4
                        exact own_drew h4
                      · have hgN : M ≤ gg := by omega
                        exact (((((((HBq.out.setCell hgN _).setCell hgN _).setCell hgN _).setCell hgN _).setCell hgN _).setCell hgN _)).drew
                    case measure => simp [intOf]; omega
                  · by_cases hc2 : xa = ya
                    · subst hc2
                      by_cases hc3 : xk < yk
                      · focus
                        have HXY := Lib.hid (show FaLe ⟨xa, xk⟩ ⟨xa, yk⟩ from faLt_le (faLt_iff.2 (Or.inr ⟨rfl, hc3⟩)))
                        have t1 : decide ((xa : Int) < (xa : Int)) = false := by simp <;> omega
                        have t2 : decide (xa < xa) = false := by simp <;> omega
                        have t4 : ((xa : Int) == (xa : Int)) = true := by simp
                        have t5 : (xa == xa) = true := by simp
                        have t6 : decide (xk < yk) = true := by simp <;> omega
                        have t7 : xk < yk := by omega
                        clear hc1 hc3
                        go_wp2_with fail
                        try simp only [List.append_eq, List.cons_append, List.nil_append]
                        refine wp_region_grow (by kernel_rfl) (by kernel_rfl) ?_
                        repeat (refine wq_step (fun K hK => ?_); go_simp; (refine hK _ ?_; clear hK K))
                        refine wq_nil ?_
                        intro _ hw'
                        obtain ⟨g5, hw''⟩ := hw'
                        subst hw''
                        have HO5 := Lib.hid (own_stay HOw.out g5.h)
                        have HB5 := Lib.hid (HBw.out.trans (g5.h.mono hNr))
                        clear hx1 hx2 hy1 hy2 hk0 HOw HBw
                        have HQx5 := Lib.hid (own_fault HO5.out HGx.out)
                        have HQy5 := Lib.hid (own_fault HO5.out HGy.out)
                        have d0 := HQx5.out.1.1
                        have d1 := HQx5.out.1.2.1
                        have d2 := HQx5.out.1.2.2
                        have d4 := HQy5.out.1.1
                        have d5 := HQy5.out.1.2.1
                        have d6 := HQy5.out.1.2.2
                        have f0 := HQx5.out.2 (k2 * 3)
                        have f1 := HQx5.out.2 (k2 * 3 + 1)
                        have f2 := HQx5.out.2 (k2 * 3 + 2)
                        have f4 := HQy5.out.2 (p * 3)
                        have f5 := HQy5.out.2 (p * 3 + 1)
                        have f6 := HQy5.out.2 (p * 3 + 2)
                        simp only at d0 d1 d2 d4 d5 d6
                        have HOq := HO5
                        have HBq := HB5
                        clear HQx5 HQy5
                        go_wp2_with fail
                        go_region
                        go_wp2_with fail
                        go_roundw
                        case rel =>
                          obtain ⟨hq, hq2⟩ := HQ1.out
                          subst hq
                          subst hq2
                          refine ⟨A3.length, A3, ⟨xa, yk⟩ :: B2, by omega, by go_num, rfl, Lib.hid (by have h9 := HBl.out; simp only [List.length_append, List.length_cons, List.length_nil] at h9 ⊢; omega), HIn.out.down HXY.out, ?_, ?_⟩
                          · have h4 := own_put (own_put (own_put (own_put (own_put (own_put (HOq.out) ((A3.length + 1) * 3) (.string ⟨#[]⟩)) ((A3.length + 1) * 3 + 1) (.int .i64 (xa : Int))) ((A3.length + 1) * 3 + 2) (.int .i64 yk)) (A3.length * 3) (.string ⟨#[]⟩)) (A3.length * 3 + 1) (.int .i64 (xa : Int))) (A3.length * 3 + 2) (.int .i64 xk)
                            rw [show A3 ++ [⟨xa, yk⟩] ++ ⟨xa, xk⟩ :: (B2 ++ C') = A3 ++ ⟨xa, yk⟩ :: ⟨xa, xk⟩ :: (B2 ++ C') by simp, faCells_swap ⟨#[]⟩ A3 (B2 ++ C') ⟨xa, yk⟩ ⟨xa, xk⟩] at h4
                            exact own_drew h4
                          · have hgN : M ≤ gg := by omega
                            exact (((((((HBq.out.setCell hgN _).setCell hgN _).setCell hgN _).setCell hgN _).setCell hgN _).setCell hgN _)).drew
                        case measure => simp [intOf]; omega
                      · focus
                        have HSt := Lib.hid (HIn.out.stop faLe_trans (show faLt ⟨xa, xk⟩ ⟨xa, yk⟩ = false from faLt_no.2 (by simp only; omega)))
                        have t1 : decide ((xa : Int) < (xa : Int)) = false := by simp <;> omega
                        have t2 : decide (xa < xa) = false := by simp <;> omega
                        have t4 : ((xa : Int) == (xa : Int)) = true := by simp
                        have t5 : (xa == xa) = true := by simp
                        have t6 : decide (xk < yk) = false := by simp <;> omega
                        clear hc1 hc3
                        go_wp2_with fail
                        try simp only [List.append_eq, List.cons_append, List.nil_append]
                        refine wp_region_grow (by kernel_rfl) (by kernel_rfl) ?_
                        repeat (refine wq_step (fun K hK => ?_); go_simp; (refine hK _ ?_; clear hK K))
                        refine wq_nil ?_
                        intro _ hw'
                        obtain ⟨g5, hw''⟩ := hw'
                        subst hw''
                        have HO5 := Lib.hid (own_stay HOw.out g5.h)
                        have HB5 := Lib.hid (HBw.out.trans (g5.h.mono hNr))
                        clear hx1 hx2 hy1 hy2 HOw HBw
                        go_wp2_with fail
                        go_roundw
                        case rel => exact ⟨i + 1, A3 ++ [(⟨xa, yk⟩ : FaultR)] ++ (⟨xa, xk⟩ : FaultR) :: B2, C', by omega, by go_num, Lib.hid (by have h9 := HBl.out; simp only [List.length_append, List.length_cons, List.length_nil] at h9 ⊢; omega), Lib.hid (by have h1 := HBl.out; have h2 := HCl.out; simp only [List.length_append, List.length_cons, List.length_nil] at h1 ⊢; omega), HSt.out.2, HSt.out.1, Lib.hid (by have h9 := HO5.out; rw [show A3 ++ [⟨xa, yk⟩] ++ ⟨xa, xk⟩ :: B2 ++ C' = A3 ++ [⟨xa, yk⟩] ++ ⟨xa, xk⟩ :: (B2 ++ C') by simp]; exact h9), HB5⟩
                        case measure => simp [intOf]; omega
                    · focus
                      have HSt := Lib.hid (HIn.out.stop faLe_trans (show faLt ⟨xa, xk⟩ ⟨ya, yk⟩ = false from faLt_no.2 (by simp only; omega)))
                      have t1 : decide ((xa : Int) < (ya : Int)) = false := by simp <;> omega
                      have t2 : decide (xa < ya) = false := by simp <;> omega
                      have t4 : ((xa : Int) == (ya : Int)) = false := by simp <;> omega
                      have t5 : (xa == ya) = false := by simp <;> omega
                      clear hc1 hc2
                      go_wp2_with fail
                      try simp only [List.append_eq, List.cons_append, List.nil_append]
                      refine wp_region_grow (by kernel_rfl) (by kernel_rfl) ?_
                      repeat (refine wq_step (fun K hK => ?_); go_simp; (refine hK _ ?_; clear hK K))
                      refine wq_nil ?_
                      intro _ hw'
                      obtain ⟨g5, hw''⟩ := hw'
                      subst hw''
                      have HO5 := Lib.hid (own_stay HOw.out g5.h)
                      have HB5 := Lib.hid (HBw.out.trans (g5.h.mono hNr))
                      clear hx1 hx2 hy1 hy2 HOw HBw
                      go_wp2_with fail
                      go_roundw
                      case rel => exact ⟨i + 1, A3 ++ [(⟨ya, yk⟩ : FaultR)] ++ (⟨xa, xk⟩ : FaultR) :: B2, C', by omega, by go_num, Lib.hid (by have h9 := HBl.out; simp only [List.length_append, List.length_cons, List.length_nil] at h9 ⊢; omega), Lib.hid (by have h1 := HBl.out; have h2 := HCl.out; simp only [List.length_append, List.length_cons, List.length_nil] at h1 ⊢; omega), HSt.out.2, HSt.out.1, Lib.hid (by have h9 := HO5.out; rw [show A3 ++ [⟨ya, yk⟩] ++ ⟨xa, xk⟩ :: B2 ++ C' = A3 ++ [⟨ya, yk⟩] ++ ⟨xa, xk⟩ :: (B2 ++ C') by simp]; exact h9), HB5⟩
                      case measure => simp [intOf]; omega
            · obtain rfl : i = m0 := by omega
              obtain rfl : C = [] := List.eq_nil_of_length_eq_zero (by have h1 := HSc.out; have h2 := HSl.out; omega)
              rw [List.append_nil] at HPm HOw
              have hSf : S = faS (tokR body) := faS_ref (by rw [HR0.out]; exact HPm.out) HSs.out
              subst hSf
              have HPS := Lib.hid (show PState K wo.heap.size M path body A7 i c7 (faS (tokR body)) A' c' D w wy by
                refine ⟨HX6.out.below (by rw [HM6.out]; exact HBw.out), by rw [hq]; exact own_stay HO6.out (by rw [HM6.out]; exact HBw.out), HOw.out, ?_, by have h1 := HBw.out.size; omega, HB6.out.trans (HBw.out.mono (by rw [← HM6.out]; exact hK6))⟩
                intro g hg1 hg2
                rw [hq] at hg1
                have h1 := own_lt HO6.out g hg1
                have h2 := own_block_ge HOw.out g hg2
                have h3 := HM6.out
                omega)
              have HFl := Lib.hid (show (faS (tokR body)).length = i from HSl.out)
              clear HOw HBw HPm HSs HSl HSc hlt2 HO6 HX6 HT6
              go_wp2_with fail
              go_loopw [4, 105] (fun t4 t105 wr => ∃ (m : Nat) (E : List (ByteArray × FaultR)) (A2 : Option Addr) (c2 : Nat), t4 = .slice A2 E.length c2 ∧ t105 = .int .i64 m ∧ m ≤ i ∧ E.length ≤ q + m ∧ Hid (E = D ++ withP path ((faS (tokR body)).take m)) ∧ Hid (PState K wo.heap.size M path body A7 i c7 (faS (tokR body)) A2 c2 E w wr)) (fun _ t _ => i - (intOf t).toNat)
              case atStart => exact ⟨0, D, A', c', by rw [hq], rfl, Nat.zero_le _, by omega, by simp [Hid, withP], HPS⟩
              case round =>
                clear HPS
                obtain ⟨m, E, A2, c2, rfl, rfl, hm2, hEm, HE3, HP⟩ := hrel
                by_cases hmt : m < i
                · focus
                  obtain ⟨gg, rfl, hgg5, hgl⟩ := HA9.out (by omega)
                  obtain ⟨x, hx⟩ : ∃ x, (faS (tokR body))[m]? = some x := ⟨_, List.getElem?_eq_getElem (by rw [HFl.out]; exact hmt)⟩
                  have HQx := Lib.hid (own_fault HP.out.src hx)
                  have HEn := Lib.hid (show E ++ [(path, x)] = D ++ withP path ((faS (tokR body)).take (m + 1)) by rw [HE3.out, List.take_add_one, hx]; simp [withP])
                  clear hx
                  obtain ⟨xa, xk⟩ := x
                  have d0 := HQx.out.1.1
                  have d1 := HQx.out.1.2.1
                  have d2 := HQx.out.1.2.2
                  simp only at d0 d1 d2
                  have b0 : wr.cell? ⟨wo.heap.size, 0, none⟩ = some (.string path) := HP.out.out.c 0
                  have bl := HP.out.out.lt
                  have hmi : (m : Int) < (i : Int) := by omega
                  clear HQx HA9
                  go_wp2_with (at_builtin; go_must (refine wpList_push _ rfl (.tmp 112) (.tmp 114) 36 rfl K 41 _ 3 32 Tryz.underlying36 info_fault rfl (by omega) (.slice A2 E.length c2) E.length _ rfl (own_alloc (own_alloc HP.out.row _) _) (pfRow (path, ⟨xa, xk⟩)) rfl _ rfl (cell_new _ (pfRow (path, ⟨xa, xk⟩)) 41 _ (by rw [World.size_alloc])) (faRow_one _ _) (by omega) (by unfold maxLen; omega) (by have := HP.out.hK; simp; omega) ?_); intro g6 k6 w8 own6 hg6 hor6 hb6; have HP6 := Lib.hid (((HP.out.alloc _).alloc _).push hg6 hor6 own6 hb6); clear own6 hg6 hor6 hb6)
                  go_roundw
                  case rel => exact ⟨m + 1, E ++ [(path, ⟨xa, xk⟩)], some ⟨g6, 0, none⟩, k6, by simp, by go_num, by omega, by simp; omega, HEn, HP6⟩
                  case measure => simp [intOf]; omega
                · have hmi : m = i := by omega
                  have HF := Lib.hid (show allFa (l.take (k + 1)) = E by rw [allFa_step HR.out HX.out, HE3.out, hmi, ← HFl.out, List.take_length, out_ok (by simpa using HPb.out)])
                  clear hmi
                  go_wp2_with fail
                  go_roundw
                  case rel => exact ⟨k + 1, E, A2, c2, _, rfl, by go_num, rfl, by omega, by omega, HF, HE2, HP.out.row, HP.out.bel⟩
                  case measure => simp [intOf]; omega
        · have HTe := Lib.hid hte
          have HF := Lib.hid (pagesE_yes HX.out HPb.out (show tokE body ≠ 0 by rw [hte]; decide))
          clear hte
          go_wp2_with (first
            | (go_at_call 29; go_must (refine (isPageR_q path body true _ (by omega) HPb.out).mono ?_); rintro e w5 ⟨rfl, hb5⟩; have HB5 := Lib.hid ((HB.out.alloc hKr _).trans (hb5.mono (by simp; omega))); have HX5 := Lib.hid ((CB.new wo #[.string path, .string body] 62).below hb5); have x0 : w5.cell? ⟨wo.heap.size, 0, none⟩ = some (.string path) := HX5.out.c 0; have x1 : w5.cell? ⟨wo.heap.size, 1, none⟩ = some (.string body) := HX5.out.c 1; have xl := HX5.out.lt; have hK5 : K ≤ w5.heap.size := (by omega); clear hb5)
            | (go_at_call 22; go_must (refine (tokensOf_q body w5 ((HM.out.keep HB5.out).up hK5)).mono ?_); rintro e w6 ⟨ov6, L, rfl, hl6, hO6, hb6⟩; rw [HTe.out]; have HB6 := Lib.hid (HB5.out.trans (hb6.mono hK5)); clear hl6 hO6 hb6))
          go_ret2
          exact FaultsE.mk (D := []) HK.out.symm (by rw [refFaults, HF.out]; rfl) HF.out rfl (World.ownsRow_nil _ _ _ _) HB6.out
    · have hkl : k = l.length := by omega
      have HF := Lib.hid (pagesE_no (l := l) (by rw [← hkl]; exact HE.out))
      have HF2 := Lib.hid (show refFaults l = D by rw [refFaults, if_pos HF.out, ← HR.out, hkl, List.take_length])
      clear hkl
      go_wp2_with fail
      go_ret2
      exact FaultsE.mk HK.out.symm HF2.out HF.out hq HO.out HB.out

end Go.Proofs.YtbhildmalcfhiaaGreatDoor

namespace Go.Proofs.YtbhildmalcfhiaaGreatDoor
open Go.RowKit Go.Deep

def FaultsIn (w : World) (v : Value) (D : List (ByteArray × FaultR)) : Prop := ∃ (A : Option Addr) (c b : Nat), v = .slice A D.length c ∧ D.length ≤ c ∧ c ≤ maxLen ∧ (D ≠ [] → A = some ⟨b, 0, none⟩) ∧ ∀ i (a : ByteArray × FaultR), D[i]? = some a → w.cell? ⟨b, i * 3, none⟩ = some (.string a.1) ∧ w.cell? ⟨b, i * 3 + 1, none⟩ = some (.int .i64 (a.2.at_ : Int)) ∧ w.cell? ⟨b, i * 3 + 2, none⟩ = some (.int .i64 a.2.kind)
theorem FaultsIn.of_own {w : World} {B : Nat} {v : Value} {D : List (ByteArray × FaultR)} (h : w.ownsRow B 41 3 v D.length (pfCells D)) : FaultsIn w v D := by
  obtain ⟨A, c, b, h1, h2, h3, h4, h5⟩ := own_rd h
  refine ⟨A, c, b, h1, h2, h3, fun hne => (h4 (by cases D; exact absurd rfl hne; simp)).1, fun i a ha => ?_⟩
  have k := flatN 3 pfRow (fun _ => rfl) D i a ha
  exact ⟨h5 _ _ (k 0 (by omega)), h5 _ _ (k 1 (by omega)), h5 _ _ (k 2 (by omega))⟩

set_option maxRecDepth 100000 in
set_option maxHeartbeats 2000000 in
theorem equalFaults_same (l : List (ByteArray × FaultR)) (v1 v2 : Value) (w : World) (h1 : FaultsIn w v1 l) (h2 : FaultsIn w v2 l) :
    Calls Tryz.prog 15 #[v1, v2] w fun e w' => e = .returned (.bool true) ∧ Below w.heap.size w w' := by
  obtain ⟨A1, c1, b1, rfl, hl1, hc1, hA1, hcell1⟩ := h1
  obtain ⟨A2, c2, b2, rfl, hl2, hc2, hA2, hcell2⟩ := h2
  have HC1 := Lib.hid hcell1; have HC2 := Lib.hid hcell2
  have HA1 := Lib.hid hA1; have HA2 := Lib.hid hA2
  clear hcell1 hcell2 hA1 hA2
  unfold maxLen at hc1
  go_enter Tryz.func15, Tryz.ntmps15
  go_wp2_with fail
  go_loopw [13] (fun i wr => ∃ k q : Nat, k ≤ l.length ∧ i = .int .i64 k ∧ wr = w.drewN q) (fun i _ => l.length - (intOf i).toNat)
  case atStart => exact ⟨0, 0, Nat.zero_le _, rfl, rfl⟩
  case round =>
    obtain ⟨k, q, hk, rfl, rfl⟩ := hrel
    by_cases hlt : k < l.length
    · have hne : l ≠ [] := by intro h; rw [h] at hlt; simp at hlt
      obtain rfl := HA1.out hne
      obtain rfl := HA2.out hne
      obtain ⟨x, hx⟩ : ∃ x, l[k]? = some x := ⟨_, List.getElem?_eq_getElem hlt⟩
      obtain ⟨p0, p1, p2⟩ := HC1.out k x hx
      obtain ⟨q0, q1, q2⟩ := HC2.out k x hx
      clear hx
      go_wp2_with fail
      go_quiet (fail)
      go_wp2_with fail
      go_roundw
      case rel => exact ⟨k + 1, q + nq, by omega, by go_num, rfl⟩
      case measure => simp [intOf]; omega
    · go_wp2_with fail
      go_ret
      exact ⟨rfl, Below.drewN' (Below.refl _ _) _⟩

set_option maxRecDepth 100000 in
set_option maxHeartbeats 4000000 in
theorem shipFaults_walk (l : List OutV) (v : Value) (w : World) (h : OutsAt w v l) (hm : MaxT w.heap.size w) :
    Calls Tryz.prog 4 #[v] w fun e w' => e = .returned (.bool true) ∧ Below w.heap.size w w' := by
  have HM := Lib.hid hm; clear hm
  have HL := Lib.hid h; clear h
  obtain ⟨F, hF⟩ : ∃ F, linksN l = F := ⟨_, rfl⟩
  obtain ⟨G, hG⟩ : ∃ G, faultsL l = G := ⟨_, rfl⟩
  obtain ⟨O, hO⟩ : ∃ O, outsE l = O := ⟨_, rfl⟩
  have HF := Lib.hid hF; have HG := Lib.hid hG; have HOe := Lib.hid hO
  have e4 : (F == F) = true := by simp
  by_cases h0 : O = 0
  · subst h0
    have HP := Lib.hid (show pagesE l = F by rw [← hF, linksN, if_pos hO])
    have HR := Lib.hid (show refFaults l = G by rw [← hG, faultsL, refFaults, linksN, if_pos hO])
    have hlen := outsE_len hO
    have HZ := Lib.hid (fun (x : OutV) (hx : x ∈ l) => (by have := path_size (outs_paths hO x hx); omega : x.path.size ≤ 1048576))
    clear hF hG hO
    go_enter Tryz.func4, Tryz.ntmps4
    go_wp2_with (first
      | (go_at_call 13; go_must (refine (shipFaults_q l v w HL.out HM.out).mono ?_); rintro e w4 ⟨A4, c4, rfl, hO4, hb4⟩; rw [HF.out]; rw [HG.out] at hO4 ⊢; have HO4 := Lib.hid hO4; have HB4 := Lib.hid hb4; clear hO4 hb4)
      | (go_at_call 10; go_must (refine (outsError_q l v 0 w4 (HL.out.keep (Keeps.of_below HB4.out)) ((HM.out.keep HB4.out).up HB4.out.size).at_ HOe.out).mono ?_); rintro e w5 ⟨rfl, hb5⟩; have HO5 := Lib.hid (own_stay HO4.out hb5); have HB5 := Lib.hid (HB4.out.trans (hb5.mono HB4.out.size)); clear hb5)
      | (go_at_call 14; go_must (refine (faultsOfR_q l v w5 (HL.out.keep (Keeps.of_below HB5.out)) ((HM.out.keep HB5.out).up HB5.out.size) HZ.out hlen).mono ?_); rintro e w6 ⟨A6, c6, rfl, hO6, hb6⟩; rw [HP.out]; rw [HR.out] at hO6 ⊢; have HI5 := Lib.hid (FaultsIn.of_own (own_stay HO5.out hb6)); have HI6 := Lib.hid (FaultsIn.of_own hO6); have HB6 := Lib.hid (HB5.out.trans (hb6.mono HB5.out.size)); clear hO6 hb6)
      | (go_at_call 15; go_must (refine (equalFaults_same G _ _ w6 HI5.out HI6.out).mono ?_); rintro e w7 ⟨rfl, hb7⟩; have HB7 := Lib.hid (HB6.out.trans (hb7.mono HB6.out.size)); clear hb7))
    go_ret
    exact ⟨rfl, HB7.out⟩
  · have hFO : F = O := by rw [← hF, linksN, if_neg (by rw [hO]; exact h0), hO]
    subst hFO
    have hGn : G = [] := by rw [← hG, faultsL, if_neg (by rw [hF]; exact h0)]
    subst hGn
    have z1 : (F == 0) = false := beq_eq_false_iff_ne.2 h0
    clear hF hG hO h0
    go_enter Tryz.func4, Tryz.ntmps4
    go_wp2_with (first
      | (go_at_call 13; go_must (refine (shipFaults_q l v w HL.out HM.out).mono ?_); rintro e w4 ⟨A4, c4, rfl, hO4, hb4⟩; rw [HF.out]; rw [HG.out] at hO4 ⊢; have HO4 := Lib.hid hO4; have HB4 := Lib.hid hb4; clear hO4 hb4)
      | (go_at_call 10; go_must (refine (outsError_q l v F w4 (HL.out.keep (Keeps.of_below HB4.out)) ((HM.out.keep HB4.out).up HB4.out.size).at_ HOe.out).mono ?_); rintro e w5 ⟨rfl, hb5⟩; have HO5 := Lib.hid (own_stay HO4.out hb5); have HB5 := Lib.hid (HB4.out.trans (hb5.mono HB4.out.size)); clear hb5)
      | (go_at_call 15; go_must (refine (equalFaults_same [] _ _ w5 (FaultsIn.of_own HO5.out) (FaultsIn.of_own (World.ownsRow_nil _ 0 _ 3))).mono ?_); rintro e w7 ⟨rfl, hb7⟩; have HB7 := Lib.hid (HB5.out.trans (hb7.mono HB5.out.size)); clear hb7))
    go_ret
    exact ⟨rfl, HB7.out⟩

end Go.Proofs.YtbhildmalcfhiaaGreatDoor

namespace Go.Proofs.YtbhildmalcfhiaaGreatDoor
open Go.RowKit Go.ChangeShapes Go.WideShapes Go.ChangeAt Go.Deep

theorem own : ownKnob Tryz.prog.godebug = none := by kernel_rfl
theorem laidOut : laidOutB Tryz.prog = true := by kernel_rfl

section
variable {H : Type} {enc : TypeId × Value → H}

theorem trodAll_stays {W W' : World} {sp : Nat → Bool} (hb : Below W.heap.size W W') : ∀ {ts : List TypeId} {vs : List Value} {ds : List (DataW H)} {ps : List MemPlace},
    (∀ t, t ∈ ts → Tryz.prog.readableRec t = true ∧ t < Tryz.prog.types.size) → DataW.TrodAll enc Tryz.prog W 0 (fun _ => true) true ts vs ds ps →
    (∀ x ∈ ps, x.block < W.heap.size) → (∀ x ∈ ps, sp x.block = true) → DataW.TrodAll enc Tryz.prog W' 0 sp true ts vs ds ps
  | [], [], [], ps, _, h, _, _ => h
  | [], _ :: _, _, _, _, h, _, _ => by simp [DataW.TrodAll] at h
  | [], [], _ :: _, _, _, h, _, _ => by simp [DataW.TrodAll] at h
  | _ :: _, [], _, _, _, h, _, _ => by simp [DataW.TrodAll] at h
  | _ :: _, _ :: _, [], _, _, h, _, _ => by simp [DataW.TrodAll] at h
  | t :: ts, v :: vs, d :: ds, ps, ht, h, hlt, hsp => by
    obtain ⟨p, q, h1, h2, rfl⟩ := h
    refine ⟨p, q, ?_, ?_, rfl⟩
    · exact WideElems.Trod_stays laidOut (ht t (by simp)).1 (ht t (by simp)).2 h1 (fun x hx => hb.same (hlt x (by simp [hx]))) (fun x hx => hsp x (by simp [hx]))
    · exact trodAll_stays hb (fun t' h' => ht t' (by simp [h'])) h2 (fun x hx => hlt x (by simp [hx])) (fun x hx => hsp x (by simp [hx]))

theorem law_post {f : Func} {s : ChangeSpec} {W W' : World} {args : Array Value} {ds gs : List (DataW H)} {before : List MemPlace} {tb : TypeId}
    (hvars : s.vars = []) (hfn : s.fn H (ds ++ gs) = { results := [.lit (.bool true)], args := ds }) (hrt : f.resultTypes = #[tb]) (htb : Tryz.prog.underlying tb = some .bool)
    (hts : ∀ t, t ∈ f.params.toList → Tryz.prog.readableRec t = true ∧ t < Tryz.prog.types.size)
    (hW : DataW.Whole enc Tryz.prog f.params.toList s.vars false W args.toList ds gs before) (hb : Below W.heap.size W W') :
    s.post enc Tryz.prog f false true false false W args (.bool true) W' := by
  have hlt : ∀ p ∈ before, p.block < W.heap.size := fun p hp => hW.lt p hp
  have hold : ∀ p ∈ before, (fun b => decide (b < W.heap.size)) p.block = true := fun p hp => by simpa using hlt p hp
  have hW' := hW
  obtain ⟨p, q, hA, hV, rfl, hz, _⟩ := hW
  rw [hvars] at hV
  obtain ⟨rfl, rfl⟩ := trodVars_none hV
  simp only [List.append_nil] at *
  refine ⟨ds, [], p, [], p, [], by simpa using hW', ?_, ?_, ?_, World.keptBut_mono (fun x hx => ⟨hx, ?_⟩) (hb.frame (· ∈ p)), fun h => by cases h⟩
  · rw [List.append_nil, hfn, hrt]
    exact trodAll_mk1 (shut_bool htb true)
  · rw [List.append_nil, hfn]
    exact trodAll_stays hb hts hA hlt hold
  · rw [hvars, List.append_nil, hfn]
    exact rfl
  · exact Or.inr (Or.inl hx)

end

end Go.Proofs.YtbhildmalcfhiaaGreatDoor

namespace Go.Proofs.YtbhildmalcfhiaaGreatDoor
open Go.RowKit Go.ChangeShapes Go.WideShapes Go.ChangeAt Go.Deep

theorem maxLen_at {W : World} (h : W.ShapedOpen Tryz.prog) : ∃ m, W.cell? ⟨2, 0, none⟩ = some (.int .i64 m) := (Tryz.laysM143).s1_3 W h
theorem max_of {W : World} (h : ∃ m, W.cell? ⟨2, 0, none⟩ = some (.int .i64 m)) : MaxT W.heap.size W := by
  obtain ⟨m, hm⟩ := h
  exact ⟨World.block_lt_of_cell? _ _ hm, m, hm⟩
set_option maxRecDepth 100000 in
theorem shipFaults_calls (H : Type) (enc : TypeId × Value → H) (W : World) (base : Nat) (args : Array Value) (ds gs : List (DataW H)) (before : List MemPlace)
    (hval : ∀ (j : Nat) t v, Tryz.f4.params[j]? = some t → args[j]? = some v → Value.okWide Tryz.prog W .any base t v)
    (hW : DataW.Whole enc Tryz.prog Tryz.f4.params.toList Rows.shipFaultsSpec.vars false W args.toList ds gs before) (hsh : W.ShapedOpen Tryz.checked.prog) :
    Calls Tryz.prog 4 args W fun e W' => ∃ v, e = .returned v ∧ Rows.shipFaultsSpec.post enc Tryz.prog Tryz.f4 false true false false W args v W' := by
  have hW' := hW
  obtain ⟨p, q, hA0, hV, rfl, hfz, hnd⟩ := hW
  have hA : DataW.TrodAll enc Tryz.prog W 0 (fun _ => true) true Tryz.f4.params.toList args.toList ds p := hA0
  rw [Tryz.params4] at hA hval
  obtain ⟨v0, d0, rfl, rfl, h0⟩ := trodAll_one hA
  obtain ⟨rfl, rfl⟩ := trodVars_none hV
  obtain ⟨fu0, g0⟩ := h0
  obtain ⟨u0, l0, e0, n0⟩ := open_outs _ _ _ g0
  obtain ⟨a0, len0, cap0, rfl⟩ := okWide_slice Tryz.underlying22 (hval 0 22 v0 rfl rfl)
  simp only [Value.cells, List.cons.injEq, and_true] at e0
  subst e0
  refine (shipFaults_walk l0 _ W n0 (max_of (maxLen_at hsh))).mono fun e W' ⟨he, hb⟩ => ?_
  subst he
  refine ⟨_, rfl, law_post rfl rfl (tb := 4) (by kernel_rfl) Tryz.underlying4 ?_ hW' hb⟩
  rw [Tryz.params4]
  intro t ht
  simp only [List.mem_cons, List.not_mem_nil, or_false] at ht
  subst ht
  exact ⟨by kernel_rfl, of_decide_eq_true (by kernel_rfl)⟩

set_option maxRecDepth 100000 in
theorem shipFaults_met (os : Os) : laidMet Tryz.prog Rows.shipFaultsRow.laid ((World.laidAll Tryz.prog os Rows.shipFaultsRow.laid).forCall (fun _ _ => 0) ⟨#[], #[.slice none 0 0], []⟩).memory :=
  laidMet_laidAll _ (by kernel_rfl) (by kernel_rfl)

theorem shipFaults_reads (os : Os) {H : Type} (enc : TypeId × Value → H) : ∃ places, DataW.whole enc Tryz.prog ((World.laidAll Tryz.prog os Rows.shipFaultsRow.laid).forCall (fun _ _ => 0) ⟨#[], #[.slice none 0 0], []⟩).memory Tryz.f4.params.toList Rows.shipFaultsSpec.vars false (#[(.slice none 0 0 : Value)] : Array Value).toList 8 = some ([.nil], [], places) :=
  ⟨[], by kernel_rfl⟩

set_option maxRecDepth 100000 in
theorem shipFaults_lifted (os : Os) (started : os.Started) (H : Type) (enc : TypeId × Value → H) (F : Stop.Interp) :
    ReturnsInHanded {} Tryz.checked os 4 .any ((OpenSpec.ofChange Rows.shipFaultsSpec).preRow enc Tryz.prog Tryz.f4 Rows.shipFaultsRow.domain false Rows.shipFaultsRow.laid) (((OpenSpec.ofChange Rows.shipFaultsSpec).at F).post enc Tryz.prog Tryz.f4 false true false false) := by
  obtain ⟨places, hx⟩ := shipFaults_reads os enc
  refine returnsInHanded_of_row (C := Tryz.checked) (s := (OpenSpec.ofChange Rows.shipFaultsSpec)) own started (by kernel_rfl) Tryz.func4
    (witness_row_at (enc := enc) (C := Tryz.checked) false (World.laidAll Tryz.prog os Rows.shipFaultsRow.laid) #[.slice none 0 0] (World.laidAll_os _ _ _) (by kernel_rfl) (by kernel_rfl) (by kernel_rfl)
      (OpenSpec.preRow_of_cond 8 hx (by kernel_rfl) (fun k hk => by cases hk) (by kernel_rfl) (shipFaults_met os))) ?_
  intro W base args ds gs before hval hW _ hk _ hL hsh _
  exact shipFaults_calls H enc W base args ds gs before hval hW hsh

theorem shipFaults_said : Rows.ShipFaultsSaid :=
  OpenClaim.holds_of_cond 4 Tryz.f4 rfl rfl rfl rfl rfl rfl rfl ⟨rfl, rfl, rfl, rfl, rfl⟩ rfl rfl rfl rfl rfl (by kernel_rfl) Tryz.func4 (by kernel_rfl)
    (of_decide_eq_true (by kernel_rfl)) (by unfold Func.isWrapper; first | (rw [if_pos (by decide +kernel)]; kernel_rfl) | (rw [if_neg (by decide +kernel)]; exact ⟨rfl, rfl⟩))
    (fun os started H enc _ F => by rw [OpenClaim.pre_eq_preRow]; exact shipFaults_lifted os started H enc F)

theorem shipFaults_plain (f : FuncId) (fn : Func) (hf : Tryz.pinned.checked.prog.funcNamed "masthead/mastlaw1.ShipFaults" = some f) (hfn : Tryz.pinned.checked.prog.funcs[f]? = some fn) :
    true = Tryz.pinned.checked.prog.looks [] ∧ ∀ (j : Nat) t, fn.params[j]? = some t → Tryz.pinned.checked.prog.wantsStandIn t = false := by
  obtain rfl : f = 4 := Option.some.inj ((show Tryz.prog.funcNamed "masthead/mastlaw1.ShipFaults" = some 4 by kernel_rfl).symm.trans hf) |>.symm
  obtain rfl : fn = Tryz.f4 := (Option.some.inj (Tryz.func4.symm.trans hfn)).symm
  refine ⟨by kernel_rfl, fun j t ht => ?_⟩
  rw [Tryz.params4] at ht
  have h2 := Array.mem_of_getElem? ht
  simp at h2
  subst h2
  exact (show Tryz.prog.wantsStandIn 22 = false by kernel_rfl)

theorem shipFaults_card : Rows.ShipFaultsCardSaid :=
  Claim7.holds_tied_plain_at .later [] _ _ _ _ shipFaults_said (fun _ h => by cases h) (by kernel_rfl) (fun _ h => by cases h) shipFaults_row_tie rfl ⟨rfl, rfl⟩ (by kernel_rfl) rfl shipFaults_plain (by kernel_rfl)

end Go.Proofs.YtbhildmalcfhiaaGreatDoor
