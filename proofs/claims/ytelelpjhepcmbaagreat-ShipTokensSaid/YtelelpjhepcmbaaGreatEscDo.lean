/-
  (*strings.Replacer).buildOnce, (*sync.Once).doSlow, Do, (*strings.Replacer).Replace; mark.Escape.
-/
import Derived.Test.YtelelpjhepcmbaaGreatEscOnce
import Derived.Handy
namespace Go.Proofs.YtelelpjhepcmbaaGreat
open Go.RowKit Go.Deep

theorem CB.setO {w : World} {n m o : Nat} {t : TypeId} {cs : Array Value} (h : CB w n t cs) (hne : n ≠ m) (v : Value) : CB (w.setCell ⟨m, o, none⟩ v) n t cs := h.other (grown_setB w m o v) (by simpa using hne)
def ifB (bb : Nat) : Value := .iface 101 (.pointer (some ⟨bb, 0, none⟩))
/-- the replacer has been built -/
def Built (B br : Nat) (d m : Int) (N : Nat) (w w' : World) : Prop := ∃ bb : Nat, CB w' br 80 #[.int .u32 d, .int .i32 m, .int .u32 0, ifB bb, .slice none 0 0] ∧ ReplAt w' bb ∧ N ≤ bb ∧ Below B w w'

set_option maxRecDepth 100000 in
set_option maxHeartbeats 2000000 in
theorem buildOnce_q (B br g cap : Nat) (m : Int) (w : World) (hB : B ≤ br) (hr : CB w br 80 #[.int .u32 0, .int .i32 m, .int .u32 0, .nilIface, .slice (some ⟨g, 0, none⟩) 8 cap])
    (hc : ∀ (j : Nat) (x : ByteArray), oldNew[j]? = some x → w.cell? ⟨g, j, none⟩ = some (.string x)) :
    Calls Tryz.prog 47 #[.pointer (some ⟨br, 0, none⟩)] w (fun e w' => e = .returned (.tuple #[]) ∧ Built B br 0 m w.heap.size w w') := by
  have HC := Lib.hid hc
  clear hc
  have hlt := hr.lt
  have c4 : w.cell? ⟨br, 4, none⟩ = some (.slice (some ⟨g, 0, none⟩) 8 cap) := (hr.c 4).trans rfl
  have HR := Lib.hid hr
  clear hr
  go_enter Tryz.func47, Tryz.ntmps47
  go_wp2_with (go_at_call 52; refine (build_q br g cap w c4 HC.out).mono ?_; rintro e w1 ⟨bb, rfl, hbb, hra, hbw⟩; have HRA := Lib.hid hra; clear hra; have HBW := Lib.hid hbw; clear hbw; have R1 := HR.out.below HBW.out; have k3 := (R1.c 3).trans rfl; have k4 := (R1.c 4).trans rfl; have f3 := R1.f 3; have f4 := R1.f 4; have HR1 := Lib.hid R1; clear R1)
  go_end0
  refine ⟨rfl, bb, ?_, (HRA.out.set HR1.out rfl 3 _).set (HR1.out.put 3 _) rfl 4 _, hbb, ?_⟩
  · exact (HR1.out.put 3 (ifB bb)).put 4 (.slice none 0 0)
  · exact ((HBW.out.mono (Nat.le_of_lt (Nat.lt_of_le_of_lt hB hlt))).setCell hB _).setCell hB _

set_option maxRecDepth 100000 in
set_option maxHeartbeats 2000000 in
theorem slow_q (B br g cap : Nat) (w : World) (hB : B ≤ br) (hr : CB w br 80 #[.int .u32 0, .int .i32 0, .int .u32 0, .nilIface, .slice (some ⟨g, 0, none⟩) 8 cap])
    (hc : ∀ (j : Nat) (x : ByteArray), oldNew[j]? = some x → w.cell? ⟨g, j, none⟩ = some (.string x)) :
    Calls Tryz.prog 51 #[.pointer (some ⟨br, 0, none⟩), .func (.func 47) #[.pointer (some ⟨br, 0, none⟩)] #[]] w (fun e w' => e = .returned (.tuple #[]) ∧ Built B br 1 0 w.heap.size w w') := by
  have hgr := grown_setB w br 1 (.int .i32 1)
  have hr1 : CB (w.setCell ⟨br, 1, none⟩ (.int .i32 1)) br 80 #[.int .u32 0, .int .i32 1, .int .u32 0, .nilIface, .slice (some ⟨g, 0, none⟩) 8 cap] := hr.put 1 _
  have hgb : g ≠ br := by
    intro e
    subst e
    have h5 := hc 0 _ rfl
    rw [hr.c] at h5
    simp at h5
  have hc1 : ∀ (j : Nat) (x : ByteArray), oldNew[j]? = some x → (w.setCell ⟨br, 1, none⟩ (.int .i32 1)).cell? ⟨g, j, none⟩ = some (.string x) := fun j x hj => by
    rw [World.cell?_setCell_other _ _ _ _ (fun e => hgb (by have := congrArg Addr.block e; simpa using this.symm))]
    exact hc j x hj
  have hl := run_call_load (P := Tryz.prog) Tryz.func53 (by kernel_rfl) (by kernel_rfl) (by kernel_rfl) .u32 (by kernel_rfl) (w := (w.setCell ⟨br, 1, none⟩ (.int .i32 1))) (a := ⟨br, 0, none⟩) (x := 0) ((hr1.c 0).trans rfl)
  have hnot : ∀ (x : Bool) (w : World), (Op.unary .not (.bool x)).run Tryz.prog w = .ok (.bool (!x)) w := fun _ _ => rfl
  have k1 := (hr.c 1).trans rfl
  have f1 := hr.f 1
  have hs1 : (w.setCell ⟨br, 1, none⟩ (.int .i32 1)).heap.size = w.heap.size := World.size_setCell _ _ _
  have hB1 : Below B w (w.setCell ⟨br, 1, none⟩ (.int .i32 1)) := (Below.refl _ _).setCell hB _
  have HR1 := Lib.hid hr1; clear hr1
  have HC1 := Lib.hid hc1; clear hc1
  have HB1 := Lib.hid hB1; clear hB1
  have HS1 := Lib.hid hs1; clear hs1
  clear hc hgr hr
  go_enter_defers Tryz.func51, Tryz.ntmps51
  go_wp2_with (first | (go_at_call 54; go_must (refine (lock_free ⟨br, 1, none⟩ _ k1 f1).mono ?_); rintro e w' ⟨rfl, rfl⟩) | (go_at_call 50; go_in) | (go_at_call 47; refine (buildOnce_q B br g cap 1 (w.setCell ⟨br, 1, none⟩ (.int .i32 1)) hB HR1.out HC1.out).mono ?_; rintro e w2 ⟨rfl, hbu⟩; have HBU := Lib.hid hbu; clear hbu))
  obtain ⟨bb, q1, q2, q3, q4⟩ := HBU.out
  have q5 : CB (w2.drew.setCell ⟨br, 0, none⟩ (.int .u32 1)) br 80 #[.int .u32 1, .int .i32 1, .int .u32 0, ifB bb, .slice none 0 0] := q1.drew.put 0 _
  have hfin : Built B br 1 0 w.heap.size w ((w2.drew.setCell ⟨br, 0, none⟩ (.int .u32 1)).setCell ⟨br, 1, none⟩ (.int .i32 0)) := by
    refine ⟨bb, q5.put 1 _, ?_, by rw [HS1.out] at q3; exact q3, ?_⟩
    · exact ((q2.below (Below.refl _ _).drew).set q1.drew rfl 0 _).set q5 rfl 1 _
    · exact ((HB1.out.trans q4).drew.setCell hB _).setCell hB _
  refine leaves_cons (f := 56) (args := #[.pointer (some ⟨br, 0, none⟩), .bool true]) (by simp) (by simp [go_sem]) ?_
  refine (store_deferred ⟨br, 0, none⟩ (.int .u32 0) .returning _ ((q1.c 0).trans rfl) (q1.f 0)).mono ?_
  rintro e u' w'' ⟨rfl, rfl, rfl⟩
  refine leaves_cons (f := 55) (args := #[.pointer (some ⟨br, 1, none⟩)]) (by simp [settle]) (by simp [go_sem]) ?_
  refine (unlock_deferred ⟨br, 1, none⟩ _ _ ((q5.c 1).trans rfl) (q5.f 1)).mono ?_
  rintro e u' w'' ⟨rfl, rfl, rfl⟩
  simp [Leaves, settle, results, Tryz.results51]
  exact hfin

set_option maxRecDepth 100000 in
set_option maxHeartbeats 2000000 in
theorem do_q (B br g cap : Nat) (w : World) (hB : B ≤ br) (hr : CB w br 80 #[.int .u32 0, .int .i32 0, .int .u32 0, .nilIface, .slice (some ⟨g, 0, none⟩) 8 cap])
    (hc : ∀ (j : Nat) (x : ByteArray), oldNew[j]? = some x → w.cell? ⟨g, j, none⟩ = some (.string x)) :
    Calls Tryz.prog 46 #[.pointer (some ⟨br, 0, none⟩), .func (.func 47) #[.pointer (some ⟨br, 0, none⟩)] #[]] w (fun e w' => e = .returned (.tuple #[]) ∧ Built B br 1 0 w.heap.size w w') := by
  have hl := run_call_load (P := Tryz.prog) Tryz.func53 (by kernel_rfl) (by kernel_rfl) (by kernel_rfl) .u32 (by kernel_rfl) (w := w) (a := ⟨br, 0, none⟩) (x := 0) ((hr.c 0).trans rfl)
  have hnot : ∀ (x : Bool) (w : World), (Op.unary .not (.bool x)).run Tryz.prog w = .ok (.bool (!x)) w := fun _ _ => rfl
  have HR := Lib.hid hr; clear hr
  have HC := Lib.hid hc; clear hc
  go_enter Tryz.func46, Tryz.ntmps46
  go_wp2_with (first | (go_at_call 50; go_in) | (go_at_call 51; refine (slow_q B br g cap w hB HR.out HC.out).mono ?_; rintro e w2 ⟨rfl, hbu⟩; have HBU := Lib.hid hbu; clear hbu))
  go_end0
  exact ⟨rfl, HBU.out⟩

set_option maxRecDepth 100000 in
set_option maxHeartbeats 2000000 in
theorem replace_q (B br g cap : Nat) (s : ByteArray) (w : World) (hB : B ≤ br) (hr : CB w br 80 #[.int .u32 0, .int .i32 0, .int .u32 0, .nilIface, .slice (some ⟨g, 0, none⟩) 8 cap])
    (hc : ∀ (j : Nat) (x : ByteArray), oldNew[j]? = some x → w.cell? ⟨g, j, none⟩ = some (.string x)) (hs : s.size ≤ 2097152) :
    Calls Tryz.prog 40 #[.pointer (some ⟨br, 0, none⟩), .string s] w (fun e w' => e = .returned (.string ⟨(escL s.data.toList).toArray⟩) ∧ Below B w w') := by
  have hmf : ∀ (fn : Fn) (first cap : Array Value) (w : World), (Instr.makeFunc fn first cap).run Tryz.prog w = .ok (.func fn first cap) w := fun _ _ _ _ => rfl
  have hlt := hr.lt
  have HR := Lib.hid hr; clear hr
  have HC := Lib.hid hc; clear hc
  go_enter Tryz.func40, Tryz.ntmps40
  go_wp2_with (first | (go_at_call 46; go_must (refine (do_q B br g cap w hB HR.out HC.out).mono ?_); rintro e w2 ⟨rfl, bb, q1, q2, q3, q4⟩; have k3 : w2.cell? ⟨br, 3, none⟩ = some (.iface 101 (.pointer (some ⟨bb, 0, none⟩))) := (q1.c 3).trans rfl; have Q1 := Lib.hid q1; clear q1; have Q2 := Lib.hid q2; clear q2; have Q4 := Lib.hid q4; clear q4) | (go_at_call 112; go_must (refine (bsr_q bb s w2 Q2.out hs).mono ?_); rintro e w3 ⟨rfl, hb3⟩; have HB3 := Lib.hid hb3; clear hb3))
  go_ret
  exact ⟨rfl, Q4.out.trans (HB3.out.mono (Nat.le_trans (Nat.le_of_lt (Nat.lt_of_le_of_lt hB hlt)) Q4.out.size))⟩

end Go.Proofs.YtelelpjhepcmbaaGreat
