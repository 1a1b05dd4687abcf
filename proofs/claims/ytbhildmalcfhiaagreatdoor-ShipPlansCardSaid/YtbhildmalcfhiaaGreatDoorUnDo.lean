/-
  strings.NewReplacer, build, buildOnce, Do, Replace at the ten strings of mark.Unescape; mark.Unescape.
-/
import Derived.Test.YtbhildmalcfhiaaGreatDoorUnGen
import Derived.Test.YtbhildmalcfhiaaGreatDoorUnRepl
import Derived.Test.YtbhildmalcfhiaaGreatDoorEscape
namespace Go.Proofs.YtbhildmalcfhiaaGreatDoor
open Go.RowKit Go.Deep

def KeepG (br : Nat) (w w' : World) : Prop := ∀ (g i : Nat) (x : Value), g ≠ br → w.cell? ⟨g, i, none⟩ = some x → w'.cell? ⟨g, i, none⟩ = some x
theorem TrieAt.set {w : World} {b tb na ta br : Nat} {nd lf : Nat → Nat} {t : TypeId} {cs : Array Value} {d : Int} (h : TrieAt w b tb na ta nd lf) (hc : CB w br t cs) (h0 : cs[0]? = some (.int .u32 d)) (o : Nat) (v : Value) : TrieAt (w.setCell ⟨br, o, none⟩ v) b tb na ta nd lf := by
  have ne : ∀ (g : Nat) (x : Value), w.cell? ⟨g, 0, none⟩ = some x → x ≠ .int .u32 d → g ≠ br := by
    rintro g x hx hn rfl
    rw [hc.c, h0] at hx
    exact hn (Option.some.inj hx).symm
  have k : KeepG br w (w.setCell ⟨br, o, none⟩ v) := fun g i x hg hx => by
    rw [World.cell?_setCell_other _ _ _ _ (fun e => hg (by have := congrArg Addr.block e; simpa using this.symm))]
    exact hx
  have hb := ne b _ h.r0 (by simp)
  have htb := ne tb _ (h.tab 0 (by omega)) (by simp)
  have hna := ne na _ h.a0 (by simp)
  have hta := ne ta _ (h.kid 35 (by decide)) (by simp)
  have hnd := fun j hj => ne (nd j) _ (h.n0 j hj) (by simp)
  have hlf := fun j hj => ne (lf j) _ (h.l0 j hj) (by simp)
  exact ⟨k _ _ _ hb h.r0, k _ _ _ hb h.r1, k _ _ _ hb h.r2, k _ _ _ hb h.r3, k _ _ _ hb h.r4, k _ _ _ hb h.r5, fun c => k _ _ _ hb (h.map c), fun i hi => k _ _ _ htb (h.tab i hi),
    k _ _ _ hna h.a0, k _ _ _ hna h.a1, k _ _ _ hna h.a2, k _ _ _ hna h.a3, k _ _ _ hna h.a4, fun c hcc => k _ _ _ hta (h.kid c hcc),
    fun j hj => k _ _ _ (hnd j hj) (h.n0 j hj), fun j hj => k _ _ _ (hnd j hj) (h.n1 j hj), fun j hj => k _ _ _ (hnd j hj) (h.n2 j hj), fun j hj => k _ _ _ (hnd j hj) (h.n3 j hj), fun j hj => k _ _ _ (hnd j hj) (h.n4 j hj),
    fun j hj => k _ _ _ (hlf j hj) (h.l0 j hj), fun j hj => k _ _ _ (hlf j hj) (h.l1 j hj), fun j hj => k _ _ _ (hlf j hj) (h.l2 j hj), fun j hj => k _ _ _ (hlf j hj) (h.l3 j hj), fun j hj => k _ _ _ (hlf j hj) (h.l4 j hj)⟩
def GenAt (w : World) (b : Nat) : Prop := ∃ tb na ta, ∃ nd lf : Nat → Nat, TrieAt w b tb na ta nd lf
theorem GenAt.set {w : World} {b br : Nat} {cs : Array Value} {d : Int} (h : GenAt w b) (hc : CB w br 223 cs) (h0 : cs[0]? = some (.int .u32 d)) (o : Nat) (v : Value) : GenAt (w.setCell ⟨br, o, none⟩ v) b := by
  obtain ⟨tb, na, ta, nd, lf, hT⟩ := h
  exact ⟨tb, na, ta, nd, lf, hT.set hc h0 o v⟩
theorem GenAt.below {w w' : World} {b : Nat} (h : GenAt w b) (hb : Below w.heap.size w w') : GenAt w' b := by
  obtain ⟨tb, na, ta, nd, lf, hT⟩ := h
  exact ⟨tb, na, ta, nd, lf, hT.keep (Keeps.of_below hb)⟩

set_option maxRecDepth 100000 in
set_option maxHeartbeats 2000000 in
theorem buildU_q (br g cap : Nat) (w : World) (h : w.cell? ⟨br, 4, none⟩ = some (.slice (some ⟨g, 0, none⟩) 10 cap)) (hc : ∀ (j : Nat) (x : ByteArray), oldU[j]? = some x → w.cell? ⟨g, j, none⟩ = some (.string x)) :
    Calls Tryz.prog 208 #[.pointer (some ⟨br, 0, none⟩)] w (fun e w' => ∃ bb : Nat, e = .returned (.iface 263 (.pointer (some ⟨bb, 0, none⟩))) ∧ w.heap.size ≤ bb ∧ GenAt w' bb ∧ Below w.heap.size w w') := by
  have HC := Lib.hid hc
  have c0 := hc 0 _ rfl
  clear hc
  go_enter Tryz.func208, Tryz.ntmps208
  go_wp2_with fail
  go_loopw [4, 5] (fun t4 t5 wr => t5 = .int .i64 0 ∧ t4 = .bool true ∧ EqW wr w) (fun _ _ _ => 0)
  case atStart => exact ⟨rfl, rfl, EqW.refl _⟩
  case round =>
    obtain ⟨rfl, rfl, hww⟩ := hrel
    unfold EqW at hww
    subst hww
    go_wp2_with (go_at_call 221; go_must (refine (makeGen_q g cap _ HC.out).mono ?_); rintro e w1 ⟨bb, tb, na, ta, nd, lf, rfl, hbb, hT, hb1⟩; have HT := Lib.hid hT; clear hT; have HB1 := Lib.hid hb1; clear hb1)
    go_ret
    exact ⟨bb, rfl, hbb, ⟨tb, na, ta, nd, lf, HT.out⟩, HB1.out⟩

def oldUV : List Value := oldU.map Value.string
theorem oldUV_one : ∀ u ∈ oldUV, u.oneCell' = true := by
  intro u hu
  simp only [oldUV, List.mem_map] at hu
  obtain ⟨x, _, rfl⟩ := hu
  rfl
def NewPostU (w : World) (e : Ending) (w' : World) : Prop := ∃ (br : Nat) (A : Option Addr) (c : Nat), e = .returned (.pointer (some ⟨br, 0, none⟩)) ∧ w.heap.size ≤ br ∧ CB w' br 223 #[.int .u32 0, .int .i32 0, .int .u32 0, .nilIface, .slice A 10 c] ∧ w'.ownsRow w.heap.size 9 1 (.slice A 10 c) 10 oldUV ∧ Below w.heap.size w w'

set_option maxRecDepth 100000 in
set_option maxHeartbeats 2000000 in
theorem newReplU_q (g c : Nat) (w : World) (hc : ∀ (j : Nat) (x : ByteArray), oldU[j]? = some x → w.cell? ⟨g, j, none⟩ = some (.string x)) :
    Calls Tryz.prog 160 #[.slice (some ⟨g, 0, none⟩) 10 c] w (NewPostU w) := by
  obtain ⟨i0, hi, hz0, hz1, hz2⟩ := info_parts info_strE
  have HC := Lib.hid hc; clear hc
  go_enter Tryz.func160, Tryz.ntmps160
  go_wp2_with (at_builtin; go_must (refine wpList_append_own_at (P := Tryz.prog) w rfl (.const (.slice none 0 0)) (.tmp 8) 23 rfl w.heap.size 9 i0 (.string ⟨#[]⟩) 1 16 Tryz.underlying23 hi hz0 hz1 hz2 rfl (by omega) _ 0 [] rfl (World.ownsRow_nil w _ 9 1) ⟨g, 0, none⟩ 10 c oldUV rfl rfl ?hcell oldUV_one (by unfold maxLen; omega) (by omega) (Nat.le_refl _) ?_))
  case hcell =>
    intro j u hj
    simp only [oldUV, List.getElem?_map, Option.map_eq_some_iff] at hj
    obtain ⟨x, hx, rfl⟩ := hj
    have hadd : (⟨g, 0, none⟩ : Addr).add j = ⟨g, j, none⟩ := by unfold Addr.add; split <;> simp_all
    rw [hadd]
    exact HC.out j x hx
  intro v' w1 own1 hg1 _ _
  have own1 : w1.ownsRow w.heap.size 9 1 v' 10 oldUV := own1
  obtain ⟨A2, c2, rfl, _, _, _⟩ := own_form own1
  have HB := below_of_grown hg1 (Nat.le_refl _) (fun g hg => by simp [Value.ownBlock] at hg)
  go_wp2_with fail
  go_ret
  exact ⟨w1.heap.size, A2, c2, rfl, HB.size, CB.new _ _ _, own_alloc own1 _, HB.alloc HB.size _⟩


def ifU (bb : Nat) : Value := .iface 263 (.pointer (some ⟨bb, 0, none⟩))
/-- the replacer has been built -/
def BuiltU (B br : Nat) (d m : Int) (N : Nat) (w w' : World) : Prop := ∃ bb : Nat, CB w' br 223 #[.int .u32 d, .int .i32 m, .int .u32 0, ifU bb, .slice none 0 0] ∧ GenAt w' bb ∧ N ≤ bb ∧ Below B w w'

set_option maxRecDepth 100000 in
set_option maxHeartbeats 2000000 in
theorem buildOnceU_q (B br g cap : Nat) (m : Int) (w : World) (hB : B ≤ br) (hr : CB w br 223 #[.int .u32 0, .int .i32 m, .int .u32 0, .nilIface, .slice (some ⟨g, 0, none⟩) 10 cap])
    (hc : ∀ (j : Nat) (x : ByteArray), oldU[j]? = some x → w.cell? ⟨g, j, none⟩ = some (.string x)) :
    Calls Tryz.prog 185 #[.pointer (some ⟨br, 0, none⟩)] w (fun e w' => e = .returned (.tuple #[]) ∧ BuiltU B br 0 m w.heap.size w w') := by
  have HC := Lib.hid hc
  clear hc
  have hlt := hr.lt
  have c4 : w.cell? ⟨br, 4, none⟩ = some (.slice (some ⟨g, 0, none⟩) 10 cap) := (hr.c 4).trans rfl
  have HR := Lib.hid hr
  clear hr
  go_enter Tryz.func185, Tryz.ntmps185
  go_wp2_with (go_at_call 208; refine (buildU_q br g cap w c4 HC.out).mono ?_; rintro e w1 ⟨bb, rfl, hbb, hra, hbw⟩; have HRA := Lib.hid hra; clear hra; have HBW := Lib.hid hbw; clear hbw; have R1 := HR.out.below HBW.out; have k3 := (R1.c 3).trans rfl; have k4 := (R1.c 4).trans rfl; have f3 := R1.f 3; have f4 := R1.f 4; have HR1 := Lib.hid R1; clear R1)
  go_end0
  refine ⟨rfl, bb, ?_, (HRA.out.set HR1.out rfl 3 _).set (HR1.out.put 3 _) rfl 4 _, hbb, ?_⟩
  · exact (HR1.out.put 3 (ifU bb)).put 4 (.slice none 0 0)
  · exact ((HBW.out.mono (Nat.le_of_lt (Nat.lt_of_le_of_lt hB hlt))).setCell hB _).setCell hB _

set_option maxRecDepth 100000 in
set_option maxHeartbeats 2000000 in
theorem slowU_q (B br g cap : Nat) (w : World) (hB : B ≤ br) (hr : CB w br 223 #[.int .u32 0, .int .i32 0, .int .u32 0, .nilIface, .slice (some ⟨g, 0, none⟩) 10 cap])
    (hc : ∀ (j : Nat) (x : ByteArray), oldU[j]? = some x → w.cell? ⟨g, j, none⟩ = some (.string x)) :
    Calls Tryz.prog 207 #[.pointer (some ⟨br, 0, none⟩), .func (.func 185) #[.pointer (some ⟨br, 0, none⟩)] #[]] w (fun e w' => e = .returned (.tuple #[]) ∧ BuiltU B br 1 0 w.heap.size w w') := by
  have hgr := grown_setB w br 1 (.int .i32 1)
  have hr1 : CB (w.setCell ⟨br, 1, none⟩ (.int .i32 1)) br 223 #[.int .u32 0, .int .i32 1, .int .u32 0, .nilIface, .slice (some ⟨g, 0, none⟩) 10 cap] := hr.put 1 _
  have hgb : g ≠ br := by
    intro e
    subst e
    have h5 := hc 0 _ rfl
    rw [hr.c] at h5
    simp at h5
  have hc1 : ∀ (j : Nat) (x : ByteArray), oldU[j]? = some x → (w.setCell ⟨br, 1, none⟩ (.int .i32 1)).cell? ⟨g, j, none⟩ = some (.string x) := fun j x hj => by
    rw [World.cell?_setCell_other _ _ _ _ (fun e => hgb (by have := congrArg Addr.block e; simpa using this.symm))]
    exact hc j x hj
  have hl := run_call_load (P := Tryz.prog) Tryz.func216 (by kernel_rfl) (by kernel_rfl) (by kernel_rfl) .u32 (by kernel_rfl) (w := (w.setCell ⟨br, 1, none⟩ (.int .i32 1))) (a := ⟨br, 0, none⟩) (x := 0) ((hr1.c 0).trans rfl)
  have hnot : ∀ (x : Bool) (w : World), (Op.unary .not (.bool x)).run Tryz.prog w = .ok (.bool (!x)) w := fun _ _ => rfl
  have k1 := (hr.c 1).trans rfl
  have f1 := hr.f 1
  have hs1 : (w.setCell ⟨br, 1, none⟩ (.int .i32 1)).heap.size = w.heap.size := World.size_setCell _ _ _
  have hB1 : Below B w (w.setCell ⟨br, 1, none⟩ (.int .i32 1)) := (Below.refl _ _).setCell hB _
  have HR1 := Lib.hid hr1; clear hr1
  have HC1 := Lib.hid hc1; clear hc1
  have HB1 := Lib.hid hB1; clear hB1
  have HS1 := Lib.hid hs1; clear hs1
  clear hc hgr hr
  go_enter_defers Tryz.func207, Tryz.ntmps207
  go_wp2_with (first | (go_at_call 217; go_must (refine (lock_free ⟨br, 1, none⟩ _ k1 f1).mono ?_); rintro e w' ⟨rfl, rfl⟩) | (go_at_call 206; go_in) | (go_at_call 185; refine (buildOnceU_q B br g cap 1 (w.setCell ⟨br, 1, none⟩ (.int .i32 1)) hB HR1.out HC1.out).mono ?_; rintro e w2 ⟨rfl, hbu⟩; have HBU := Lib.hid hbu; clear hbu))
  obtain ⟨bb, q1, q2, q3, q4⟩ := HBU.out
  have q5 : CB (w2.drew.setCell ⟨br, 0, none⟩ (.int .u32 1)) br 223 #[.int .u32 1, .int .i32 1, .int .u32 0, ifU bb, .slice none 0 0] := q1.drew.put 0 _
  have hfin : BuiltU B br 1 0 w.heap.size w ((w2.drew.setCell ⟨br, 0, none⟩ (.int .u32 1)).setCell ⟨br, 1, none⟩ (.int .i32 0)) := by
    refine ⟨bb, q5.put 1 _, ?_, by rw [HS1.out] at q3; exact q3, ?_⟩
    · exact ((q2.below (Below.refl _ _).drew).set q1.drew rfl 0 _).set q5 rfl 1 _
    · exact ((HB1.out.trans q4).drew.setCell hB _).setCell hB _
  refine leaves_cons (f := 219) (args := #[.pointer (some ⟨br, 0, none⟩), .bool true]) (by simp) (by simp [go_sem]) ?_
  refine (store_deferred ⟨br, 0, none⟩ (.int .u32 0) .returning _ ((q1.c 0).trans rfl) (q1.f 0)).mono ?_
  rintro e u' w'' ⟨rfl, rfl, rfl⟩
  refine leaves_cons (f := 218) (args := #[.pointer (some ⟨br, 1, none⟩)]) (by simp [settle]) (by simp [go_sem]) ?_
  refine (unlock_deferred ⟨br, 1, none⟩ _ _ ((q5.c 1).trans rfl) (q5.f 1)).mono ?_
  rintro e u' w'' ⟨rfl, rfl, rfl⟩
  simp [Leaves, settle, results, Tryz.results207]
  exact hfin

set_option maxRecDepth 100000 in
set_option maxHeartbeats 2000000 in
theorem doU_q (B br g cap : Nat) (w : World) (hB : B ≤ br) (hr : CB w br 223 #[.int .u32 0, .int .i32 0, .int .u32 0, .nilIface, .slice (some ⟨g, 0, none⟩) 10 cap])
    (hc : ∀ (j : Nat) (x : ByteArray), oldU[j]? = some x → w.cell? ⟨g, j, none⟩ = some (.string x)) :
    Calls Tryz.prog 184 #[.pointer (some ⟨br, 0, none⟩), .func (.func 185) #[.pointer (some ⟨br, 0, none⟩)] #[]] w (fun e w' => e = .returned (.tuple #[]) ∧ BuiltU B br 1 0 w.heap.size w w') := by
  have hl := run_call_load (P := Tryz.prog) Tryz.func216 (by kernel_rfl) (by kernel_rfl) (by kernel_rfl) .u32 (by kernel_rfl) (w := w) (a := ⟨br, 0, none⟩) (x := 0) ((hr.c 0).trans rfl)
  have hnot : ∀ (x : Bool) (w : World), (Op.unary .not (.bool x)).run Tryz.prog w = .ok (.bool (!x)) w := fun _ _ => rfl
  have HR := Lib.hid hr; clear hr
  have HC := Lib.hid hc; clear hc
  go_enter Tryz.func184, Tryz.ntmps184
  go_wp2_with (first | (go_at_call 206; go_in) | (go_at_call 207; refine (slowU_q B br g cap w hB HR.out HC.out).mono ?_; rintro e w2 ⟨rfl, hbu⟩; have HBU := Lib.hid hbu; clear hbu))
  go_end0
  exact ⟨rfl, HBU.out⟩

set_option maxRecDepth 100000 in
set_option maxHeartbeats 2000000 in
theorem replaceU_q (B br g cap : Nat) (s : ByteArray) (w : World) (hB : B ≤ br) (hr : CB w br 223 #[.int .u32 0, .int .i32 0, .int .u32 0, .nilIface, .slice (some ⟨g, 0, none⟩) 10 cap])
    (hc : ∀ (j : Nat) (x : ByteArray), oldU[j]? = some x → w.cell? ⟨g, j, none⟩ = some (.string x)) (hs : s.size ≤ 2097152) :
    Calls Tryz.prog 161 #[.pointer (some ⟨br, 0, none⟩), .string s] w (fun e w' => e = .returned (.string ⟨(unU s.data.toList).toArray⟩) ∧ Below B w w') := by
  have hmf : ∀ (fn : Fn) (first cap : Array Value) (w : World), (Instr.makeFunc fn first cap).run Tryz.prog w = .ok (.func fn first cap) w := fun _ _ _ _ => rfl
  have hlt := hr.lt
  have HR := Lib.hid hr; clear hr
  have HC := Lib.hid hc; clear hc
  go_enter Tryz.func161, Tryz.ntmps161
  go_wp2_with (first | (go_at_call 184; go_must (refine (doU_q B br g cap w hB HR.out HC.out).mono ?_); rintro e w2 ⟨rfl, bb, q1, q2, q3, q4⟩; have k3 : w2.cell? ⟨br, 3, none⟩ = some (.iface 263 (.pointer (some ⟨bb, 0, none⟩))) := (q1.c 3).trans rfl; have Q1 := Lib.hid q1; clear q1; have Q2 := Lib.hid q2; clear q2; have Q4 := Lib.hid q4; clear q4) | (go_at_call 280; go_must (obtain ⟨tb, na, ta, nd, lf, hT⟩ := Q2.out); go_must (refine (replU_q bb tb na ta nd lf s w2 hT hs).mono ?_); rintro e w3 ⟨rfl, hb3⟩; have HB3 := Lib.hid hb3; clear hb3))
  go_ret
  exact ⟨rfl, Q4.out.trans (HB3.out.mono (Nat.le_trans (Nat.le_of_lt (Nat.lt_of_le_of_lt hB hlt)) Q4.out.size))⟩

theorem un_cells (w : World) (cs : Array Value) (h : cs = (oldU.map Value.string).toArray) (j : Nat) (x : ByteArray) (hj : oldU[j]? = some x) : (w.alloc (.cells cs 9)).cell? ⟨w.heap.size, j, none⟩ = some (.string x) := by
  subst h
  exact cell_laidE w oldU 9 j x hj

set_option maxRecDepth 100000 in
set_option maxHeartbeats 2000000 in
theorem unescape_q (s u : ByteArray) (w : World) (hu : (⟨(unU s.data.toList).toArray⟩ : ByteArray) = u) (hs : s.size ≤ 2097152) :
    Calls Tryz.prog 126 #[.string s] w fun e w' => e = .returned (.string u) ∧ Below w.heap.size w w' := by
  subst hu
  go_enter Tryz.func126, Tryz.ntmps126
  go_wp2_with fail
  refine (newReplU_q w.heap.size 10 _ (un_cells w _ rfl)).mono ?_
  rintro e w1 ⟨br, A, c, rfl, hbr, hcb, hown, hb⟩
  obtain ⟨_, _, hv, _, _, hA⟩ := own_form hown
  cases hv
  obtain ⟨g, rfl, _, _⟩ := hA (by omega)
  have hcell : ∀ (j : Nat) (x : ByteArray), oldU[j]? = some x → w1.cell? ⟨g, j, none⟩ = some (.string x) := fun j x hj => own_cell hown (by simp [oldUV, hj])
  have HC := Lib.hid hcell; clear hcell hown hA
  have HR := Lib.hid hcb; clear hcb
  have HB1 := Lib.hid (((Below.refl w.heap.size w).alloc (Nat.le_refl _) (.cells (oldU.map Value.string).toArray 9)).trans (hb.mono (by rw [World.size_alloc]; omega))); clear hb
  have hle : w.heap.size ≤ br := by rw [World.size_alloc] at hbr; omega
  go_wp2_with (go_at_call 161; go_must (refine (replaceU_q w.heap.size br g c s w1 hle HR.out HC.out hs).mono ?_); rintro e w2 ⟨rfl, hb⟩; have HB2 := Lib.hid hb; clear hb)
  go_ret
  exact ⟨rfl, HB1.out.trans HB2.out⟩


end Go.Proofs.YtbhildmalcfhiaaGreatDoor
