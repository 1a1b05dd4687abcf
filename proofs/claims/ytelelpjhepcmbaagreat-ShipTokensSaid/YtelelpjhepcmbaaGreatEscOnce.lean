/-
  sync.Once under (*strings.Replacer).Replace, one goroutine: the lock, doSlow, Do; buildOnce; mark.Escape.
-/
import Derived.Test.YtelelpjhepcmbaaGreatEscNew
import Derived.Defers
import Derived.RegionCalls
import Derived.Laws.LoneSync
namespace Go.Proofs.YtelelpjhepcmbaaGreat
open Go.RowKit Go.Deep

theorem escF_one {c : UInt8} {l : List UInt8} (h : escF c = some l) : ∃ x, l[0]? = some x := by
  unfold escF at h
  repeat' split at h
  all_goals (first | (cases h; done) | (obtain rfl := (Option.some.inj h); exact ⟨_, rfl⟩))
theorem ReplAt.set {w : World} {b br : Nat} {cs : Array Value} {d : Int} (h : ReplAt w b) (hc : CB w br 80 cs) (h0 : cs[0]? = some (.int .u32 d)) (o : Nat) (v : Value) : ReplAt (w.setCell ⟨br, o, none⟩ v) b := by
  have hb : b ≠ br := by
    intro e
    subst e
    have h1 := h.sh
    rw [hc.sh] at h1
    have h2 : (80 : TypeId) = 100 := congrArg Prod.fst (Option.some.inj h1)
    exact absurd h2 (by decide)
  have hk : ∀ (g j : Nat), g ≠ br → (w.setCell ⟨br, o, none⟩ v).cell? ⟨g, j, none⟩ = w.cell? ⟨g, j, none⟩ := fun g j hg => World.cell?_setCell_other _ _ _ _ (fun e => hg (by have := congrArg Addr.block e; simpa using this.symm))
  refine ⟨fun c hcc => (hk _ _ hb).trans (h.no c hcc), fun c l hcc => ?_, ?_, ?_⟩
  · obtain ⟨g, cap, h1, h2, h3, h4⟩ := h.yes c l hcc
    obtain ⟨x, hx⟩ := escF_one hcc
    have hg : g ≠ br := by
      intro e
      subst e
      have h5 := h4 0 x hx
      rw [hc.c, h0] at h5
      simp at h5
    exact ⟨g, cap, (hk _ _ hb).trans h1, h2, h3, fun j x hj => (hk _ _ hg).trans (h4 j x hj)⟩
  · obtain ⟨g, cap, h1, h2, h3, h4⟩ := h.tr
    have hg : g ≠ br := by
      intro e
      subst e
      have h5 := h4 0 _ rfl
      rw [hc.c, h0] at h5
      simp at h5
    exact ⟨g, cap, (hk _ _ hb).trans h1, h2, h3, fun j x hj => (hk _ _ hg).trans (h4 j x hj)⟩
  · have hs := h.sh
    unfold World.shape? at hs ⊢
    rw [(grown_setB w br o v).block b (by have := h.no 0 (by decide); exact World.block_lt_of_cell? _ _ this) (by simpa using hb)]
    exact hs

theorem disable (w : World) : (callFunc 65 #[]).run Tryz.prog w = .ok (.value (.tuple #[])) w := run_call_mark0 Tryz.func65 (by kernel_rfl) (by kernel_rfl) (by kernel_rfl) .disable (by kernel_rfl) w
theorem enable (w : World) : (callFunc 67 #[]).run Tryz.prog w = .ok (.value (.tuple #[])) w := run_call_mark0 Tryz.func67 (by kernel_rfl) (by kernel_rfl) (by kernel_rfl) .enable (by kernel_rfl) w
theorem acquire (a : Addr) (w : World) : (callFunc 68 #[.pointer (some a)]).run Tryz.prog w = .ok (.value (.tuple #[])) w := run_call_marked Tryz.func68 (by kernel_rfl) (by kernel_rfl) (by kernel_rfl) .acquire (by kernel_rfl) a w
theorem releaseMerge (a : Addr) (w : World) : (callFunc 70 #[.pointer (some a)]).run Tryz.prog w = .ok (.value (.tuple #[])) w := run_call_marked Tryz.func70 (by kernel_rfl) (by kernel_rfl) (by kernel_rfl) .releaseMerge (by kernel_rfl) a w

set_option maxRecDepth 100000 in
set_option maxHeartbeats 1600000 in
theorem store_deferred (a : Addr) (x : Value) (u : FrameMode) (w : World) (hc : w.cell? a = some x) (hz : w.frozen? a = false) :
    CallsD Tryz.prog 56 #[.pointer (some a), .bool true] u w fun e u' w' => u' = u ∧ (e = .returned (.tuple #[]) ∧ w' = w.drew.setCell a (.int .u32 1)) := by
  have hc' : w.drew.cell? a = some x := by go_simp
  have hz' : w.drew.frozen? a = false := by go_simp
  have hst := run_call_store (P := Tryz.prog) Tryz.func61 (by kernel_rfl) (by kernel_rfl) (by kernel_rfl) (by kernel_rfl) (k := .u32) (y := 1) hc' hz'
  go_enter_d Tryz.func56, Tryz.ntmps56
  go_wp2
  go_region_calls
  all_goals (go_end0; exact ⟨rfl, rfl⟩)

set_option maxRecDepth 100000 in
set_option maxHeartbeats 1600000 in
theorem unlock_deferred (a : Addr) (u : FrameMode) (w : World) (hc : w.cell? a = some (.int .i32 1)) (hz : w.frozen? a = false) :
    CallsD Tryz.prog 55 #[.pointer (some a)] u w fun e u' w' => u' = u ∧ (e = .returned (.tuple #[]) ∧ w' = w.setCell a (.int .i32 0)) := by
  have hd := disable
  have he := enable
  have hr := releaseMerge
  have hadd := run_call_add (P := Tryz.prog) Tryz.func71 (by kernel_rfl) (by kernel_rfl) (by kernel_rfl) .i32 (by kernel_rfl) (y := -1) (s := 0) hc hz (by simp [go_sem]; rfl)
  have hcv := run_convert_to_unsafe (P := Tryz.prog) (src := 116) (dst := 120) Tryz.underlying116 Tryz.underlying120 (by kernel_rfl) hc
  go_enter_d Tryz.func55, Tryz.ntmps55
  go_wp2
  go_end0
  go_wp2
  first | done | (go_end0; exact ⟨rfl, rfl⟩)

set_option maxRecDepth 100000 in
set_option maxHeartbeats 1600000 in
theorem lock_free (a : Addr) (w : World) (hc : w.cell? a = some (.int .i32 0)) (hz : w.frozen? a = false) :
    Calls Tryz.prog 54 #[.pointer (some a)] w fun e w' => e = .returned (.tuple #[]) ∧ w' = w.setCell a (.int .i32 1) := by
  have hd := disable
  have he := enable
  have ha := acquire
  have hcas := run_call_cas_hit (P := Tryz.prog) Tryz.func66 (by kernel_rfl) (by kernel_rfl) (by kernel_rfl) .i32 (by kernel_rfl) (y := 1) hc hz
  have hc' : (w.setCell a (.int .i32 1)).cell? a = some (.int .i32 1) := World.cell?_setCell_same w a _ hc
  have hcv := run_convert_to_unsafe (P := Tryz.prog) (src := 116) (dst := 120) Tryz.underlying116 Tryz.underlying120 (by kernel_rfl) hc'
  go_enter Tryz.func54, Tryz.ntmps54
  go_wp2
  first | go_end0 | (simp only [Exit.inBlock, Exit.then]; refine bodyPost_ret (results_none rfl _ _ _) rfl ?_) | refine bodyPost_ret (results_none rfl _ _ _) rfl ?_
  go_wp2
  first | done | (go_end0; exact ⟨rfl, rfl⟩)

end Go.Proofs.YtelelpjhepcmbaaGreat
