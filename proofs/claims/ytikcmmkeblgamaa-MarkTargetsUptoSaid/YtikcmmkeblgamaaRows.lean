/-
  NARROWER THAN 'FOR EVERY INPUT', by the rows' own cells (each row's printed sentence says how): MarkShifts: loops · MarkPlains: loops · MarkSummaries: loops · MarkTargets: loops.
  DERIVED. THE GIVEN ROWS OF THIS SEAT. 5 by the template 'for every input the law returns true; each argument reads behind the call as it read before'; 0 by the template 'total and deterministic' (their statements: YtikcmmkeblgamaaTotals.lean).
  GIVEN WITH THE SEED: the statements are not yours to turn. If you find one false, say at which input.
  Laid BY PROGRAM, IN A SANDBOX (cutbox-rows.mjs): the forced cells as the released guide's own fill.sh prints them over the translation b6912f5fe86f0a20… (all of the seat's roots in one cut). By AI agents, Wed Nov 11 2026. No macro, syntax, notation, axiom, sorry.
-/
import Derived.Test.YtikcmmkeblgamaaChecked
import GoSem.Claim
import GoSem.ClaimJoined
import GoSem.ClaimMapViews
import Derived.JoinedTies
import Derived.KernelRfl
namespace Go.Proofs.Ytikcmmkeblgamaa
/- THE CELL 'sum', in the pinned program and in every row, IS THE sha256 OF THE DUMP (.gsa) THAT YtikcmmkeblgamaaProg.lean LOADS. Nothing in Lean hashes anything: it is a label: what it is worth is what the hold of that sum in a sandbox is worth. -/
noncomputable def Try.pinned : Pinned := { name := "ytikcmmkeblgamaa", sum := "b6912f5fe86f0a2098fb4806186246a5b230dae635f31262fb6d4117c522d021", checked := Try.checked }
namespace Rows
def none {H : Type} : Left H := { results := [], args := [] }

/-- 'mastlaw1.PageLines': WHATEVER THE INPUT: true; the input reads as it did. -/
def pageLinesSpec : ChangeSpec := { name := "pageLines", fn := fun _ => fun
  | [d] => { results := [.lit (.bool true)], args := [d] }
  | _ => none }
def pageLinesRow : OpenClaim := { program := "ytikcmmkeblgamaa", sum := "b6912f5fe86f0a2098fb4806186246a5b230dae635f31262fb6d4117c522d021", func := "masthead/mastlaw1.PageLines", spec := "pageLines", inPlace := ["internal/bytealg.IndexByteString"], recurses := true, apart := false }
def PageLinesSaid : Prop := pageLinesRow.holds Try.pinned (OpenSpec.ofChange pageLinesSpec)

/-- ITS FALSE NEIGHBOUR: 'it returns false'. Refute it at one input. -/
def pageLinesWrong : ChangeSpec := { name := "pageLines", fn := fun _ => fun
  | [d] => { results := [.lit (.bool false)], args := [d] }
  | _ => none }
def PageLinesWrongFalsely : Prop := pageLinesRow.holds Try.pinned (OpenSpec.ofChange pageLinesWrong)

/-- 'mastlaw1.MarkShifts': WHATEVER THE INPUT: true; the input reads as it did. -/
def markShiftsSpec : ChangeSpec := { name := "markShifts", fn := fun _ => fun
  | [d1, d2] => { results := [.lit (.bool true)], args := [d1, d2] }
  | _ => none }
def markShiftsRow : OpenClaim := { program := "ytikcmmkeblgamaa", sum := "b6912f5fe86f0a2098fb4806186246a5b230dae635f31262fb6d4117c522d021", func := "masthead/mastlaw1.MarkShifts", spec := "markShifts", inPlace := ["internal/bytealg.IndexByteString", "internal/bytealg.IndexString"], unfollowed := true, recurses := true, named := ["internal/bytealg.MaxLen"], loops := true, apart := false }
def MarkShiftsSaid : Prop := markShiftsRow.holds Try.pinned (OpenSpec.ofChange markShiftsSpec)

/-- ITS FALSE NEIGHBOUR: 'it returns false'. Refute it at one input. -/
def markShiftsWrong : ChangeSpec := { name := "markShifts", fn := fun _ => fun
  | [d1, d2] => { results := [.lit (.bool false)], args := [d1, d2] }
  | _ => none }
def MarkShiftsWrongFalsely : Prop := markShiftsRow.holds Try.pinned (OpenSpec.ofChange markShiftsWrong)

/-- 'mastlaw1.MarkPlains': WHATEVER THE INPUT: true; the input reads as it did. -/
def markPlainsSpec : ChangeSpec := { name := "markPlains", fn := fun _ => fun
  | [d] => { results := [.lit (.bool true)], args := [d] }
  | _ => none }
def markPlainsRow : OpenClaim := { program := "ytikcmmkeblgamaa", sum := "b6912f5fe86f0a2098fb4806186246a5b230dae635f31262fb6d4117c522d021", func := "masthead/mastlaw1.MarkPlains", spec := "markPlains", inPlace := ["internal/bytealg.IndexByteString", "internal/bytealg.IndexString"], unfollowed := true, recurses := true, named := ["internal/bytealg.MaxLen"], loops := true, apart := false }
def MarkPlainsSaid : Prop := markPlainsRow.holds Try.pinned (OpenSpec.ofChange markPlainsSpec)

/-- ITS FALSE NEIGHBOUR: 'it returns false'. Refute it at one input. -/
def markPlainsWrong : ChangeSpec := { name := "markPlains", fn := fun _ => fun
  | [d] => { results := [.lit (.bool false)], args := [d] }
  | _ => none }
def MarkPlainsWrongFalsely : Prop := markPlainsRow.holds Try.pinned (OpenSpec.ofChange markPlainsWrong)

/-- 'mastlaw1.MarkSummaries': WHATEVER THE INPUT: true; the input reads as it did. -/
def markSummariesSpec : ChangeSpec := { name := "markSummaries", fn := fun _ => fun
  | [d1, d2] => { results := [.lit (.bool true)], args := [d1, d2] }
  | _ => none }
def markSummariesRow : OpenClaim := { program := "ytikcmmkeblgamaa", sum := "b6912f5fe86f0a2098fb4806186246a5b230dae635f31262fb6d4117c522d021", func := "masthead/mastlaw1.MarkSummaries", spec := "markSummaries", inPlace := ["internal/bytealg.IndexByteString", "internal/bytealg.IndexString"], unfollowed := true, recurses := true, named := ["internal/bytealg.MaxLen"], loops := true, apart := false }
def MarkSummariesSaid : Prop := markSummariesRow.holds Try.pinned (OpenSpec.ofChange markSummariesSpec)

/-- ITS FALSE NEIGHBOUR: 'it returns false'. Refute it at one input. -/
def markSummariesWrong : ChangeSpec := { name := "markSummaries", fn := fun _ => fun
  | [d1, d2] => { results := [.lit (.bool false)], args := [d1, d2] }
  | _ => none }
def MarkSummariesWrongFalsely : Prop := markSummariesRow.holds Try.pinned (OpenSpec.ofChange markSummariesWrong)

/-- 'mastlaw1.MarkTargets': WHATEVER THE INPUT: true; the input reads as it did. -/
def markTargetsSpec : ChangeSpec := { name := "markTargets", fn := fun _ => fun
  | [d1, d2] => { results := [.lit (.bool true)], args := [d1, d2] }
  | _ => none }
def markTargetsRow : OpenClaim := { program := "ytikcmmkeblgamaa", sum := "b6912f5fe86f0a2098fb4806186246a5b230dae635f31262fb6d4117c522d021", func := "masthead/mastlaw1.MarkTargets", spec := "markTargets", inPlace := ["internal/bytealg.IndexByteString", "internal/bytealg.IndexString"], unfollowed := true, recurses := true, named := ["internal/bytealg.MaxLen"], loops := true, apart := false }
def MarkTargetsSaid : Prop := markTargetsRow.holds Try.pinned (OpenSpec.ofChange markTargetsSpec)

/-- ITS FALSE NEIGHBOUR: 'it returns false'. Refute it at one input. -/
def markTargetsWrong : ChangeSpec := { name := "markTargets", fn := fun _ => fun
  | [d1, d2] => { results := [.lit (.bool false)], args := [d1, d2] }
  | _ => none }
def MarkTargetsWrongFalsely : Prop := markTargetsRow.holds Try.pinned (OpenSpec.ofChange markTargetsWrong)

/- THE SECOND FORM. 'bulk': how many values and letters a reading holds, each counted each time it is reached (what is shared counts as often as it is met; a slice's spare places count too). A statement '..UptoSaid' is the law's where the arguments, and the package variables that the reading takes, are together of bulk at most 1048576: NARROWER than '..Said'. Prove '..Said' where nothing that the law and all that it calls make is longer than what came in: it says more and counts as full. Else prove '..UptoSaid'. A law counts once. -/
mutual
def uptoBulk {H : Type} : DataW H → Nat
  | .lit (.string bytes) => bytes.length + 1
  | .lit _ => 1
  | .nil => 1
  | .ptr d => uptoBulk d + 1
  | .slice elems spare => uptoBulkAll elems + uptoBulkAll spare + 1
  | .agg parts => uptoBulkAll parts + 1
  | .iface _ d => uptoBulk d + 1
  | .map entries => uptoBulkEntries entries + 1
  | .held _ => 1
def uptoBulkAll {H : Type} : List (DataW H) → Nat
  | [] => 0
  | d :: r => uptoBulk d + uptoBulkAll r
def uptoBulkEntries {H : Type} : List (Lit × DataW H) → Nat
  | [] => 0
  | x :: r => uptoBulkEntry x + uptoBulkEntries r
def uptoBulkEntry {H : Type} : Lit × DataW H → Nat
  | (.string bytes, d) => bytes.length + uptoBulk d + 1
  | (_, d) => uptoBulk d + 1
 end
def uptoSmall : (H : Type) → List (DataW H) → Bool := fun _ ds => decide (uptoBulkAll ds ≤ 1048576)
def OpenSpec.upto (s : _root_.Go.ChangeSpec) : _root_.Go.OpenSpec := { _root_.Go.OpenSpec.ofChange s with cond := some uptoSmall }

/-- 'mastlaw1.PageLines', WHERE WHAT IT READS IS OF BULK AT MOST 1048576: true; the input reads as it did. -/
def pageLinesUptoRow : OpenClaim := { program := "ytikcmmkeblgamaa", sum := "b6912f5fe86f0a2098fb4806186246a5b230dae635f31262fb6d4117c522d021", func := "masthead/mastlaw1.PageLines", spec := "pageLines", inPlace := ["internal/bytealg.IndexByteString"], recurses := true, apart := false, narrowed := true }
def PageLinesUptoSaid : Prop := pageLinesUptoRow.holds Try.pinned (OpenSpec.upto pageLinesSpec)

/-- 'mastlaw1.MarkShifts', WHERE WHAT IT READS IS OF BULK AT MOST 1048576: true; the input reads as it did. -/
def markShiftsUptoRow : OpenClaim := { program := "ytikcmmkeblgamaa", sum := "b6912f5fe86f0a2098fb4806186246a5b230dae635f31262fb6d4117c522d021", func := "masthead/mastlaw1.MarkShifts", spec := "markShifts", inPlace := ["internal/bytealg.IndexByteString", "internal/bytealg.IndexString"], unfollowed := true, recurses := true, named := ["internal/bytealg.MaxLen"], loops := true, apart := false, narrowed := true }
def MarkShiftsUptoSaid : Prop := markShiftsUptoRow.holds Try.pinned (OpenSpec.upto markShiftsSpec)

/-- 'mastlaw1.MarkPlains', WHERE WHAT IT READS IS OF BULK AT MOST 1048576: true; the input reads as it did. -/
def markPlainsUptoRow : OpenClaim := { program := "ytikcmmkeblgamaa", sum := "b6912f5fe86f0a2098fb4806186246a5b230dae635f31262fb6d4117c522d021", func := "masthead/mastlaw1.MarkPlains", spec := "markPlains", inPlace := ["internal/bytealg.IndexByteString", "internal/bytealg.IndexString"], unfollowed := true, recurses := true, named := ["internal/bytealg.MaxLen"], loops := true, apart := false, narrowed := true }
def MarkPlainsUptoSaid : Prop := markPlainsUptoRow.holds Try.pinned (OpenSpec.upto markPlainsSpec)

/-- 'mastlaw1.MarkSummaries', WHERE WHAT IT READS IS OF BULK AT MOST 1048576: true; the input reads as it did. -/
def markSummariesUptoRow : OpenClaim := { program := "ytikcmmkeblgamaa", sum := "b6912f5fe86f0a2098fb4806186246a5b230dae635f31262fb6d4117c522d021", func := "masthead/mastlaw1.MarkSummaries", spec := "markSummaries", inPlace := ["internal/bytealg.IndexByteString", "internal/bytealg.IndexString"], unfollowed := true, recurses := true, named := ["internal/bytealg.MaxLen"], loops := true, apart := false, narrowed := true }
def MarkSummariesUptoSaid : Prop := markSummariesUptoRow.holds Try.pinned (OpenSpec.upto markSummariesSpec)

/-- 'mastlaw1.MarkTargets', WHERE WHAT IT READS IS OF BULK AT MOST 1048576: true; the input reads as it did. -/
def markTargetsUptoRow : OpenClaim := { program := "ytikcmmkeblgamaa", sum := "b6912f5fe86f0a2098fb4806186246a5b230dae635f31262fb6d4117c522d021", func := "masthead/mastlaw1.MarkTargets", spec := "markTargets", inPlace := ["internal/bytealg.IndexByteString", "internal/bytealg.IndexString"], unfollowed := true, recurses := true, named := ["internal/bytealg.MaxLen"], loops := true, apart := false, narrowed := true }
def MarkTargetsUptoSaid : Prop := markTargetsUptoRow.holds Try.pinned (OpenSpec.upto markTargetsSpec)

end Rows
end Go.Proofs.Ytikcmmkeblgamaa
