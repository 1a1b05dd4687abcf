/-
  NARROWER THAN 'FOR EVERY INPUT', by the rows' own cells (each row's printed sentence says how): PageNames: loops.
  DERIVED. THE GIVEN ROWS OF THIS SEAT. 3 by the template 'for every input the law returns true; each argument reads behind the call as it read before'; 0 by the template 'total and deterministic' (their statements: YtebhbgamdhjdkaaTotals.lean).
  GIVEN WITH THE SEED: the statements are not yours to turn. If you find one false, say at which input.
  Laid BY PROGRAM, IN A SANDBOX (cutbox-rows.mjs): the forced cells as the released guide's own fill.sh prints them over the translation a4e97649861f681f… (all of the seat's roots in one cut). By AI agents, Wed Nov 11 2026. No macro, syntax, notation, axiom, sorry.
-/
import Derived.Test.YtebhbgamdhjdkaaChecked
import GoSem.Claim
import GoSem.ClaimJoined
import GoSem.ClaimMapViews
import Derived.JoinedTies
import Derived.KernelRfl
namespace Go.Proofs.Ytebhbgamdhjdkaa
/- THE CELL 'sum', in the pinned program and in every row, IS THE sha256 OF THE DUMP (.gsa) THAT YtebhbgamdhjdkaaProg.lean LOADS. Nothing in Lean hashes anything: it is a label: what it is worth is what the hold of that sum in a sandbox is worth. -/
noncomputable def Try.pinned : Pinned := { name := "ytebhbgamdhjdkaa", sum := "a4e97649861f681f01ee4226e74292f9bb4fa0ae7fb05b202e0b1f7ecb4a690a", checked := Try.checked }
namespace Rows
def none {H : Type} : Left H := { results := [], args := [] }

/-- 'mastlaw1.MarkInlines': WHATEVER THE INPUT: true; the input reads as it did. -/
def markInlinesSpec : ChangeSpec := { name := "markInlines", fn := fun _ => fun
  | [d] => { results := [.lit (.bool true)], args := [d] }
  | _ => none }
def markInlinesRow : OpenClaim := { program := "ytebhbgamdhjdkaa", sum := "a4e97649861f681f01ee4226e74292f9bb4fa0ae7fb05b202e0b1f7ecb4a690a", func := "masthead/mastlaw1.MarkInlines", spec := "markInlines", inPlace := ["internal/bytealg.IndexByteString", "internal/bytealg.IndexString"], recurses := true, named := ["internal/bytealg.MaxLen"], apart := false }
def MarkInlinesSaid : Prop := markInlinesRow.holds Try.pinned (OpenSpec.ofChange markInlinesSpec)

/-- ITS FALSE NEIGHBOUR: 'it returns false'. Refute it at one input. -/
def markInlinesWrong : ChangeSpec := { name := "markInlines", fn := fun _ => fun
  | [d] => { results := [.lit (.bool false)], args := [d] }
  | _ => none }
def MarkInlinesWrongFalsely : Prop := markInlinesRow.holds Try.pinned (OpenSpec.ofChange markInlinesWrong)

/-- 'mastlaw1.PageNames': WHATEVER THE INPUT: true; the input reads as it did. -/
def pageNamesSpec : ChangeSpec := { name := "pageNames", fn := fun _ => fun
  | [d1, d2] => { results := [.lit (.bool true)], args := [d1, d2] }
  | _ => none }
def pageNamesRow : OpenClaim := { program := "ytebhbgamdhjdkaa", sum := "a4e97649861f681f01ee4226e74292f9bb4fa0ae7fb05b202e0b1f7ecb4a690a", func := "masthead/mastlaw1.PageNames", spec := "pageNames", recurses := true, loops := true, apart := false }
def PageNamesSaid : Prop := pageNamesRow.holds Try.pinned (OpenSpec.ofChange pageNamesSpec)

/-- ITS FALSE NEIGHBOUR: 'it returns false'. Refute it at one input. -/
def pageNamesWrong : ChangeSpec := { name := "pageNames", fn := fun _ => fun
  | [d1, d2] => { results := [.lit (.bool false)], args := [d1, d2] }
  | _ => none }
def PageNamesWrongFalsely : Prop := pageNamesRow.holds Try.pinned (OpenSpec.ofChange pageNamesWrong)

/-- 'mastlaw1.TmplEscapes': WHATEVER THE INPUT: true; the input reads as it did. -/
def tmplEscapesSpec : ChangeSpec := { name := "tmplEscapes", fn := fun _ => fun
  | [d1, d2] => { results := [.lit (.bool true)], args := [d1, d2] }
  | _ => none }
def tmplEscapesRow : OpenClaim := { program := "ytebhbgamdhjdkaa", sum := "a4e97649861f681f01ee4226e74292f9bb4fa0ae7fb05b202e0b1f7ecb4a690a", func := "masthead/mastlaw1.TmplEscapes", spec := "tmplEscapes", inPlace := ["internal/bytealg.IndexByteString", "internal/bytealg.IndexString", "sync/atomic.LoadUint32", "(*internal/sync.Mutex).Lock", "internal/race.Disable", "sync/atomic.CompareAndSwapInt32", "internal/race.Enable", "internal/race.Acquire", "(*internal/sync.Mutex).lockSlow", "internal/sync.runtime_canSpin", "internal/sync.runtime_doSpin", "internal/sync.throw", "internal/sync.runtime_nanotime", "internal/sync.runtime_SemacquireMutex", "sync/atomic.AddInt32", "(*internal/sync.Mutex).Unlock", "internal/race.ReleaseMerge", "(*internal/sync.Mutex).unlockSlow", "internal/sync.fatal", "internal/sync.runtime_Semrelease", "sync/atomic.StoreUint32"], unfollowed := true, recurses := true, named := ["internal/bytealg.MaxLen"], apart := false }
def TmplEscapesSaid : Prop := tmplEscapesRow.holds Try.pinned (OpenSpec.ofChange tmplEscapesSpec)

/-- ITS FALSE NEIGHBOUR: 'it returns false'. Refute it at one input. -/
def tmplEscapesWrong : ChangeSpec := { name := "tmplEscapes", fn := fun _ => fun
  | [d1, d2] => { results := [.lit (.bool false)], args := [d1, d2] }
  | _ => none }
def TmplEscapesWrongFalsely : Prop := tmplEscapesRow.holds Try.pinned (OpenSpec.ofChange tmplEscapesWrong)

/- THE SECOND FORM. 'bulk': how many values and letters a reading holds, each counted each time it is reached (what is shared counts as often as it is met; a slice's spare places count too). A statement '..UptoSaid' is the law's where the arguments, and the package variables that the reading takes, are together of bulk at most 1048576: NARROWER than '..Said'. Prove '..Said' where nothing that the law and all that it calls make is longer than what came in: it says more and counts as full. Else prove '..UptoSaid'. A law counts once. -/
mutual
def uptoBulk {H : Type} : DataW H → Nat
  | .lit (.string bytes) => bytes.length + 1
  | .lit _ => 1
  | .nil => 1
  | .ptr d => uptoBulk d + 1
  | .slice elems spare => uptoBulkAll elems + uptoBulkAll spare + 1
  | .agg parts => uptoBulkAll parts + 1
  | .iface _ d => uptoBulk d + 1
  | .map entries => uptoBulkEntries entries + 1
  | .held _ => 1
def uptoBulkAll {H : Type} : List (DataW H) → Nat
  | [] => 0
  | d :: r => uptoBulk d + uptoBulkAll r
def uptoBulkEntries {H : Type} : List (Lit × DataW H) → Nat
  | [] => 0
  | x :: r => uptoBulkEntry x + uptoBulkEntries r
def uptoBulkEntry {H : Type} : Lit × DataW H → Nat
  | (.string bytes, d) => bytes.length + uptoBulk d + 1
  | (_, d) => uptoBulk d + 1
 end
def uptoSmall : (H : Type) → List (DataW H) → Bool := fun _ ds => decide (uptoBulkAll ds ≤ 1048576)
def OpenSpec.upto (s : _root_.Go.ChangeSpec) : _root_.Go.OpenSpec := { _root_.Go.OpenSpec.ofChange s with cond := some uptoSmall }

/-- 'mastlaw1.MarkInlines', WHERE WHAT IT READS IS OF BULK AT MOST 1048576: true; the input reads as it did. -/
def markInlinesUptoRow : OpenClaim := { program := "ytebhbgamdhjdkaa", sum := "a4e97649861f681f01ee4226e74292f9bb4fa0ae7fb05b202e0b1f7ecb4a690a", func := "masthead/mastlaw1.MarkInlines", spec := "markInlines", inPlace := ["internal/bytealg.IndexByteString", "internal/bytealg.IndexString"], recurses := true, named := ["internal/bytealg.MaxLen"], apart := false, narrowed := true }
def MarkInlinesUptoSaid : Prop := markInlinesUptoRow.holds Try.pinned (OpenSpec.upto markInlinesSpec)

/-- 'mastlaw1.PageNames', WHERE WHAT IT READS IS OF BULK AT MOST 1048576: true; the input reads as it did. -/
def pageNamesUptoRow : OpenClaim := { program := "ytebhbgamdhjdkaa", sum := "a4e97649861f681f01ee4226e74292f9bb4fa0ae7fb05b202e0b1f7ecb4a690a", func := "masthead/mastlaw1.PageNames", spec := "pageNames", recurses := true, loops := true, apart := false, narrowed := true }
def PageNamesUptoSaid : Prop := pageNamesUptoRow.holds Try.pinned (OpenSpec.upto pageNamesSpec)

/-- 'mastlaw1.TmplEscapes', WHERE WHAT IT READS IS OF BULK AT MOST 1048576: true; the input reads as it did. -/
def tmplEscapesUptoRow : OpenClaim := { program := "ytebhbgamdhjdkaa", sum := "a4e97649861f681f01ee4226e74292f9bb4fa0ae7fb05b202e0b1f7ecb4a690a", func := "masthead/mastlaw1.TmplEscapes", spec := "tmplEscapes", inPlace := ["internal/bytealg.IndexByteString", "internal/bytealg.IndexString", "sync/atomic.LoadUint32", "(*internal/sync.Mutex).Lock", "internal/race.Disable", "sync/atomic.CompareAndSwapInt32", "internal/race.Enable", "internal/race.Acquire", "(*internal/sync.Mutex).lockSlow", "internal/sync.runtime_canSpin", "internal/sync.runtime_doSpin", "internal/sync.throw", "internal/sync.runtime_nanotime", "internal/sync.runtime_SemacquireMutex", "sync/atomic.AddInt32", "(*internal/sync.Mutex).Unlock", "internal/race.ReleaseMerge", "(*internal/sync.Mutex).unlockSlow", "internal/sync.fatal", "internal/sync.runtime_Semrelease", "sync/atomic.StoreUint32"], unfollowed := true, recurses := true, named := ["internal/bytealg.MaxLen"], apart := false, narrowed := true }
def TmplEscapesUptoSaid : Prop := tmplEscapesUptoRow.holds Try.pinned (OpenSpec.upto tmplEscapesSpec)

end Rows
end Go.Proofs.Ytebhbgamdhjdkaa
