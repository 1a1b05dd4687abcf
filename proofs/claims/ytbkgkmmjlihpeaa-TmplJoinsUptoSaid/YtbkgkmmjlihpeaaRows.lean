/-
  NARROWER THAN 'FOR EVERY INPUT', by the rows' own cells (each row's printed sentence says how): TmplCompares: loops.
  DERIVED. THE GIVEN ROWS OF THIS SEAT. 4 by the template 'for every input the law returns true; each argument reads behind the call as it read before'; 0 by the template 'total and deterministic' (their statements: YtbkgkmmjlihpeaaTotals.lean).
  GIVEN WITH THE SEED: the statements are not yours to turn. If you find one false, say at which input.
  Laid BY PROGRAM, IN A SANDBOX (cutbox-rows.mjs): the forced cells as the released guide's own fill.sh prints them over the translation ebde4d495fbff599… (all of the seat's roots in one cut). By AI agents, Wed Nov 11 2026. No macro, syntax, notation, axiom, sorry.
-/
import Derived.Test.YtbkgkmmjlihpeaaChecked
import GoSem.Claim
import GoSem.ClaimJoined
import GoSem.ClaimMapViews
import Derived.JoinedTies
import Derived.KernelRfl
namespace Go.Proofs.Ytbkgkmmjlihpeaa
/- THE CELL 'sum', in the pinned program and in every row, IS THE sha256 OF THE DUMP (.gsa) THAT YtbkgkmmjlihpeaaProg.lean LOADS. Nothing in Lean hashes anything: it is a label: what it is worth is what the hold of that sum in a sandbox is worth. -/
noncomputable def Try.pinned : Pinned := { name := "ytbkgkmmjlihpeaa", sum := "ebde4d495fbff5994c65f6cbe9a214be392ca32f7a2961d15f69dbc2f315eda2", checked := Try.checked }
namespace Rows
def none {H : Type} : Left H := { results := [], args := [] }

/-- 'mastlaw1.TmplCompares': WHATEVER THE INPUT: true; the input reads as it did. -/
def tmplComparesSpec : ChangeSpec := { name := "tmplCompares", fn := fun _ => fun
  | [d1, d2] => { results := [.lit (.bool true)], args := [d1, d2] }
  | _ => none }
def tmplComparesRow : OpenClaim := { program := "ytbkgkmmjlihpeaa", sum := "ebde4d495fbff5994c65f6cbe9a214be392ca32f7a2961d15f69dbc2f315eda2", func := "masthead/mastlaw1.TmplCompares", spec := "tmplCompares", inPlace := ["internal/bytealg.abigen_runtime_cmpstring"], loops := true, apart := false }
def TmplComparesSaid : Prop := tmplComparesRow.holds Try.pinned (OpenSpec.ofChange tmplComparesSpec)

/-- ITS FALSE NEIGHBOUR: 'it returns false'. Refute it at one input. -/
def tmplComparesWrong : ChangeSpec := { name := "tmplCompares", fn := fun _ => fun
  | [d1, d2] => { results := [.lit (.bool false)], args := [d1, d2] }
  | _ => none }
def TmplComparesWrongFalsely : Prop := tmplComparesRow.holds Try.pinned (OpenSpec.ofChange tmplComparesWrong)

/-- 'mastlaw1.ShipWords': WHATEVER THE INPUT: true; the input reads as it did. -/
def shipWordsSpec : ChangeSpec := { name := "shipWords", fn := fun _ => fun
  | [d1, d2] => { results := [.lit (.bool true)], args := [d1, d2] }
  | _ => none }
def shipWordsRow : OpenClaim := { program := "ytbkgkmmjlihpeaa", sum := "ebde4d495fbff5994c65f6cbe9a214be392ca32f7a2961d15f69dbc2f315eda2", func := "masthead/mastlaw1.ShipWords", spec := "shipWords", apart := false }
def ShipWordsSaid : Prop := shipWordsRow.holds Try.pinned (OpenSpec.ofChange shipWordsSpec)

/-- ITS FALSE NEIGHBOUR: 'it returns false'. Refute it at one input. -/
def shipWordsWrong : ChangeSpec := { name := "shipWords", fn := fun _ => fun
  | [d1, d2] => { results := [.lit (.bool false)], args := [d1, d2] }
  | _ => none }
def ShipWordsWrongFalsely : Prop := shipWordsRow.holds Try.pinned (OpenSpec.ofChange shipWordsWrong)

/-- 'mastlaw1.TmplJoins': WHATEVER THE INPUT: true; the input reads as it did. -/
def tmplJoinsSpec : ChangeSpec := { name := "tmplJoins", fn := fun _ => fun
  | [d] => { results := [.lit (.bool true)], args := [d] }
  | _ => none }
def tmplJoinsRow : OpenClaim := { program := "ytbkgkmmjlihpeaa", sum := "ebde4d495fbff5994c65f6cbe9a214be392ca32f7a2961d15f69dbc2f315eda2", func := "masthead/mastlaw1.TmplJoins", spec := "tmplJoins", inPlace := ["internal/abi.NoEscape", "internal/bytealg.MakeNoZero"], apart := false }
def TmplJoinsSaid : Prop := tmplJoinsRow.holds Try.pinned (OpenSpec.ofChange tmplJoinsSpec)

/-- ITS FALSE NEIGHBOUR: 'it returns false'. Refute it at one input. -/
def tmplJoinsWrong : ChangeSpec := { name := "tmplJoins", fn := fun _ => fun
  | [d] => { results := [.lit (.bool false)], args := [d] }
  | _ => none }
def TmplJoinsWrongFalsely : Prop := tmplJoinsRow.holds Try.pinned (OpenSpec.ofChange tmplJoinsWrong)

/-- 'mastlaw1.PageLines': WHATEVER THE INPUT: true; the input reads as it did. -/
def pageLinesSpec : ChangeSpec := { name := "pageLines", fn := fun _ => fun
  | [d] => { results := [.lit (.bool true)], args := [d] }
  | _ => none }
def pageLinesRow : OpenClaim := { program := "ytbkgkmmjlihpeaa", sum := "ebde4d495fbff5994c65f6cbe9a214be392ca32f7a2961d15f69dbc2f315eda2", func := "masthead/mastlaw1.PageLines", spec := "pageLines", inPlace := ["internal/bytealg.IndexByteString"], recurses := true, apart := false }
def PageLinesSaid : Prop := pageLinesRow.holds Try.pinned (OpenSpec.ofChange pageLinesSpec)

/-- ITS FALSE NEIGHBOUR: 'it returns false'. Refute it at one input. -/
def pageLinesWrong : ChangeSpec := { name := "pageLines", fn := fun _ => fun
  | [d] => { results := [.lit (.bool false)], args := [d] }
  | _ => none }
def PageLinesWrongFalsely : Prop := pageLinesRow.holds Try.pinned (OpenSpec.ofChange pageLinesWrong)

/- THE SECOND FORM. 'bulk': how many values and letters a reading holds, each counted each time it is reached (what is shared counts as often as it is met; a slice's spare places count too). A statement '..UptoSaid' is the law's where the arguments, and the package variables that the reading takes, are together of bulk at most 1048576: NARROWER than '..Said'. Prove '..Said' where nothing that the law and all that it calls make is longer than what came in: it says more and counts as full. Else prove '..UptoSaid'. A law counts once. -/
mutual
def uptoBulk {H : Type} : DataW H → Nat
  | .lit (.string bytes) => bytes.length + 1
  | .lit _ => 1
  | .nil => 1
  | .ptr d => uptoBulk d + 1
  | .slice elems spare => uptoBulkAll elems + uptoBulkAll spare + 1
  | .agg parts => uptoBulkAll parts + 1
  | .iface _ d => uptoBulk d + 1
  | .map entries => uptoBulkEntries entries + 1
  | .held _ => 1
def uptoBulkAll {H : Type} : List (DataW H) → Nat
  | [] => 0
  | d :: r => uptoBulk d + uptoBulkAll r
def uptoBulkEntries {H : Type} : List (Lit × DataW H) → Nat
  | [] => 0
  | x :: r => uptoBulkEntry x + uptoBulkEntries r
def uptoBulkEntry {H : Type} : Lit × DataW H → Nat
  | (.string bytes, d) => bytes.length + uptoBulk d + 1
  | (_, d) => uptoBulk d + 1
 end
def uptoSmall : (H : Type) → List (DataW H) → Bool := fun _ ds => decide (uptoBulkAll ds ≤ 1048576)
def OpenSpec.upto (s : _root_.Go.ChangeSpec) : _root_.Go.OpenSpec := { _root_.Go.OpenSpec.ofChange s with cond := some uptoSmall }

/-- 'mastlaw1.TmplCompares', WHERE WHAT IT READS IS OF BULK AT MOST 1048576: true; the input reads as it did. -/
def tmplComparesUptoRow : OpenClaim := { program := "ytbkgkmmjlihpeaa", sum := "ebde4d495fbff5994c65f6cbe9a214be392ca32f7a2961d15f69dbc2f315eda2", func := "masthead/mastlaw1.TmplCompares", spec := "tmplCompares", inPlace := ["internal/bytealg.abigen_runtime_cmpstring"], loops := true, apart := false, narrowed := true }
def TmplComparesUptoSaid : Prop := tmplComparesUptoRow.holds Try.pinned (OpenSpec.upto tmplComparesSpec)

/-- 'mastlaw1.ShipWords', WHERE WHAT IT READS IS OF BULK AT MOST 1048576: true; the input reads as it did. -/
def shipWordsUptoRow : OpenClaim := { program := "ytbkgkmmjlihpeaa", sum := "ebde4d495fbff5994c65f6cbe9a214be392ca32f7a2961d15f69dbc2f315eda2", func := "masthead/mastlaw1.ShipWords", spec := "shipWords", apart := false, narrowed := true }
def ShipWordsUptoSaid : Prop := shipWordsUptoRow.holds Try.pinned (OpenSpec.upto shipWordsSpec)

/-- 'mastlaw1.TmplJoins', WHERE WHAT IT READS IS OF BULK AT MOST 1048576: true; the input reads as it did. -/
def tmplJoinsUptoRow : OpenClaim := { program := "ytbkgkmmjlihpeaa", sum := "ebde4d495fbff5994c65f6cbe9a214be392ca32f7a2961d15f69dbc2f315eda2", func := "masthead/mastlaw1.TmplJoins", spec := "tmplJoins", inPlace := ["internal/abi.NoEscape", "internal/bytealg.MakeNoZero"], apart := false, narrowed := true }
def TmplJoinsUptoSaid : Prop := tmplJoinsUptoRow.holds Try.pinned (OpenSpec.upto tmplJoinsSpec)

/-- 'mastlaw1.PageLines', WHERE WHAT IT READS IS OF BULK AT MOST 1048576: true; the input reads as it did. -/
def pageLinesUptoRow : OpenClaim := { program := "ytbkgkmmjlihpeaa", sum := "ebde4d495fbff5994c65f6cbe9a214be392ca32f7a2961d15f69dbc2f315eda2", func := "masthead/mastlaw1.PageLines", spec := "pageLines", inPlace := ["internal/bytealg.IndexByteString"], recurses := true, apart := false, narrowed := true }
def PageLinesUptoSaid : Prop := pageLinesUptoRow.holds Try.pinned (OpenSpec.upto pageLinesSpec)

end Rows
end Go.Proofs.Ytbkgkmmjlihpeaa
