/-
  No cell of these rows narrows 'for every input' (looked for: loops, veiled, ifaces, maps, wideKeys, modest, calm, conditions, laid).
  DERIVED. THE GIVEN ROWS OF THIS SEAT. 9 by the template 'for every input the law returns true; each argument reads behind the call as it read before'; 0 by the template 'total and deterministic' (their statements: YticpadjheelipaaTotals.lean).
  GIVEN WITH THE SEED: the statements are not yours to turn. If you find one false, say at which input.
  Laid BY PROGRAM, IN A SANDBOX (cutbox-rows.mjs): the forced cells as the released guide's own fill.sh prints them over the translation 980ddbaafccef25a… (all of the seat's roots in one cut). By AI agents, Wed Nov 11 2026. No macro, syntax, notation, axiom, sorry.
-/
import Derived.Test.YticpadjheelipaaChecked
import GoSem.Claim
import GoSem.ClaimJoined
import GoSem.ClaimMapViews
import Derived.JoinedTies
import Derived.KernelRfl
namespace Go.Proofs.Yticpadjheelipaa
/- THE CELL 'sum', in the pinned program and in every row, IS THE sha256 OF THE DUMP (.gsa) THAT YticpadjheelipaaProg.lean LOADS. Nothing in Lean hashes anything: it is a label: what it is worth is what the hold of that sum in a sandbox is worth. -/
noncomputable def Try.pinned : Pinned := { name := "yticpadjheelipaa", sum := "980ddbaafccef25a269e17b6e0eb356381666fec034f07af64f4c215fdb0b2fc", checked := Try.checked }
namespace Rows
def none {H : Type} : Left H := { results := [], args := [] }

/-- 'assayerlaw09.InnerAlike': WHATEVER THE INPUT: true; the input reads as it did. -/
def innerAlikeSpec : ChangeSpec := { name := "innerAlike", fn := fun _ => fun
  | [d] => { results := [.lit (.bool true)], args := [d] }
  | _ => none }
def innerAlikeRow : OpenClaim := { program := "yticpadjheelipaa", sum := "980ddbaafccef25a269e17b6e0eb356381666fec034f07af64f4c215fdb0b2fc", func := "assayer/assayerlaw09.InnerAlike", spec := "innerAlike", plainKeys := false, apart := false }
def InnerAlikeSaid : Prop := innerAlikeRow.holds Try.pinned (OpenSpec.ofChange innerAlikeSpec)

/-- ITS FALSE NEIGHBOUR: 'it returns false'. Refute it at one input. -/
def innerAlikeWrong : ChangeSpec := { name := "innerAlike", fn := fun _ => fun
  | [d] => { results := [.lit (.bool false)], args := [d] }
  | _ => none }
def InnerAlikeWrongFalsely : Prop := innerAlikeRow.holds Try.pinned (OpenSpec.ofChange innerAlikeWrong)

/-- 'assayerlaw09.InnerServed': WHATEVER THE INPUT: true; the input reads as it did. -/
def innerServedSpec : ChangeSpec := { name := "innerServed", fn := fun _ => fun
  | [d1, d2] => { results := [.lit (.bool true)], args := [d1, d2] }
  | _ => none }
def innerServedRow : OpenClaim := { program := "yticpadjheelipaa", sum := "980ddbaafccef25a269e17b6e0eb356381666fec034f07af64f4c215fdb0b2fc", func := "assayer/assayerlaw09.InnerServed", spec := "innerServed", plainKeys := false, apart := false }
def InnerServedSaid : Prop := innerServedRow.holds Try.pinned (OpenSpec.ofChange innerServedSpec)

/-- ITS FALSE NEIGHBOUR: 'it returns false'. Refute it at one input. -/
def innerServedWrong : ChangeSpec := { name := "innerServed", fn := fun _ => fun
  | [d1, d2] => { results := [.lit (.bool false)], args := [d1, d2] }
  | _ => none }
def InnerServedWrongFalsely : Prop := innerServedRow.holds Try.pinned (OpenSpec.ofChange innerServedWrong)

/-- 'assayerlaw09.InnerBegins': WHATEVER THE INPUT: true; the input reads as it did. -/
def innerBeginsSpec : ChangeSpec := { name := "innerBegins", fn := fun _ => fun
  | [d1, d2] => { results := [.lit (.bool true)], args := [d1, d2] }
  | _ => none }
def innerBeginsRow : OpenClaim := { program := "yticpadjheelipaa", sum := "980ddbaafccef25a269e17b6e0eb356381666fec034f07af64f4c215fdb0b2fc", func := "assayer/assayerlaw09.InnerBegins", spec := "innerBegins", plainKeys := false, apart := false }
def InnerBeginsSaid : Prop := innerBeginsRow.holds Try.pinned (OpenSpec.ofChange innerBeginsSpec)

/-- ITS FALSE NEIGHBOUR: 'it returns false'. Refute it at one input. -/
def innerBeginsWrong : ChangeSpec := { name := "innerBegins", fn := fun _ => fun
  | [d1, d2] => { results := [.lit (.bool false)], args := [d1, d2] }
  | _ => none }
def InnerBeginsWrongFalsely : Prop := innerBeginsRow.holds Try.pinned (OpenSpec.ofChange innerBeginsWrong)

/-- 'assayerlaw09.InnerFinals': WHATEVER THE INPUT: true; the input reads as it did. -/
def innerFinalsSpec : ChangeSpec := { name := "innerFinals", fn := fun _ => fun
  | [d] => { results := [.lit (.bool true)], args := [d] }
  | _ => none }
def innerFinalsRow : OpenClaim := { program := "yticpadjheelipaa", sum := "980ddbaafccef25a269e17b6e0eb356381666fec034f07af64f4c215fdb0b2fc", func := "assayer/assayerlaw09.InnerFinals", spec := "innerFinals", recurses := true, plainKeys := false, apart := false }
def InnerFinalsSaid : Prop := innerFinalsRow.holds Try.pinned (OpenSpec.ofChange innerFinalsSpec)

/-- ITS FALSE NEIGHBOUR: 'it returns false'. Refute it at one input. -/
def innerFinalsWrong : ChangeSpec := { name := "innerFinals", fn := fun _ => fun
  | [d] => { results := [.lit (.bool false)], args := [d] }
  | _ => none }
def InnerFinalsWrongFalsely : Prop := innerFinalsRow.holds Try.pinned (OpenSpec.ofChange innerFinalsWrong)

/-- 'assayerlaw09.InnerChecks': WHATEVER THE INPUT: true; the input reads as it did. -/
def innerChecksSpec : ChangeSpec := { name := "innerChecks", fn := fun _ => fun
  | [d] => { results := [.lit (.bool true)], args := [d] }
  | _ => none }
def innerChecksRow : OpenClaim := { program := "yticpadjheelipaa", sum := "980ddbaafccef25a269e17b6e0eb356381666fec034f07af64f4c215fdb0b2fc", func := "assayer/assayerlaw09.InnerChecks", spec := "innerChecks", unfollowed := true, recurses := true, plainKeys := false, apart := false }
def InnerChecksSaid : Prop := innerChecksRow.holds Try.pinned (OpenSpec.ofChange innerChecksSpec)

/-- ITS FALSE NEIGHBOUR: 'it returns false'. Refute it at one input. -/
def innerChecksWrong : ChangeSpec := { name := "innerChecks", fn := fun _ => fun
  | [d] => { results := [.lit (.bool false)], args := [d] }
  | _ => none }
def InnerChecksWrongFalsely : Prop := innerChecksRow.holds Try.pinned (OpenSpec.ofChange innerChecksWrong)

/-- 'assayerlaw04.TableUnique': WHATEVER THE INPUT: true; the input reads as it did. -/
def tableUniqueSpec : ChangeSpec := { name := "tableUnique", fn := fun _ => fun
  | [d1, d2] => { results := [.lit (.bool true)], args := [d1, d2] }
  | _ => none }
def tableUniqueRow : OpenClaim := { program := "yticpadjheelipaa", sum := "980ddbaafccef25a269e17b6e0eb356381666fec034f07af64f4c215fdb0b2fc", func := "assayer/assayerlaw04.TableUnique", spec := "tableUnique", unfollowed := true, recurses := true, plainKeys := false, apart := false }
def TableUniqueSaid : Prop := tableUniqueRow.holds Try.pinned (OpenSpec.ofChange tableUniqueSpec)

/-- ITS FALSE NEIGHBOUR: 'it returns false'. Refute it at one input. -/
def tableUniqueWrong : ChangeSpec := { name := "tableUnique", fn := fun _ => fun
  | [d1, d2] => { results := [.lit (.bool false)], args := [d1, d2] }
  | _ => none }
def TableUniqueWrongFalsely : Prop := tableUniqueRow.holds Try.pinned (OpenSpec.ofChange tableUniqueWrong)

/-- 'assayerlaw04.TableFinals': WHATEVER THE INPUT: true; the input reads as it did. -/
def tableFinalsSpec : ChangeSpec := { name := "tableFinals", fn := fun _ => fun
  | [d1, d2, d3] => { results := [.lit (.bool true)], args := [d1, d2, d3] }
  | _ => none }
def tableFinalsRow : OpenClaim := { program := "yticpadjheelipaa", sum := "980ddbaafccef25a269e17b6e0eb356381666fec034f07af64f4c215fdb0b2fc", func := "assayer/assayerlaw04.TableFinals", spec := "tableFinals", unfollowed := true, recurses := true, plainKeys := false, apart := false }
def TableFinalsSaid : Prop := tableFinalsRow.holds Try.pinned (OpenSpec.ofChange tableFinalsSpec)

/-- ITS FALSE NEIGHBOUR: 'it returns false'. Refute it at one input. -/
def tableFinalsWrong : ChangeSpec := { name := "tableFinals", fn := fun _ => fun
  | [d1, d2, d3] => { results := [.lit (.bool false)], args := [d1, d2, d3] }
  | _ => none }
def TableFinalsWrongFalsely : Prop := tableFinalsRow.holds Try.pinned (OpenSpec.ofChange tableFinalsWrong)

/-- 'assayerlaw04.TableWriters': WHATEVER THE INPUT: true; the input reads as it did. -/
def tableWritersSpec : ChangeSpec := { name := "tableWriters", fn := fun _ => fun
  | [d1, d2, d3] => { results := [.lit (.bool true)], args := [d1, d2, d3] }
  | _ => none }
def tableWritersRow : OpenClaim := { program := "yticpadjheelipaa", sum := "980ddbaafccef25a269e17b6e0eb356381666fec034f07af64f4c215fdb0b2fc", func := "assayer/assayerlaw04.TableWriters", spec := "tableWriters", plainKeys := false, apart := false }
def TableWritersSaid : Prop := tableWritersRow.holds Try.pinned (OpenSpec.ofChange tableWritersSpec)

/-- ITS FALSE NEIGHBOUR: 'it returns false'. Refute it at one input. -/
def tableWritersWrong : ChangeSpec := { name := "tableWriters", fn := fun _ => fun
  | [d1, d2, d3] => { results := [.lit (.bool false)], args := [d1, d2, d3] }
  | _ => none }
def TableWritersWrongFalsely : Prop := tableWritersRow.holds Try.pinned (OpenSpec.ofChange tableWritersWrong)

/-- 'assayerlaw04.TableNobody': WHATEVER THE INPUT: true; the input reads as it did. -/
def tableNobodySpec : ChangeSpec := { name := "tableNobody", fn := fun _ => fun
  | [d1, d2] => { results := [.lit (.bool true)], args := [d1, d2] }
  | _ => none }
def tableNobodyRow : OpenClaim := { program := "yticpadjheelipaa", sum := "980ddbaafccef25a269e17b6e0eb356381666fec034f07af64f4c215fdb0b2fc", func := "assayer/assayerlaw04.TableNobody", spec := "tableNobody", unfollowed := true, recurses := true, plainKeys := false, apart := false }
def TableNobodySaid : Prop := tableNobodyRow.holds Try.pinned (OpenSpec.ofChange tableNobodySpec)

/-- ITS FALSE NEIGHBOUR: 'it returns false'. Refute it at one input. -/
def tableNobodyWrong : ChangeSpec := { name := "tableNobody", fn := fun _ => fun
  | [d1, d2] => { results := [.lit (.bool false)], args := [d1, d2] }
  | _ => none }
def TableNobodyWrongFalsely : Prop := tableNobodyRow.holds Try.pinned (OpenSpec.ofChange tableNobodyWrong)

/- THE SECOND FORM. 'bulk': how many values and letters a reading holds, each counted each time it is reached (what is shared counts as often as it is met; a slice's spare places count too). A statement '..UptoSaid' is the law's where the arguments, and the package variables that the reading takes, are together of bulk at most 1048576: NARROWER than '..Said'. Prove '..Said' where nothing that the law and all that it calls make is longer than what came in: it says more and counts as full. Else prove '..UptoSaid'. A law counts once. -/
mutual
def uptoBulk {H : Type} : DataW H → Nat
  | .lit (.string bytes) => bytes.length + 1
  | .lit _ => 1
  | .nil => 1
  | .ptr d => uptoBulk d + 1
  | .slice elems spare => uptoBulkAll elems + uptoBulkAll spare + 1
  | .agg parts => uptoBulkAll parts + 1
  | .iface _ d => uptoBulk d + 1
  | .map entries => uptoBulkEntries entries + 1
  | .held _ => 1
def uptoBulkAll {H : Type} : List (DataW H) → Nat
  | [] => 0
  | d :: r => uptoBulk d + uptoBulkAll r
def uptoBulkEntries {H : Type} : List (Lit × DataW H) → Nat
  | [] => 0
  | x :: r => uptoBulkEntry x + uptoBulkEntries r
def uptoBulkEntry {H : Type} : Lit × DataW H → Nat
  | (.string bytes, d) => bytes.length + uptoBulk d + 1
  | (_, d) => uptoBulk d + 1
 end
def uptoSmall : (H : Type) → List (DataW H) → Bool := fun _ ds => decide (uptoBulkAll ds ≤ 1048576)
def OpenSpec.upto (s : _root_.Go.ChangeSpec) : _root_.Go.OpenSpec := { _root_.Go.OpenSpec.ofChange s with cond := some uptoSmall }

/-- 'assayerlaw09.InnerAlike', WHERE WHAT IT READS IS OF BULK AT MOST 1048576: true; the input reads as it did. -/
def innerAlikeUptoRow : OpenClaim := { program := "yticpadjheelipaa", sum := "980ddbaafccef25a269e17b6e0eb356381666fec034f07af64f4c215fdb0b2fc", func := "assayer/assayerlaw09.InnerAlike", spec := "innerAlike", plainKeys := false, apart := false, narrowed := true }
def InnerAlikeUptoSaid : Prop := innerAlikeUptoRow.holds Try.pinned (OpenSpec.upto innerAlikeSpec)

/-- 'assayerlaw09.InnerServed', WHERE WHAT IT READS IS OF BULK AT MOST 1048576: true; the input reads as it did. -/
def innerServedUptoRow : OpenClaim := { program := "yticpadjheelipaa", sum := "980ddbaafccef25a269e17b6e0eb356381666fec034f07af64f4c215fdb0b2fc", func := "assayer/assayerlaw09.InnerServed", spec := "innerServed", plainKeys := false, apart := false, narrowed := true }
def InnerServedUptoSaid : Prop := innerServedUptoRow.holds Try.pinned (OpenSpec.upto innerServedSpec)

/-- 'assayerlaw09.InnerBegins', WHERE WHAT IT READS IS OF BULK AT MOST 1048576: true; the input reads as it did. -/
def innerBeginsUptoRow : OpenClaim := { program := "yticpadjheelipaa", sum := "980ddbaafccef25a269e17b6e0eb356381666fec034f07af64f4c215fdb0b2fc", func := "assayer/assayerlaw09.InnerBegins", spec := "innerBegins", plainKeys := false, apart := false, narrowed := true }
def InnerBeginsUptoSaid : Prop := innerBeginsUptoRow.holds Try.pinned (OpenSpec.upto innerBeginsSpec)

/-- 'assayerlaw09.InnerFinals', WHERE WHAT IT READS IS OF BULK AT MOST 1048576: true; the input reads as it did. -/
def innerFinalsUptoRow : OpenClaim := { program := "yticpadjheelipaa", sum := "980ddbaafccef25a269e17b6e0eb356381666fec034f07af64f4c215fdb0b2fc", func := "assayer/assayerlaw09.InnerFinals", spec := "innerFinals", recurses := true, plainKeys := false, apart := false, narrowed := true }
def InnerFinalsUptoSaid : Prop := innerFinalsUptoRow.holds Try.pinned (OpenSpec.upto innerFinalsSpec)

/-- 'assayerlaw09.InnerChecks', WHERE WHAT IT READS IS OF BULK AT MOST 1048576: true; the input reads as it did. -/
def innerChecksUptoRow : OpenClaim := { program := "yticpadjheelipaa", sum := "980ddbaafccef25a269e17b6e0eb356381666fec034f07af64f4c215fdb0b2fc", func := "assayer/assayerlaw09.InnerChecks", spec := "innerChecks", unfollowed := true, recurses := true, plainKeys := false, apart := false, narrowed := true }
def InnerChecksUptoSaid : Prop := innerChecksUptoRow.holds Try.pinned (OpenSpec.upto innerChecksSpec)

/-- 'assayerlaw04.TableUnique', WHERE WHAT IT READS IS OF BULK AT MOST 1048576: true; the input reads as it did. -/
def tableUniqueUptoRow : OpenClaim := { program := "yticpadjheelipaa", sum := "980ddbaafccef25a269e17b6e0eb356381666fec034f07af64f4c215fdb0b2fc", func := "assayer/assayerlaw04.TableUnique", spec := "tableUnique", unfollowed := true, recurses := true, plainKeys := false, apart := false, narrowed := true }
def TableUniqueUptoSaid : Prop := tableUniqueUptoRow.holds Try.pinned (OpenSpec.upto tableUniqueSpec)

/-- 'assayerlaw04.TableFinals', WHERE WHAT IT READS IS OF BULK AT MOST 1048576: true; the input reads as it did. -/
def tableFinalsUptoRow : OpenClaim := { program := "yticpadjheelipaa", sum := "980ddbaafccef25a269e17b6e0eb356381666fec034f07af64f4c215fdb0b2fc", func := "assayer/assayerlaw04.TableFinals", spec := "tableFinals", unfollowed := true, recurses := true, plainKeys := false, apart := false, narrowed := true }
def TableFinalsUptoSaid : Prop := tableFinalsUptoRow.holds Try.pinned (OpenSpec.upto tableFinalsSpec)

/-- 'assayerlaw04.TableWriters', WHERE WHAT IT READS IS OF BULK AT MOST 1048576: true; the input reads as it did. -/
def tableWritersUptoRow : OpenClaim := { program := "yticpadjheelipaa", sum := "980ddbaafccef25a269e17b6e0eb356381666fec034f07af64f4c215fdb0b2fc", func := "assayer/assayerlaw04.TableWriters", spec := "tableWriters", plainKeys := false, apart := false, narrowed := true }
def TableWritersUptoSaid : Prop := tableWritersUptoRow.holds Try.pinned (OpenSpec.upto tableWritersSpec)

/-- 'assayerlaw04.TableNobody', WHERE WHAT IT READS IS OF BULK AT MOST 1048576: true; the input reads as it did. -/
def tableNobodyUptoRow : OpenClaim := { program := "yticpadjheelipaa", sum := "980ddbaafccef25a269e17b6e0eb356381666fec034f07af64f4c215fdb0b2fc", func := "assayer/assayerlaw04.TableNobody", spec := "tableNobody", unfollowed := true, recurses := true, plainKeys := false, apart := false, narrowed := true }
def TableNobodyUptoSaid : Prop := tableNobodyUptoRow.holds Try.pinned (OpenSpec.upto tableNobodySpec)

end Rows
end Go.Proofs.Yticpadjheelipaa
