/-
  No cell of these rows narrows 'for every input' (looked for: loops, veiled, ifaces, maps, wideKeys, modest, calm, conditions, laid).
  DERIVED. THE GIVEN ROWS OF THIS SEAT. 12 by the template 'for every input the law returns true; each argument reads behind the call as it read before'; 0 by the template 'total and deterministic' (their statements: YtemdmpgekegfhaaTotals.lean).
  GIVEN WITH THE SEED: the statements are not yours to turn. If you find one false, say at which input.
  Laid BY PROGRAM, IN A SANDBOX (cutbox-rows.mjs): the forced cells as the released guide's own fill.sh prints them over the translation 9561c51c847b05a0… (all of the seat's roots in one cut). By AI agents, Wed Nov 11 2026. No macro, syntax, notation, axiom, sorry.
-/
import Derived.Test.YtemdmpgekegfhaaChecked
import GoSem.Claim
import GoSem.ClaimJoined
import GoSem.ClaimMapViews
import Derived.JoinedTies
import Derived.KernelRfl
namespace Go.Proofs.Ytemdmpgekegfhaa
/- THE CELL 'sum', in the pinned program and in every row, IS THE sha256 OF THE DUMP (.gsa) THAT YtemdmpgekegfhaaProg.lean LOADS. Nothing in Lean hashes anything: it is a label: what it is worth is what the hold of that sum in a sandbox is worth. -/
noncomputable def Try.pinned : Pinned := { name := "ytemdmpgekegfhaa", sum := "9561c51c847b05a0893043b4e15c759d0be5100cbbf6f57991c0197bd728dd70", checked := Try.checked }
namespace Rows
def none {H : Type} : Left H := { results := [], args := [] }

/-- 'assayerlaw04.TableUnique': WHATEVER THE INPUT: true; the input reads as it did. -/
def tableUniqueSpec : ChangeSpec := { name := "tableUnique", fn := fun _ => fun
  | [d1, d2] => { results := [.lit (.bool true)], args := [d1, d2] }
  | _ => none }
def tableUniqueRow : OpenClaim := { program := "ytemdmpgekegfhaa", sum := "9561c51c847b05a0893043b4e15c759d0be5100cbbf6f57991c0197bd728dd70", func := "assayer/assayerlaw04.TableUnique", spec := "tableUnique", unfollowed := true, recurses := true, plainKeys := false, apart := false }
def TableUniqueSaid : Prop := tableUniqueRow.holds Try.pinned (OpenSpec.ofChange tableUniqueSpec)

/-- ITS FALSE NEIGHBOUR: 'it returns false'. Refute it at one input. -/
def tableUniqueWrong : ChangeSpec := { name := "tableUnique", fn := fun _ => fun
  | [d1, d2] => { results := [.lit (.bool false)], args := [d1, d2] }
  | _ => none }
def TableUniqueWrongFalsely : Prop := tableUniqueRow.holds Try.pinned (OpenSpec.ofChange tableUniqueWrong)

/-- 'assayerlaw04.TableFinals': WHATEVER THE INPUT: true; the input reads as it did. -/
def tableFinalsSpec : ChangeSpec := { name := "tableFinals", fn := fun _ => fun
  | [d1, d2, d3] => { results := [.lit (.bool true)], args := [d1, d2, d3] }
  | _ => none }
def tableFinalsRow : OpenClaim := { program := "ytemdmpgekegfhaa", sum := "9561c51c847b05a0893043b4e15c759d0be5100cbbf6f57991c0197bd728dd70", func := "assayer/assayerlaw04.TableFinals", spec := "tableFinals", unfollowed := true, recurses := true, plainKeys := false, apart := false }
def TableFinalsSaid : Prop := tableFinalsRow.holds Try.pinned (OpenSpec.ofChange tableFinalsSpec)

/-- ITS FALSE NEIGHBOUR: 'it returns false'. Refute it at one input. -/
def tableFinalsWrong : ChangeSpec := { name := "tableFinals", fn := fun _ => fun
  | [d1, d2, d3] => { results := [.lit (.bool false)], args := [d1, d2, d3] }
  | _ => none }
def TableFinalsWrongFalsely : Prop := tableFinalsRow.holds Try.pinned (OpenSpec.ofChange tableFinalsWrong)

/-- 'assayerlaw16.ModelFills': WHATEVER THE INPUT: true; the input reads as it did. -/
def modelFillsSpec : ChangeSpec := { name := "modelFills", fn := fun _ => fun
  | [d1, d2] => { results := [.lit (.bool true)], args := [d1, d2] }
  | _ => none }
def modelFillsRow : OpenClaim := { program := "ytemdmpgekegfhaa", sum := "9561c51c847b05a0893043b4e15c759d0be5100cbbf6f57991c0197bd728dd70", func := "assayer/assayerlaw16.ModelFills", spec := "modelFills", inPlace := ["maps.clone"], unfollowed := true, recurses := true, plainKeys := false, apart := false }
def ModelFillsSaid : Prop := modelFillsRow.holds Try.pinned (OpenSpec.ofChange modelFillsSpec)

/-- ITS FALSE NEIGHBOUR: 'it returns false'. Refute it at one input. -/
def modelFillsWrong : ChangeSpec := { name := "modelFills", fn := fun _ => fun
  | [d1, d2] => { results := [.lit (.bool false)], args := [d1, d2] }
  | _ => none }
def ModelFillsWrongFalsely : Prop := modelFillsRow.holds Try.pinned (OpenSpec.ofChange modelFillsWrong)

/-- 'assayerlaw04.TableWriters': WHATEVER THE INPUT: true; the input reads as it did. -/
def tableWritersSpec : ChangeSpec := { name := "tableWriters", fn := fun _ => fun
  | [d1, d2, d3] => { results := [.lit (.bool true)], args := [d1, d2, d3] }
  | _ => none }
def tableWritersRow : OpenClaim := { program := "ytemdmpgekegfhaa", sum := "9561c51c847b05a0893043b4e15c759d0be5100cbbf6f57991c0197bd728dd70", func := "assayer/assayerlaw04.TableWriters", spec := "tableWriters", plainKeys := false, apart := false }
def TableWritersSaid : Prop := tableWritersRow.holds Try.pinned (OpenSpec.ofChange tableWritersSpec)

/-- ITS FALSE NEIGHBOUR: 'it returns false'. Refute it at one input. -/
def tableWritersWrong : ChangeSpec := { name := "tableWriters", fn := fun _ => fun
  | [d1, d2, d3] => { results := [.lit (.bool false)], args := [d1, d2, d3] }
  | _ => none }
def TableWritersWrongFalsely : Prop := tableWritersRow.holds Try.pinned (OpenSpec.ofChange tableWritersWrong)

/-- 'assayerlaw16.ModelReplays': WHATEVER THE INPUT: true; the input reads as it did. -/
def modelReplaysSpec : ChangeSpec := { name := "modelReplays", fn := fun _ => fun
  | [d1, d2] => { results := [.lit (.bool true)], args := [d1, d2] }
  | _ => none }
def modelReplaysRow : OpenClaim := { program := "ytemdmpgekegfhaa", sum := "9561c51c847b05a0893043b4e15c759d0be5100cbbf6f57991c0197bd728dd70", func := "assayer/assayerlaw16.ModelReplays", spec := "modelReplays", inPlace := ["maps.clone"], unfollowed := true, recurses := true, plainKeys := false, apart := false }
def ModelReplaysSaid : Prop := modelReplaysRow.holds Try.pinned (OpenSpec.ofChange modelReplaysSpec)

/-- ITS FALSE NEIGHBOUR: 'it returns false'. Refute it at one input. -/
def modelReplaysWrong : ChangeSpec := { name := "modelReplays", fn := fun _ => fun
  | [d1, d2] => { results := [.lit (.bool false)], args := [d1, d2] }
  | _ => none }
def ModelReplaysWrongFalsely : Prop := modelReplaysRow.holds Try.pinned (OpenSpec.ofChange modelReplaysWrong)

/-- 'assayerlaw16.ModelLives': WHATEVER THE INPUT: true; the input reads as it did. -/
def modelLivesSpec : ChangeSpec := { name := "modelLives", fn := fun _ => fun
  | [d1, d2] => { results := [.lit (.bool true)], args := [d1, d2] }
  | _ => none }
def modelLivesRow : OpenClaim := { program := "ytemdmpgekegfhaa", sum := "9561c51c847b05a0893043b4e15c759d0be5100cbbf6f57991c0197bd728dd70", func := "assayer/assayerlaw16.ModelLives", spec := "modelLives", inPlace := ["maps.clone"], unfollowed := true, recurses := true, plainKeys := false, apart := false }
def ModelLivesSaid : Prop := modelLivesRow.holds Try.pinned (OpenSpec.ofChange modelLivesSpec)

/-- ITS FALSE NEIGHBOUR: 'it returns false'. Refute it at one input. -/
def modelLivesWrong : ChangeSpec := { name := "modelLives", fn := fun _ => fun
  | [d1, d2] => { results := [.lit (.bool false)], args := [d1, d2] }
  | _ => none }
def ModelLivesWrongFalsely : Prop := modelLivesRow.holds Try.pinned (OpenSpec.ofChange modelLivesWrong)

/-- 'assayerlaw17.SearchRight': WHATEVER THE INPUT: true; the input reads as it did. -/
def searchRightSpec : ChangeSpec := { name := "searchRight", fn := fun _ => fun
  | [d1, d2] => { results := [.lit (.bool true)], args := [d1, d2] }
  | _ => none }
def searchRightRow : OpenClaim := { program := "ytemdmpgekegfhaa", sum := "9561c51c847b05a0893043b4e15c759d0be5100cbbf6f57991c0197bd728dd70", func := "assayer/assayerlaw17.SearchRight", spec := "searchRight", inPlace := ["maps.clone"], unfollowed := true, recurses := true, plainKeys := false, apart := false }
def SearchRightSaid : Prop := searchRightRow.holds Try.pinned (OpenSpec.ofChange searchRightSpec)

/-- ITS FALSE NEIGHBOUR: 'it returns false'. Refute it at one input. -/
def searchRightWrong : ChangeSpec := { name := "searchRight", fn := fun _ => fun
  | [d1, d2] => { results := [.lit (.bool false)], args := [d1, d2] }
  | _ => none }
def SearchRightWrongFalsely : Prop := searchRightRow.holds Try.pinned (OpenSpec.ofChange searchRightWrong)

/-- 'assayerlaw03.PairChecks': WHATEVER THE INPUT: true; the input reads as it did. -/
def pairChecksSpec : ChangeSpec := { name := "pairChecks", fn := fun _ => fun
  | [d] => { results := [.lit (.bool true)], args := [d] }
  | _ => none }
def pairChecksRow : OpenClaim := { program := "ytemdmpgekegfhaa", sum := "9561c51c847b05a0893043b4e15c759d0be5100cbbf6f57991c0197bd728dd70", func := "assayer/assayerlaw03.PairChecks", spec := "pairChecks", unfollowed := true, recurses := true, plainKeys := false, apart := false }
def PairChecksSaid : Prop := pairChecksRow.holds Try.pinned (OpenSpec.ofChange pairChecksSpec)

/-- ITS FALSE NEIGHBOUR: 'it returns false'. Refute it at one input. -/
def pairChecksWrong : ChangeSpec := { name := "pairChecks", fn := fun _ => fun
  | [d] => { results := [.lit (.bool false)], args := [d] }
  | _ => none }
def PairChecksWrongFalsely : Prop := pairChecksRow.holds Try.pinned (OpenSpec.ofChange pairChecksWrong)

/-- 'assayerlaw03.PairBegins': WHATEVER THE INPUT: true; the input reads as it did. -/
def pairBeginsSpec : ChangeSpec := { name := "pairBegins", fn := fun _ => fun
  | [d1, d2] => { results := [.lit (.bool true)], args := [d1, d2] }
  | _ => none }
def pairBeginsRow : OpenClaim := { program := "ytemdmpgekegfhaa", sum := "9561c51c847b05a0893043b4e15c759d0be5100cbbf6f57991c0197bd728dd70", func := "assayer/assayerlaw03.PairBegins", spec := "pairBegins", unfollowed := true, recurses := true, plainKeys := false, apart := false }
def PairBeginsSaid : Prop := pairBeginsRow.holds Try.pinned (OpenSpec.ofChange pairBeginsSpec)

/-- ITS FALSE NEIGHBOUR: 'it returns false'. Refute it at one input. -/
def pairBeginsWrong : ChangeSpec := { name := "pairBegins", fn := fun _ => fun
  | [d1, d2] => { results := [.lit (.bool false)], args := [d1, d2] }
  | _ => none }
def PairBeginsWrongFalsely : Prop := pairBeginsRow.holds Try.pinned (OpenSpec.ofChange pairBeginsWrong)

/-- 'assayerlaw03.PairGone': WHATEVER THE INPUT: true; the input reads as it did. -/
def pairGoneSpec : ChangeSpec := { name := "pairGone", fn := fun _ => fun
  | [d] => { results := [.lit (.bool true)], args := [d] }
  | _ => none }
def pairGoneRow : OpenClaim := { program := "ytemdmpgekegfhaa", sum := "9561c51c847b05a0893043b4e15c759d0be5100cbbf6f57991c0197bd728dd70", func := "assayer/assayerlaw03.PairGone", spec := "pairGone", unfollowed := true, recurses := true, plainKeys := false, apart := false }
def PairGoneSaid : Prop := pairGoneRow.holds Try.pinned (OpenSpec.ofChange pairGoneSpec)

/-- ITS FALSE NEIGHBOUR: 'it returns false'. Refute it at one input. -/
def pairGoneWrong : ChangeSpec := { name := "pairGone", fn := fun _ => fun
  | [d] => { results := [.lit (.bool false)], args := [d] }
  | _ => none }
def PairGoneWrongFalsely : Prop := pairGoneRow.holds Try.pinned (OpenSpec.ofChange pairGoneWrong)

/-- 'assayerlaw14.DepsFinds': WHATEVER THE INPUT: true; the input reads as it did. -/
def depsFindsSpec : ChangeSpec := { name := "depsFinds", fn := fun _ => fun
  | [d1, d2, d3, d4] => { results := [.lit (.bool true)], args := [d1, d2, d3, d4] }
  | _ => none }
def depsFindsRow : OpenClaim := { program := "ytemdmpgekegfhaa", sum := "9561c51c847b05a0893043b4e15c759d0be5100cbbf6f57991c0197bd728dd70", func := "assayer/assayerlaw14.DepsFinds", spec := "depsFinds", inPlace := ["internal/reflectlite.ValueOf", "internal/reflectlite.Swapper", "(internal/reflectlite.Value).Len"], unfollowed := true, recurses := true, plainKeys := false, apart := false }
def DepsFindsSaid : Prop := depsFindsRow.holds Try.pinned (OpenSpec.ofChange depsFindsSpec)

/-- ITS FALSE NEIGHBOUR: 'it returns false'. Refute it at one input. -/
def depsFindsWrong : ChangeSpec := { name := "depsFinds", fn := fun _ => fun
  | [d1, d2, d3, d4] => { results := [.lit (.bool false)], args := [d1, d2, d3, d4] }
  | _ => none }
def DepsFindsWrongFalsely : Prop := depsFindsRow.holds Try.pinned (OpenSpec.ofChange depsFindsWrong)

/-- 'assayerlaw04.TableNobody': WHATEVER THE INPUT: true; the input reads as it did. -/
def tableNobodySpec : ChangeSpec := { name := "tableNobody", fn := fun _ => fun
  | [d1, d2] => { results := [.lit (.bool true)], args := [d1, d2] }
  | _ => none }
def tableNobodyRow : OpenClaim := { program := "ytemdmpgekegfhaa", sum := "9561c51c847b05a0893043b4e15c759d0be5100cbbf6f57991c0197bd728dd70", func := "assayer/assayerlaw04.TableNobody", spec := "tableNobody", unfollowed := true, recurses := true, plainKeys := false, apart := false }
def TableNobodySaid : Prop := tableNobodyRow.holds Try.pinned (OpenSpec.ofChange tableNobodySpec)

/-- ITS FALSE NEIGHBOUR: 'it returns false'. Refute it at one input. -/
def tableNobodyWrong : ChangeSpec := { name := "tableNobody", fn := fun _ => fun
  | [d1, d2] => { results := [.lit (.bool false)], args := [d1, d2] }
  | _ => none }
def TableNobodyWrongFalsely : Prop := tableNobodyRow.holds Try.pinned (OpenSpec.ofChange tableNobodyWrong)

/- THE SECOND FORM. 'bulk': how many values and letters a reading holds, each counted each time it is reached (what is shared counts as often as it is met; a slice's spare places count too). A statement '..UptoSaid' is the law's where the arguments, and the package variables that the reading takes, are together of bulk at most 1048576: NARROWER than '..Said'. Prove '..Said' where nothing that the law and all that it calls make is longer than what came in: it says more and counts as full. Else prove '..UptoSaid'. A law counts once. -/
mutual
def uptoBulk {H : Type} : DataW H → Nat
  | .lit (.string bytes) => bytes.length + 1
  | .lit _ => 1
  | .nil => 1
  | .ptr d => uptoBulk d + 1
  | .slice elems spare => uptoBulkAll elems + uptoBulkAll spare + 1
  | .agg parts => uptoBulkAll parts + 1
  | .iface _ d => uptoBulk d + 1
  | .map entries => uptoBulkEntries entries + 1
  | .held _ => 1
def uptoBulkAll {H : Type} : List (DataW H) → Nat
  | [] => 0
  | d :: r => uptoBulk d + uptoBulkAll r
def uptoBulkEntries {H : Type} : List (Lit × DataW H) → Nat
  | [] => 0
  | x :: r => uptoBulkEntry x + uptoBulkEntries r
def uptoBulkEntry {H : Type} : Lit × DataW H → Nat
  | (.string bytes, d) => bytes.length + uptoBulk d + 1
  | (_, d) => uptoBulk d + 1
 end
def uptoSmall : (H : Type) → List (DataW H) → Bool := fun _ ds => decide (uptoBulkAll ds ≤ 1048576)
def OpenSpec.upto (s : _root_.Go.ChangeSpec) : _root_.Go.OpenSpec := { _root_.Go.OpenSpec.ofChange s with cond := some uptoSmall }

/-- 'assayerlaw04.TableUnique', WHERE WHAT IT READS IS OF BULK AT MOST 1048576: true; the input reads as it did. -/
def tableUniqueUptoRow : OpenClaim := { program := "ytemdmpgekegfhaa", sum := "9561c51c847b05a0893043b4e15c759d0be5100cbbf6f57991c0197bd728dd70", func := "assayer/assayerlaw04.TableUnique", spec := "tableUnique", unfollowed := true, recurses := true, plainKeys := false, apart := false, narrowed := true }
def TableUniqueUptoSaid : Prop := tableUniqueUptoRow.holds Try.pinned (OpenSpec.upto tableUniqueSpec)

/-- 'assayerlaw04.TableFinals', WHERE WHAT IT READS IS OF BULK AT MOST 1048576: true; the input reads as it did. -/
def tableFinalsUptoRow : OpenClaim := { program := "ytemdmpgekegfhaa", sum := "9561c51c847b05a0893043b4e15c759d0be5100cbbf6f57991c0197bd728dd70", func := "assayer/assayerlaw04.TableFinals", spec := "tableFinals", unfollowed := true, recurses := true, plainKeys := false, apart := false, narrowed := true }
def TableFinalsUptoSaid : Prop := tableFinalsUptoRow.holds Try.pinned (OpenSpec.upto tableFinalsSpec)

/-- 'assayerlaw16.ModelFills', WHERE WHAT IT READS IS OF BULK AT MOST 1048576: true; the input reads as it did. -/
def modelFillsUptoRow : OpenClaim := { program := "ytemdmpgekegfhaa", sum := "9561c51c847b05a0893043b4e15c759d0be5100cbbf6f57991c0197bd728dd70", func := "assayer/assayerlaw16.ModelFills", spec := "modelFills", inPlace := ["maps.clone"], unfollowed := true, recurses := true, plainKeys := false, apart := false, narrowed := true }
def ModelFillsUptoSaid : Prop := modelFillsUptoRow.holds Try.pinned (OpenSpec.upto modelFillsSpec)

/-- 'assayerlaw04.TableWriters', WHERE WHAT IT READS IS OF BULK AT MOST 1048576: true; the input reads as it did. -/
def tableWritersUptoRow : OpenClaim := { program := "ytemdmpgekegfhaa", sum := "9561c51c847b05a0893043b4e15c759d0be5100cbbf6f57991c0197bd728dd70", func := "assayer/assayerlaw04.TableWriters", spec := "tableWriters", plainKeys := false, apart := false, narrowed := true }
def TableWritersUptoSaid : Prop := tableWritersUptoRow.holds Try.pinned (OpenSpec.upto tableWritersSpec)

/-- 'assayerlaw16.ModelReplays', WHERE WHAT IT READS IS OF BULK AT MOST 1048576: true; the input reads as it did. -/
def modelReplaysUptoRow : OpenClaim := { program := "ytemdmpgekegfhaa", sum := "9561c51c847b05a0893043b4e15c759d0be5100cbbf6f57991c0197bd728dd70", func := "assayer/assayerlaw16.ModelReplays", spec := "modelReplays", inPlace := ["maps.clone"], unfollowed := true, recurses := true, plainKeys := false, apart := false, narrowed := true }
def ModelReplaysUptoSaid : Prop := modelReplaysUptoRow.holds Try.pinned (OpenSpec.upto modelReplaysSpec)

/-- 'assayerlaw16.ModelLives', WHERE WHAT IT READS IS OF BULK AT MOST 1048576: true; the input reads as it did. -/
def modelLivesUptoRow : OpenClaim := { program := "ytemdmpgekegfhaa", sum := "9561c51c847b05a0893043b4e15c759d0be5100cbbf6f57991c0197bd728dd70", func := "assayer/assayerlaw16.ModelLives", spec := "modelLives", inPlace := ["maps.clone"], unfollowed := true, recurses := true, plainKeys := false, apart := false, narrowed := true }
def ModelLivesUptoSaid : Prop := modelLivesUptoRow.holds Try.pinned (OpenSpec.upto modelLivesSpec)

/-- 'assayerlaw17.SearchRight', WHERE WHAT IT READS IS OF BULK AT MOST 1048576: true; the input reads as it did. -/
def searchRightUptoRow : OpenClaim := { program := "ytemdmpgekegfhaa", sum := "9561c51c847b05a0893043b4e15c759d0be5100cbbf6f57991c0197bd728dd70", func := "assayer/assayerlaw17.SearchRight", spec := "searchRight", inPlace := ["maps.clone"], unfollowed := true, recurses := true, plainKeys := false, apart := false, narrowed := true }
def SearchRightUptoSaid : Prop := searchRightUptoRow.holds Try.pinned (OpenSpec.upto searchRightSpec)

/-- 'assayerlaw03.PairChecks', WHERE WHAT IT READS IS OF BULK AT MOST 1048576: true; the input reads as it did. -/
def pairChecksUptoRow : OpenClaim := { program := "ytemdmpgekegfhaa", sum := "9561c51c847b05a0893043b4e15c759d0be5100cbbf6f57991c0197bd728dd70", func := "assayer/assayerlaw03.PairChecks", spec := "pairChecks", unfollowed := true, recurses := true, plainKeys := false, apart := false, narrowed := true }
def PairChecksUptoSaid : Prop := pairChecksUptoRow.holds Try.pinned (OpenSpec.upto pairChecksSpec)

/-- 'assayerlaw03.PairBegins', WHERE WHAT IT READS IS OF BULK AT MOST 1048576: true; the input reads as it did. -/
def pairBeginsUptoRow : OpenClaim := { program := "ytemdmpgekegfhaa", sum := "9561c51c847b05a0893043b4e15c759d0be5100cbbf6f57991c0197bd728dd70", func := "assayer/assayerlaw03.PairBegins", spec := "pairBegins", unfollowed := true, recurses := true, plainKeys := false, apart := false, narrowed := true }
def PairBeginsUptoSaid : Prop := pairBeginsUptoRow.holds Try.pinned (OpenSpec.upto pairBeginsSpec)

/-- 'assayerlaw03.PairGone', WHERE WHAT IT READS IS OF BULK AT MOST 1048576: true; the input reads as it did. -/
def pairGoneUptoRow : OpenClaim := { program := "ytemdmpgekegfhaa", sum := "9561c51c847b05a0893043b4e15c759d0be5100cbbf6f57991c0197bd728dd70", func := "assayer/assayerlaw03.PairGone", spec := "pairGone", unfollowed := true, recurses := true, plainKeys := false, apart := false, narrowed := true }
def PairGoneUptoSaid : Prop := pairGoneUptoRow.holds Try.pinned (OpenSpec.upto pairGoneSpec)

/-- 'assayerlaw14.DepsFinds', WHERE WHAT IT READS IS OF BULK AT MOST 1048576: true; the input reads as it did. -/
def depsFindsUptoRow : OpenClaim := { program := "ytemdmpgekegfhaa", sum := "9561c51c847b05a0893043b4e15c759d0be5100cbbf6f57991c0197bd728dd70", func := "assayer/assayerlaw14.DepsFinds", spec := "depsFinds", inPlace := ["internal/reflectlite.ValueOf", "internal/reflectlite.Swapper", "(internal/reflectlite.Value).Len"], unfollowed := true, recurses := true, plainKeys := false, apart := false, narrowed := true }
def DepsFindsUptoSaid : Prop := depsFindsUptoRow.holds Try.pinned (OpenSpec.upto depsFindsSpec)

/-- 'assayerlaw04.TableNobody', WHERE WHAT IT READS IS OF BULK AT MOST 1048576: true; the input reads as it did. -/
def tableNobodyUptoRow : OpenClaim := { program := "ytemdmpgekegfhaa", sum := "9561c51c847b05a0893043b4e15c759d0be5100cbbf6f57991c0197bd728dd70", func := "assayer/assayerlaw04.TableNobody", spec := "tableNobody", unfollowed := true, recurses := true, plainKeys := false, apart := false, narrowed := true }
def TableNobodyUptoSaid : Prop := tableNobodyUptoRow.holds Try.pinned (OpenSpec.upto tableNobodySpec)

end Rows
end Go.Proofs.Ytemdmpgekegfhaa
