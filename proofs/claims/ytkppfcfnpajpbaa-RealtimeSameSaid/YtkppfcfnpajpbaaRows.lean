/-
  No cell of these rows narrows 'for every input' (looked for: loops, veiled, ifaces, maps, wideKeys, modest, calm, conditions, laid).
  DERIVED. THE GIVEN ROWS OF THIS SEAT. 5 by the template 'for every input the law returns true; each argument reads behind the call as it read before'; 0 by the template 'total and deterministic' (their statements: YtkppfcfnpajpbaaTotals.lean).
  GIVEN WITH THE SEED: the statements are not yours to turn. If you find one false, say at which input.
  Laid BY PROGRAM, IN A SANDBOX (cutbox-rows.mjs): the forced cells as the released guide's own fill.sh prints them over the translation eb376dbc7371c594… (all of the seat's roots in one cut). By AI agents, Wed Nov 11 2026. No macro, syntax, notation, axiom, sorry.
-/
import Derived.Test.YtkppfcfnpajpbaaChecked
import GoSem.Claim
import GoSem.ClaimJoined
import GoSem.ClaimMapViews
import Derived.JoinedTies
import Derived.KernelRfl
namespace Go.Proofs.Ytkppfcfnpajpbaa
/- THE CELL 'sum', in the pinned program and in every row, IS THE sha256 OF THE DUMP (.gsa) THAT YtkppfcfnpajpbaaProg.lean LOADS. Nothing in Lean hashes anything: it is a label: what it is worth is what the hold of that sum in a sandbox is worth. -/
noncomputable def Try.pinned : Pinned := { name := "ytkppfcfnpajpbaa", sum := "eb376dbc7371c594d4d6cfaab59885401d436b3006f293db8b30f4189fa77a1a", checked := Try.checked }
namespace Rows
def none {H : Type} : Left H := { results := [], args := [] }

/-- 'assayerlaw13.RealtimeGoes': WHATEVER THE INPUT: true; the input reads as it did. -/
def realtimeGoesSpec : ChangeSpec := { name := "realtimeGoes", fn := fun _ => fun
  | [d] => { results := [.lit (.bool true)], args := [d] }
  | _ => none }
def realtimeGoesRow : OpenClaim := { program := "ytkppfcfnpajpbaa", sum := "eb376dbc7371c594d4d6cfaab59885401d436b3006f293db8b30f4189fa77a1a", func := "assayer/assayerlaw13.RealtimeGoes", spec := "realtimeGoes", unfollowed := true, recurses := true, apart := false }
def RealtimeGoesSaid : Prop := realtimeGoesRow.holds Try.pinned (OpenSpec.ofChange realtimeGoesSpec)

/-- ITS FALSE NEIGHBOUR: 'it returns false'. Refute it at one input. -/
def realtimeGoesWrong : ChangeSpec := { name := "realtimeGoes", fn := fun _ => fun
  | [d] => { results := [.lit (.bool false)], args := [d] }
  | _ => none }
def RealtimeGoesWrongFalsely : Prop := realtimeGoesRow.holds Try.pinned (OpenSpec.ofChange realtimeGoesWrong)

/-- 'assayerlaw13.RealtimeChain': WHATEVER THE INPUT: true; the input reads as it did. -/
def realtimeChainSpec : ChangeSpec := { name := "realtimeChain", fn := fun _ => fun
  | [d] => { results := [.lit (.bool true)], args := [d] }
  | _ => none }
def realtimeChainRow : OpenClaim := { program := "ytkppfcfnpajpbaa", sum := "eb376dbc7371c594d4d6cfaab59885401d436b3006f293db8b30f4189fa77a1a", func := "assayer/assayerlaw13.RealtimeChain", spec := "realtimeChain", unfollowed := true, recurses := true, apart := false }
def RealtimeChainSaid : Prop := realtimeChainRow.holds Try.pinned (OpenSpec.ofChange realtimeChainSpec)

/-- ITS FALSE NEIGHBOUR: 'it returns false'. Refute it at one input. -/
def realtimeChainWrong : ChangeSpec := { name := "realtimeChain", fn := fun _ => fun
  | [d] => { results := [.lit (.bool false)], args := [d] }
  | _ => none }
def RealtimeChainWrongFalsely : Prop := realtimeChainRow.holds Try.pinned (OpenSpec.ofChange realtimeChainWrong)

/-- 'assayerlaw13.RealtimeApart': WHATEVER THE INPUT: true; the input reads as it did. -/
def realtimeApartSpec : ChangeSpec := { name := "realtimeApart", fn := fun _ => fun
  | [d] => { results := [.lit (.bool true)], args := [d] }
  | _ => none }
def realtimeApartRow : OpenClaim := { program := "ytkppfcfnpajpbaa", sum := "eb376dbc7371c594d4d6cfaab59885401d436b3006f293db8b30f4189fa77a1a", func := "assayer/assayerlaw13.RealtimeApart", spec := "realtimeApart", unfollowed := true, recurses := true, apart := false }
def RealtimeApartSaid : Prop := realtimeApartRow.holds Try.pinned (OpenSpec.ofChange realtimeApartSpec)

/-- ITS FALSE NEIGHBOUR: 'it returns false'. Refute it at one input. -/
def realtimeApartWrong : ChangeSpec := { name := "realtimeApart", fn := fun _ => fun
  | [d] => { results := [.lit (.bool false)], args := [d] }
  | _ => none }
def RealtimeApartWrongFalsely : Prop := realtimeApartRow.holds Try.pinned (OpenSpec.ofChange realtimeApartWrong)

/-- 'assayerlaw13.RealtimeTells': WHATEVER THE INPUT: true; the input reads as it did. -/
def realtimeTellsSpec : ChangeSpec := { name := "realtimeTells", fn := fun _ => fun
  | [d] => { results := [.lit (.bool true)], args := [d] }
  | _ => none }
def realtimeTellsRow : OpenClaim := { program := "ytkppfcfnpajpbaa", sum := "eb376dbc7371c594d4d6cfaab59885401d436b3006f293db8b30f4189fa77a1a", func := "assayer/assayerlaw13.RealtimeTells", spec := "realtimeTells", unfollowed := true, recurses := true, apart := false }
def RealtimeTellsSaid : Prop := realtimeTellsRow.holds Try.pinned (OpenSpec.ofChange realtimeTellsSpec)

/-- ITS FALSE NEIGHBOUR: 'it returns false'. Refute it at one input. -/
def realtimeTellsWrong : ChangeSpec := { name := "realtimeTells", fn := fun _ => fun
  | [d] => { results := [.lit (.bool false)], args := [d] }
  | _ => none }
def RealtimeTellsWrongFalsely : Prop := realtimeTellsRow.holds Try.pinned (OpenSpec.ofChange realtimeTellsWrong)

/-- 'assayerlaw13.RealtimeSame': WHATEVER THE INPUT: true; the input reads as it did. -/
def realtimeSameSpec : ChangeSpec := { name := "realtimeSame", fn := fun _ => fun
  | [d] => { results := [.lit (.bool true)], args := [d] }
  | _ => none }
def realtimeSameRow : OpenClaim := { program := "ytkppfcfnpajpbaa", sum := "eb376dbc7371c594d4d6cfaab59885401d436b3006f293db8b30f4189fa77a1a", func := "assayer/assayerlaw13.RealtimeSame", spec := "realtimeSame", unfollowed := true, recurses := true, apart := false }
def RealtimeSameSaid : Prop := realtimeSameRow.holds Try.pinned (OpenSpec.ofChange realtimeSameSpec)

/-- ITS FALSE NEIGHBOUR: 'it returns false'. Refute it at one input. -/
def realtimeSameWrong : ChangeSpec := { name := "realtimeSame", fn := fun _ => fun
  | [d] => { results := [.lit (.bool false)], args := [d] }
  | _ => none }
def RealtimeSameWrongFalsely : Prop := realtimeSameRow.holds Try.pinned (OpenSpec.ofChange realtimeSameWrong)

/- THE SECOND FORM. 'bulk': how many values and letters a reading holds, each counted each time it is reached (what is shared counts as often as it is met; a slice's spare places count too). A statement '..UptoSaid' is the law's where the arguments, and the package variables that the reading takes, are together of bulk at most 1048576: NARROWER than '..Said'. Prove '..Said' where nothing that the law and all that it calls make is longer than what came in: it says more and counts as full. Else prove '..UptoSaid'. A law counts once. -/
mutual
def uptoBulk {H : Type} : DataW H → Nat
  | .lit (.string bytes) => bytes.length + 1
  | .lit _ => 1
  | .nil => 1
  | .ptr d => uptoBulk d + 1
  | .slice elems spare => uptoBulkAll elems + uptoBulkAll spare + 1
  | .agg parts => uptoBulkAll parts + 1
  | .iface _ d => uptoBulk d + 1
  | .map entries => uptoBulkEntries entries + 1
  | .held _ => 1
def uptoBulkAll {H : Type} : List (DataW H) → Nat
  | [] => 0
  | d :: r => uptoBulk d + uptoBulkAll r
def uptoBulkEntries {H : Type} : List (Lit × DataW H) → Nat
  | [] => 0
  | x :: r => uptoBulkEntry x + uptoBulkEntries r
def uptoBulkEntry {H : Type} : Lit × DataW H → Nat
  | (.string bytes, d) => bytes.length + uptoBulk d + 1
  | (_, d) => uptoBulk d + 1
 end
def uptoSmall : (H : Type) → List (DataW H) → Bool := fun _ ds => decide (uptoBulkAll ds ≤ 1048576)
def OpenSpec.upto (s : _root_.Go.ChangeSpec) : _root_.Go.OpenSpec := { _root_.Go.OpenSpec.ofChange s with cond := some uptoSmall }

/-- 'assayerlaw13.RealtimeGoes', WHERE WHAT IT READS IS OF BULK AT MOST 1048576: true; the input reads as it did. -/
def realtimeGoesUptoRow : OpenClaim := { program := "ytkppfcfnpajpbaa", sum := "eb376dbc7371c594d4d6cfaab59885401d436b3006f293db8b30f4189fa77a1a", func := "assayer/assayerlaw13.RealtimeGoes", spec := "realtimeGoes", unfollowed := true, recurses := true, apart := false, narrowed := true }
def RealtimeGoesUptoSaid : Prop := realtimeGoesUptoRow.holds Try.pinned (OpenSpec.upto realtimeGoesSpec)

/-- 'assayerlaw13.RealtimeChain', WHERE WHAT IT READS IS OF BULK AT MOST 1048576: true; the input reads as it did. -/
def realtimeChainUptoRow : OpenClaim := { program := "ytkppfcfnpajpbaa", sum := "eb376dbc7371c594d4d6cfaab59885401d436b3006f293db8b30f4189fa77a1a", func := "assayer/assayerlaw13.RealtimeChain", spec := "realtimeChain", unfollowed := true, recurses := true, apart := false, narrowed := true }
def RealtimeChainUptoSaid : Prop := realtimeChainUptoRow.holds Try.pinned (OpenSpec.upto realtimeChainSpec)

/-- 'assayerlaw13.RealtimeApart', WHERE WHAT IT READS IS OF BULK AT MOST 1048576: true; the input reads as it did. -/
def realtimeApartUptoRow : OpenClaim := { program := "ytkppfcfnpajpbaa", sum := "eb376dbc7371c594d4d6cfaab59885401d436b3006f293db8b30f4189fa77a1a", func := "assayer/assayerlaw13.RealtimeApart", spec := "realtimeApart", unfollowed := true, recurses := true, apart := false, narrowed := true }
def RealtimeApartUptoSaid : Prop := realtimeApartUptoRow.holds Try.pinned (OpenSpec.upto realtimeApartSpec)

/-- 'assayerlaw13.RealtimeTells', WHERE WHAT IT READS IS OF BULK AT MOST 1048576: true; the input reads as it did. -/
def realtimeTellsUptoRow : OpenClaim := { program := "ytkppfcfnpajpbaa", sum := "eb376dbc7371c594d4d6cfaab59885401d436b3006f293db8b30f4189fa77a1a", func := "assayer/assayerlaw13.RealtimeTells", spec := "realtimeTells", unfollowed := true, recurses := true, apart := false, narrowed := true }
def RealtimeTellsUptoSaid : Prop := realtimeTellsUptoRow.holds Try.pinned (OpenSpec.upto realtimeTellsSpec)

/-- 'assayerlaw13.RealtimeSame', WHERE WHAT IT READS IS OF BULK AT MOST 1048576: true; the input reads as it did. -/
def realtimeSameUptoRow : OpenClaim := { program := "ytkppfcfnpajpbaa", sum := "eb376dbc7371c594d4d6cfaab59885401d436b3006f293db8b30f4189fa77a1a", func := "assayer/assayerlaw13.RealtimeSame", spec := "realtimeSame", unfollowed := true, recurses := true, apart := false, narrowed := true }
def RealtimeSameUptoSaid : Prop := realtimeSameUptoRow.holds Try.pinned (OpenSpec.upto realtimeSameSpec)

end Rows
end Go.Proofs.Ytkppfcfnpajpbaa
