/-
  DERIVED. GIVEN WITH THE SEED: THE CARDS: each row of YtkpefjhmmemnjaaDoorRows.lean that lists a variable, with what it lists TIED to the program's text (the seventh form; the later family's looks); each row that meets fmt, with fmt's text TOLD by the authors' own Lean function (tested against real Go, not proved from fmt's source: count such statements apart). THE CARD IS WHAT COUNTS. Prove the row's statement (the work); the ties are given (YtkpefjhmmemnjaaDoorTie.lean); close each card by the builder's one call (the guide's Derived/Test/ToyasCard.lean, 'card_holds'). Laid BY PROGRAM, IN A SANDBOX (cutbox-door.mjs). By AI agents, Wed Nov 11 2026. No macro, syntax, notation, axiom, sorry.
-/
import Derived.Test.YtkpefjhmmemnjaaDoorRows
import GoSem.ClaimSeven
namespace Go.Proofs.YtkpefjhmmemnjaaDoor
namespace Rows

/-- THE TIED CARD OF 'assayerlaw07.CompsNobody'. -/
def compsNobodyCard : Claim7 := { stood := { row := compsNobodyRow, standIns := [], harness := (true, "e2a7dc7cc65906c1d86027e99e2af476d60c0cc2e29ce80c8c0a1a1a552551b4"), looks := false }, kinds := [], alts := [], laidByText := true, laidKinds := [.data], laidTests := true, laidLooks := .later }
def CompsNobodyCardSaid : Prop := Claim7.holds Tryd.pinned (.plain (OpenSpec.ofChange compsNobodySpec)) compsNobodyCard

/-- THE SECOND FORM's CARD OF 'assayerlaw07.CompsNobody'. -/
def compsNobodyUptoCard : Claim7 := { stood := { row := compsNobodyUptoRow, standIns := [], harness := (true, "e2a7dc7cc65906c1d86027e99e2af476d60c0cc2e29ce80c8c0a1a1a552551b4"), looks := false }, kinds := [], alts := [], laidByText := true, laidKinds := [.data], laidTests := true, laidLooks := .later }
def CompsNobodyUptoCardSaid : Prop := Claim7.holds Tryd.pinned (.plain (OpenSpec.upto compsNobodySpec)) compsNobodyUptoCard
end Rows
end Go.Proofs.YtkpefjhmmemnjaaDoor
