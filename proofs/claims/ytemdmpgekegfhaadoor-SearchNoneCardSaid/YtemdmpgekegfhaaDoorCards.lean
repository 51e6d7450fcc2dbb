/-
  DERIVED. GIVEN WITH THE SEED: THE CARDS: each row of YtemdmpgekegfhaaDoorRows.lean that lists a variable, with what it lists TIED to the program's text (the seventh form; the later family's looks); each row that meets fmt, with fmt's text TOLD by the authors' own Lean function (tested against real Go, not proved from fmt's source: count such statements apart). THE CARD IS WHAT COUNTS. Prove the row's statement (the work); the ties are given (YtemdmpgekegfhaaDoorTie.lean); close each card by the builder's one call (the guide's Derived/Test/ToyasCard.lean, 'card_holds'). Laid BY PROGRAM, IN A SANDBOX (cutbox-door.mjs). By AI agents, Wed Nov 11 2026. No macro, syntax, notation, axiom, sorry.
-/
import Derived.Test.YtemdmpgekegfhaaDoorRows
import GoSem.ClaimSeven
namespace Go.Proofs.YtemdmpgekegfhaaDoor
namespace Rows

/-- THE TIED CARD OF 'assayerlaw07.CompsLeads'. -/
def compsLeadsCard : Claim7 := { stood := { row := compsLeadsRow, standIns := [], harness := (true, "d41f105f3f6a30c32f41c8ba4673047854c54a259f34cb5f45321541eb17f008"), looks := true }, kinds := [], alts := [], laidByText := true, laidKinds := [.data], laidTests := true, laidLooks := .later }
def CompsLeadsCardSaid : Prop := Claim7.holds Tryd.pinned (.plain (OpenSpec.ofChange compsLeadsSpec)) compsLeadsCard

/-- THE TIED CARD OF 'assayerlaw07.CompsOrders'. -/
def compsOrdersCard : Claim7 := { stood := { row := compsOrdersRow, standIns := [], harness := (true, "d41f105f3f6a30c32f41c8ba4673047854c54a259f34cb5f45321541eb17f008"), looks := true }, kinds := [], alts := [], laidByText := true, laidKinds := [.data], laidTests := true, laidLooks := .later }
def CompsOrdersCardSaid : Prop := Claim7.holds Tryd.pinned (.plain (OpenSpec.ofChange compsOrdersSpec)) compsOrdersCard

/-- THE TIED CARD OF 'assayerlaw14.DepsGraph'. -/
def depsGraphCard : Claim7 := { stood := { row := depsGraphRow, standIns := [], harness := (true, "d41f105f3f6a30c32f41c8ba4673047854c54a259f34cb5f45321541eb17f008"), looks := true }, kinds := [], alts := [], laidByText := true, laidKinds := [.data], laidTests := true, laidLooks := .later }
def DepsGraphCardSaid : Prop := Claim7.holds Tryd.pinned (.plain (OpenSpec.ofChange depsGraphSpec)) depsGraphCard

/-- THE TIED CARD OF 'assayerlaw03.PairTells'. -/
def pairTellsCard : Claim7 := { stood := { row := pairTellsRow, standIns := [], harness := (true, "d41f105f3f6a30c32f41c8ba4673047854c54a259f34cb5f45321541eb17f008"), looks := true }, kinds := [], alts := [], laidByText := true, laidKinds := [.handle], laidTests := true, laidLooks := .later }
def PairTellsCardSaid : Prop := Claim7.holds Tryd.pinned (.plain (OpenSpec.ofChange pairTellsSpec)) pairTellsCard

/-- THE TIED CARD OF 'assayerlaw03.PairOne'. -/
def pairOneCard : Claim7 := { stood := { row := pairOneRow, standIns := [], harness := (true, "d41f105f3f6a30c32f41c8ba4673047854c54a259f34cb5f45321541eb17f008"), looks := true }, kinds := [], alts := [], laidByText := true, laidKinds := [.handle], laidTests := true, laidLooks := .later }
def PairOneCardSaid : Prop := Claim7.holds Tryd.pinned (.plain (OpenSpec.ofChange pairOneSpec)) pairOneCard

/-- THE TIED CARD OF 'assayerlaw03.PairApart'. -/
def pairApartCard : Claim7 := { stood := { row := pairApartRow, standIns := [], harness := (true, "d41f105f3f6a30c32f41c8ba4673047854c54a259f34cb5f45321541eb17f008"), looks := true }, kinds := [], alts := [], laidByText := true, laidKinds := [.handle], laidTests := true, laidLooks := .later }
def PairApartCardSaid : Prop := Claim7.holds Tryd.pinned (.plain (OpenSpec.ofChange pairApartSpec)) pairApartCard

/-- THE TIED CARD OF 'assayerlaw16.ModelTexts'. -/
def modelTextsCard : Claim7 := { stood := { row := modelTextsRow, standIns := [], harness := (true, "d41f105f3f6a30c32f41c8ba4673047854c54a259f34cb5f45321541eb17f008"), looks := true }, kinds := [], alts := [], laidByText := true, laidKinds := [.data, .data, .data], laidTests := true, laidLooks := .later }
def ModelTextsCardSaid : Prop := Claim7.holds Tryd.pinned (.plain (OpenSpec.ofChange modelTextsSpec)) modelTextsCard

/-- THE TIED CARD OF 'assayerlaw16.ModelJoins'. -/
def modelJoinsCard : Claim7 := { stood := { row := modelJoinsRow, standIns := [], harness := (true, "d41f105f3f6a30c32f41c8ba4673047854c54a259f34cb5f45321541eb17f008"), looks := true }, kinds := [], alts := [], laidByText := true, laidKinds := [.data, .data, .data], laidTests := true, laidLooks := .later }
def ModelJoinsCardSaid : Prop := Claim7.holds Tryd.pinned (.plain (OpenSpec.ofChange modelJoinsSpec)) modelJoinsCard

/-- THE TIED CARD OF 'assayerlaw16.ModelNobody'. -/
def modelNobodyCard : Claim7 := { stood := { row := modelNobodyRow, standIns := [], harness := (true, "d41f105f3f6a30c32f41c8ba4673047854c54a259f34cb5f45321541eb17f008"), looks := true }, kinds := [], alts := [], laidByText := true, laidKinds := [.data, .data, .data], laidTests := true, laidLooks := .later }
def ModelNobodyCardSaid : Prop := Claim7.holds Tryd.pinned (.plain (OpenSpec.ofChange modelNobodySpec)) modelNobodyCard

/-- THE TIED CARD OF 'assayerlaw17.SearchWhole'. -/
def searchWholeCard : Claim7 := { stood := { row := searchWholeRow, standIns := [], harness := (true, "d41f105f3f6a30c32f41c8ba4673047854c54a259f34cb5f45321541eb17f008"), looks := true }, kinds := [], alts := [], laidByText := true, laidKinds := [.data, .data, .data], laidTests := true, laidLooks := .later }
def SearchWholeCardSaid : Prop := Claim7.holds Tryd.pinned (.plain (OpenSpec.ofChange searchWholeSpec)) searchWholeCard

/-- THE TIED CARD OF 'assayerlaw17.SearchMore'. -/
def searchMoreCard : Claim7 := { stood := { row := searchMoreRow, standIns := [], harness := (true, "d41f105f3f6a30c32f41c8ba4673047854c54a259f34cb5f45321541eb17f008"), looks := true }, kinds := [], alts := [], laidByText := true, laidKinds := [.data, .data, .data], laidTests := true, laidLooks := .later }
def SearchMoreCardSaid : Prop := Claim7.holds Tryd.pinned (.plain (OpenSpec.ofChange searchMoreSpec)) searchMoreCard

/-- THE TIED CARD OF 'assayerlaw17.SearchNone'. -/
def searchNoneCard : Claim7 := { stood := { row := searchNoneRow, standIns := [], harness := (true, "d41f105f3f6a30c32f41c8ba4673047854c54a259f34cb5f45321541eb17f008"), looks := true }, kinds := [], alts := [], laidByText := true, laidKinds := [.data, .data, .data], laidTests := true, laidLooks := .later }
def SearchNoneCardSaid : Prop := Claim7.holds Tryd.pinned (.plain (OpenSpec.ofChange searchNoneSpec)) searchNoneCard

/-- THE TIED CARD OF 'assayerlaw17.SearchYes'. -/
def searchYesCard : Claim7 := { stood := { row := searchYesRow, standIns := [], harness := (true, "d41f105f3f6a30c32f41c8ba4673047854c54a259f34cb5f45321541eb17f008"), looks := true }, kinds := [], alts := [], laidByText := true, laidKinds := [.data, .data, .data], laidTests := true, laidLooks := .later }
def SearchYesCardSaid : Prop := Claim7.holds Tryd.pinned (.plain (OpenSpec.ofChange searchYesSpec)) searchYesCard

/-- THE TIED CARD OF 'assayerlaw17.SearchServed'. -/
def searchServedCard : Claim7 := { stood := { row := searchServedRow, standIns := [], harness := (true, "d41f105f3f6a30c32f41c8ba4673047854c54a259f34cb5f45321541eb17f008"), looks := true }, kinds := [], alts := [], laidByText := true, laidKinds := [.data, .data, .data], laidTests := true, laidLooks := .later }
def SearchServedCardSaid : Prop := Claim7.holds Tryd.pinned (.plain (OpenSpec.ofChange searchServedSpec)) searchServedCard

/-- THE TIED CARD OF 'assayerlaw17.SearchTurned'. -/
def searchTurnedCard : Claim7 := { stood := { row := searchTurnedRow, standIns := [], harness := (true, "d41f105f3f6a30c32f41c8ba4673047854c54a259f34cb5f45321541eb17f008"), looks := true }, kinds := [], alts := [], laidByText := true, laidKinds := [.data, .data, .data], laidTests := true, laidLooks := .later }
def SearchTurnedCardSaid : Prop := Claim7.holds Tryd.pinned (.plain (OpenSpec.ofChange searchTurnedSpec)) searchTurnedCard

/-- THE SECOND FORM's CARD OF 'assayerlaw07.CompsLeads'. -/
def compsLeadsUptoCard : Claim7 := { stood := { row := compsLeadsUptoRow, standIns := [], harness := (true, "d41f105f3f6a30c32f41c8ba4673047854c54a259f34cb5f45321541eb17f008"), looks := true }, kinds := [], alts := [], laidByText := true, laidKinds := [.data], laidTests := true, laidLooks := .later }
def CompsLeadsUptoCardSaid : Prop := Claim7.holds Tryd.pinned (.plain (OpenSpec.upto compsLeadsSpec)) compsLeadsUptoCard

/-- THE SECOND FORM's CARD OF 'assayerlaw07.CompsOrders'. -/
def compsOrdersUptoCard : Claim7 := { stood := { row := compsOrdersUptoRow, standIns := [], harness := (true, "d41f105f3f6a30c32f41c8ba4673047854c54a259f34cb5f45321541eb17f008"), looks := true }, kinds := [], alts := [], laidByText := true, laidKinds := [.data], laidTests := true, laidLooks := .later }
def CompsOrdersUptoCardSaid : Prop := Claim7.holds Tryd.pinned (.plain (OpenSpec.upto compsOrdersSpec)) compsOrdersUptoCard

/-- THE SECOND FORM's CARD OF 'assayerlaw14.DepsGraph'. -/
def depsGraphUptoCard : Claim7 := { stood := { row := depsGraphUptoRow, standIns := [], harness := (true, "d41f105f3f6a30c32f41c8ba4673047854c54a259f34cb5f45321541eb17f008"), looks := true }, kinds := [], alts := [], laidByText := true, laidKinds := [.data], laidTests := true, laidLooks := .later }
def DepsGraphUptoCardSaid : Prop := Claim7.holds Tryd.pinned (.plain (OpenSpec.upto depsGraphSpec)) depsGraphUptoCard

/-- THE SECOND FORM's CARD OF 'assayerlaw03.PairTells'. -/
def pairTellsUptoCard : Claim7 := { stood := { row := pairTellsUptoRow, standIns := [], harness := (true, "d41f105f3f6a30c32f41c8ba4673047854c54a259f34cb5f45321541eb17f008"), looks := true }, kinds := [], alts := [], laidByText := true, laidKinds := [.handle], laidTests := true, laidLooks := .later }
def PairTellsUptoCardSaid : Prop := Claim7.holds Tryd.pinned (.plain (OpenSpec.upto pairTellsSpec)) pairTellsUptoCard

/-- THE SECOND FORM's CARD OF 'assayerlaw03.PairOne'. -/
def pairOneUptoCard : Claim7 := { stood := { row := pairOneUptoRow, standIns := [], harness := (true, "d41f105f3f6a30c32f41c8ba4673047854c54a259f34cb5f45321541eb17f008"), looks := true }, kinds := [], alts := [], laidByText := true, laidKinds := [.handle], laidTests := true, laidLooks := .later }
def PairOneUptoCardSaid : Prop := Claim7.holds Tryd.pinned (.plain (OpenSpec.upto pairOneSpec)) pairOneUptoCard

/-- THE SECOND FORM's CARD OF 'assayerlaw03.PairApart'. -/
def pairApartUptoCard : Claim7 := { stood := { row := pairApartUptoRow, standIns := [], harness := (true, "d41f105f3f6a30c32f41c8ba4673047854c54a259f34cb5f45321541eb17f008"), looks := true }, kinds := [], alts := [], laidByText := true, laidKinds := [.handle], laidTests := true, laidLooks := .later }
def PairApartUptoCardSaid : Prop := Claim7.holds Tryd.pinned (.plain (OpenSpec.upto pairApartSpec)) pairApartUptoCard

/-- THE SECOND FORM's CARD OF 'assayerlaw16.ModelTexts'. -/
def modelTextsUptoCard : Claim7 := { stood := { row := modelTextsUptoRow, standIns := [], harness := (true, "d41f105f3f6a30c32f41c8ba4673047854c54a259f34cb5f45321541eb17f008"), looks := true }, kinds := [], alts := [], laidByText := true, laidKinds := [.data, .data, .data], laidTests := true, laidLooks := .later }
def ModelTextsUptoCardSaid : Prop := Claim7.holds Tryd.pinned (.plain (OpenSpec.upto modelTextsSpec)) modelTextsUptoCard

/-- THE SECOND FORM's CARD OF 'assayerlaw16.ModelJoins'. -/
def modelJoinsUptoCard : Claim7 := { stood := { row := modelJoinsUptoRow, standIns := [], harness := (true, "d41f105f3f6a30c32f41c8ba4673047854c54a259f34cb5f45321541eb17f008"), looks := true }, kinds := [], alts := [], laidByText := true, laidKinds := [.data, .data, .data], laidTests := true, laidLooks := .later }
def ModelJoinsUptoCardSaid : Prop := Claim7.holds Tryd.pinned (.plain (OpenSpec.upto modelJoinsSpec)) modelJoinsUptoCard

/-- THE SECOND FORM's CARD OF 'assayerlaw16.ModelNobody'. -/
def modelNobodyUptoCard : Claim7 := { stood := { row := modelNobodyUptoRow, standIns := [], harness := (true, "d41f105f3f6a30c32f41c8ba4673047854c54a259f34cb5f45321541eb17f008"), looks := true }, kinds := [], alts := [], laidByText := true, laidKinds := [.data, .data, .data], laidTests := true, laidLooks := .later }
def ModelNobodyUptoCardSaid : Prop := Claim7.holds Tryd.pinned (.plain (OpenSpec.upto modelNobodySpec)) modelNobodyUptoCard

/-- THE SECOND FORM's CARD OF 'assayerlaw17.SearchWhole'. -/
def searchWholeUptoCard : Claim7 := { stood := { row := searchWholeUptoRow, standIns := [], harness := (true, "d41f105f3f6a30c32f41c8ba4673047854c54a259f34cb5f45321541eb17f008"), looks := true }, kinds := [], alts := [], laidByText := true, laidKinds := [.data, .data, .data], laidTests := true, laidLooks := .later }
def SearchWholeUptoCardSaid : Prop := Claim7.holds Tryd.pinned (.plain (OpenSpec.upto searchWholeSpec)) searchWholeUptoCard

/-- THE SECOND FORM's CARD OF 'assayerlaw17.SearchMore'. -/
def searchMoreUptoCard : Claim7 := { stood := { row := searchMoreUptoRow, standIns := [], harness := (true, "d41f105f3f6a30c32f41c8ba4673047854c54a259f34cb5f45321541eb17f008"), looks := true }, kinds := [], alts := [], laidByText := true, laidKinds := [.data, .data, .data], laidTests := true, laidLooks := .later }
def SearchMoreUptoCardSaid : Prop := Claim7.holds Tryd.pinned (.plain (OpenSpec.upto searchMoreSpec)) searchMoreUptoCard

/-- THE SECOND FORM's CARD OF 'assayerlaw17.SearchNone'. -/
def searchNoneUptoCard : Claim7 := { stood := { row := searchNoneUptoRow, standIns := [], harness := (true, "d41f105f3f6a30c32f41c8ba4673047854c54a259f34cb5f45321541eb17f008"), looks := true }, kinds := [], alts := [], laidByText := true, laidKinds := [.data, .data, .data], laidTests := true, laidLooks := .later }
def SearchNoneUptoCardSaid : Prop := Claim7.holds Tryd.pinned (.plain (OpenSpec.upto searchNoneSpec)) searchNoneUptoCard

/-- THE SECOND FORM's CARD OF 'assayerlaw17.SearchYes'. -/
def searchYesUptoCard : Claim7 := { stood := { row := searchYesUptoRow, standIns := [], harness := (true, "d41f105f3f6a30c32f41c8ba4673047854c54a259f34cb5f45321541eb17f008"), looks := true }, kinds := [], alts := [], laidByText := true, laidKinds := [.data, .data, .data], laidTests := true, laidLooks := .later }
def SearchYesUptoCardSaid : Prop := Claim7.holds Tryd.pinned (.plain (OpenSpec.upto searchYesSpec)) searchYesUptoCard

/-- THE SECOND FORM's CARD OF 'assayerlaw17.SearchServed'. -/
def searchServedUptoCard : Claim7 := { stood := { row := searchServedUptoRow, standIns := [], harness := (true, "d41f105f3f6a30c32f41c8ba4673047854c54a259f34cb5f45321541eb17f008"), looks := true }, kinds := [], alts := [], laidByText := true, laidKinds := [.data, .data, .data], laidTests := true, laidLooks := .later }
def SearchServedUptoCardSaid : Prop := Claim7.holds Tryd.pinned (.plain (OpenSpec.upto searchServedSpec)) searchServedUptoCard

/-- THE SECOND FORM's CARD OF 'assayerlaw17.SearchTurned'. -/
def searchTurnedUptoCard : Claim7 := { stood := { row := searchTurnedUptoRow, standIns := [], harness := (true, "d41f105f3f6a30c32f41c8ba4673047854c54a259f34cb5f45321541eb17f008"), looks := true }, kinds := [], alts := [], laidByText := true, laidKinds := [.data, .data, .data], laidTests := true, laidLooks := .later }
def SearchTurnedUptoCardSaid : Prop := Claim7.holds Tryd.pinned (.plain (OpenSpec.upto searchTurnedSpec)) searchTurnedUptoCard
end Rows
end Go.Proofs.YtemdmpgekegfhaaDoor
