/- ModelTexts: the row's closed facts, one by one. -/
import Derived.Test.YtemdmpgekegfhaaDoorRows
import Derived.JoinedOf
import Derived.RowKitTokens
import Derived.ProofKit
namespace Go.Proofs.YtemdmpgekegfhaaDoor.modelTexts
open Go.RowKit
set_option linter.all false
set_option maxRecDepth 10000
theorem j0 : (Rows.modelTextsUptoRow.wf (OpenSpec.ofChange Rows.modelTextsSpec)) = true := by kernel_rfl
theorem j1 : (laidOutB Tryd.prog) = true := by kernel_rfl
theorem j2 : (mapsRowed Tryd.prog) = true := by kernel_rfl
theorem j3 : (Tryd.f9.params.all (Tryd.prog.readableRec ·)) = true := by kernel_rfl
theorem j4 : (namedTie Tryd.prog Rows.modelTextsUptoRow.named Rows.modelTextsSpec.vars) = true := by kernel_rfl
theorem j5 : ((Rows.modelTextsUptoRow.stops == [])) = true := by kernel_rfl
theorem j6 : ((Tryd.prog.stops == [])) = true := by kernel_rfl
theorem j7 : ((Rows.modelTextsUptoRow.knobs == [])) = true := by kernel_rfl
theorem j8 : ((Tryd.prog.stopKnobs == [])) = true := by kernel_rfl
theorem j9 : ((Rows.modelTextsUptoRow.inPlace == Tryd.prog.inPlace 9)) = true := by kernel_rfl
theorem j10 : ((Rows.modelTextsUptoRow.unfollowed == Tryd.prog.unfollowed 9)) = true := by kernel_rfl
theorem j11 : ((Rows.modelTextsUptoRow.recurses == Tryd.prog.recurses 9)) = true := by kernel_rfl
theorem j12 : ((Rows.modelTextsUptoRow.named == Tryd.prog.varsNamed 9)) = true := by kernel_rfl
theorem j13 : ((Rows.modelTextsUptoRow.maps == (Tryd.f9.params.toList ++ Rows.modelTextsSpec.plain.varTypes Tryd.prog).any (Tryd.prog.mapsRec ·))) = true := by kernel_rfl
theorem j14 : ((Rows.modelTextsUptoRow.ifaces == (Tryd.f9.params.toList ++ Rows.modelTextsSpec.plain.varTypes Tryd.prog).any (Tryd.prog.ifacesRec ·))) = true := by kernel_rfl
theorem j15 : ((Rows.modelTextsUptoRow.mapsOut == Tryd.prog.mapsAmong Tryd.f9.resultTypes.toList)) = true := by kernel_rfl
theorem j16 : ((Rows.modelTextsUptoRow.loops == (Tryd.f9.params.toList ++ Rows.modelTextsSpec.plain.varTypes Tryd.prog).any (Tryd.prog.loopsFrom ·))) = true := by kernel_rfl
theorem j17 : ((Rows.modelTextsUptoRow.wideKeys == (Tryd.f9.params.toList ++ Rows.modelTextsSpec.plain.varTypes Tryd.prog ++ Tryd.f9.resultTypes.toList).any (Tryd.prog.wideKeysFrom ·))) = true := by kernel_rfl
theorem j18 : (Rows.modelTextsSpec.vars.all (Tryd.prog.varReadable ·)) = true := by kernel_rfl
theorem j19 : (Tryd.f9.resultTypes.all (fun t => Tryd.prog.readableRec t && decide (t < Tryd.prog.types.size))) = true := by kernel_rfl
theorem j20 : ((Rows.modelTextsUptoRow.ifacesOut == Tryd.f9.resultTypes.toList.any (Tryd.prog.ifacesRec ·))) = true := by kernel_rfl
theorem j21 : ((Rows.modelTextsUptoRow.loopsOut == Tryd.f9.resultTypes.toList.any (Tryd.prog.loopsFrom ·))) = true := by kernel_rfl
theorem j22 : ((Rows.modelTextsUptoRow.plainKeys == Tryd.prog.plainKeys)) = true := by kernel_rfl
theorem j23 : (Rows.modelTextsUptoRow.shortTexts.isNone) = true := by kernel_rfl
theorem j24 : (Tryd.prog.stopsHeard) = true := by kernel_rfl
theorem j25 : (Tryd.prog.mayEnter) = true := by kernel_rfl
theorem j26 : ((Rows.modelTextsUptoRow.lifted == Tryd.prog.liftsFinal)) = true := by kernel_rfl
theorem j27 : ((Tryd.prog.make == some Rows.modelTextsUptoRow.make)) = true := by kernel_rfl
theorem j28 : ((Rows.modelTextsUptoRow.kinds == (if Rows.modelTextsUptoRow.domain.isEmpty then [] else Tryd.f9.params.toList.map fun t => match Tryd.prog.underlying t with | some (.int k) => some k | _ => none))) = true := by kernel_rfl
theorem j29 : ((Rows.modelTextsUptoRow.pinned == Rows.modelTextsUptoRow.pinnedBy)) = true := by kernel_rfl
theorem j30 : ((Rows.modelTextsUptoRow.veiled == (Tryd.f9.params.toList ++ Rows.modelTextsSpec.plain.varTypes Tryd.prog ++ Tryd.f9.resultTypes.toList).any (Tryd.prog.veiledRec ·))) = true := by kernel_rfl
theorem j31 : (Rows.modelTextsUptoRow.veiledFits Tryd.prog Tryd.f9.params.toList (Tryd.f9.params.toList ++ Rows.modelTextsSpec.plain.varTypes Tryd.prog ++ Tryd.f9.resultTypes.toList)) = true := by kernel_rfl
theorem andI {a b : Bool} (h : a = true) (k : b = true) : (a && b) = true := by rw [h, k]; rfl
theorem closed : joinedFacts Tryd.prog 9 Tryd.f9 Rows.modelTextsSpec Rows.modelTextsUptoRow = true := by
  unfold joinedFacts
  exact (andI (andI (andI (andI (andI (andI (andI (andI (andI (andI (andI (andI (andI (andI (andI (andI (andI (andI (andI (andI (andI (andI (andI (andI (andI (andI (andI (andI (andI (andI (andI j0 j1) j2) j3) j4) j5) j6) j7) j8) j9) j10) j11) j12) j13) j14) j15) j16) j17) j18) j19) j20) j21) j22) j23) j24) j25) j26) j27) j28) j29) j30) j31)
theorem named : Tryd.prog.funcNamed Rows.modelTextsUptoRow.func = some 9 := by kernel_rfl
end Go.Proofs.YtemdmpgekegfhaaDoor.modelTexts
