/- ModelJoins: the row's closed facts, one by one. -/
import Derived.Test.YtemdmpgekegfhaaDoorRows
import Derived.JoinedOf
import Derived.RowKitTokens
import Derived.ProofKit
namespace Go.Proofs.YtemdmpgekegfhaaDoor.modelJoins
open Go.RowKit
set_option linter.all false
set_option maxRecDepth 10000
theorem j0 : (Rows.modelJoinsUptoRow.wf (OpenSpec.ofChange Rows.modelJoinsSpec)) = true := by kernel_rfl
theorem j1 : (laidOutB Tryd.prog) = true := by kernel_rfl
theorem j2 : (mapsRowed Tryd.prog) = true := by kernel_rfl
theorem j3 : (Tryd.f10.params.all (Tryd.prog.readableRec ·)) = true := by kernel_rfl
theorem j4 : (namedTie Tryd.prog Rows.modelJoinsUptoRow.named Rows.modelJoinsSpec.vars) = true := by kernel_rfl
theorem j5 : ((Rows.modelJoinsUptoRow.stops == [])) = true := by kernel_rfl
theorem j6 : ((Tryd.prog.stops == [])) = true := by kernel_rfl
theorem j7 : ((Rows.modelJoinsUptoRow.knobs == [])) = true := by kernel_rfl
theorem j8 : ((Tryd.prog.stopKnobs == [])) = true := by kernel_rfl
theorem j9 : ((Rows.modelJoinsUptoRow.inPlace == Tryd.prog.inPlace 10)) = true := by kernel_rfl
theorem j10 : ((Rows.modelJoinsUptoRow.unfollowed == Tryd.prog.unfollowed 10)) = true := by kernel_rfl
theorem j11 : ((Rows.modelJoinsUptoRow.recurses == Tryd.prog.recurses 10)) = true := by kernel_rfl
theorem j12 : ((Rows.modelJoinsUptoRow.named == Tryd.prog.varsNamed 10)) = true := by kernel_rfl
theorem j13 : ((Rows.modelJoinsUptoRow.maps == (Tryd.f10.params.toList ++ Rows.modelJoinsSpec.plain.varTypes Tryd.prog).any (Tryd.prog.mapsRec ·))) = true := by kernel_rfl
theorem j14 : ((Rows.modelJoinsUptoRow.ifaces == (Tryd.f10.params.toList ++ Rows.modelJoinsSpec.plain.varTypes Tryd.prog).any (Tryd.prog.ifacesRec ·))) = true := by kernel_rfl
theorem j15 : ((Rows.modelJoinsUptoRow.mapsOut == Tryd.prog.mapsAmong Tryd.f10.resultTypes.toList)) = true := by kernel_rfl
theorem j16 : ((Rows.modelJoinsUptoRow.loops == (Tryd.f10.params.toList ++ Rows.modelJoinsSpec.plain.varTypes Tryd.prog).any (Tryd.prog.loopsFrom ·))) = true := by kernel_rfl
theorem j17 : ((Rows.modelJoinsUptoRow.wideKeys == (Tryd.f10.params.toList ++ Rows.modelJoinsSpec.plain.varTypes Tryd.prog ++ Tryd.f10.resultTypes.toList).any (Tryd.prog.wideKeysFrom ·))) = true := by kernel_rfl
theorem j18 : (Rows.modelJoinsSpec.vars.all (Tryd.prog.varReadable ·)) = true := by kernel_rfl
theorem j19 : (Tryd.f10.resultTypes.all (fun t => Tryd.prog.readableRec t && decide (t < Tryd.prog.types.size))) = true := by kernel_rfl
theorem j20 : ((Rows.modelJoinsUptoRow.ifacesOut == Tryd.f10.resultTypes.toList.any (Tryd.prog.ifacesRec ·))) = true := by kernel_rfl
theorem j21 : ((Rows.modelJoinsUptoRow.loopsOut == Tryd.f10.resultTypes.toList.any (Tryd.prog.loopsFrom ·))) = true := by kernel_rfl
theorem j22 : ((Rows.modelJoinsUptoRow.plainKeys == Tryd.prog.plainKeys)) = true := by kernel_rfl
theorem j23 : (Rows.modelJoinsUptoRow.shortTexts.isNone) = true := by kernel_rfl
theorem j24 : (Tryd.prog.stopsHeard) = true := by kernel_rfl
theorem j25 : (Tryd.prog.mayEnter) = true := by kernel_rfl
theorem j26 : ((Rows.modelJoinsUptoRow.lifted == Tryd.prog.liftsFinal)) = true := by kernel_rfl
theorem j27 : ((Tryd.prog.make == some Rows.modelJoinsUptoRow.make)) = true := by kernel_rfl
theorem j28 : ((Rows.modelJoinsUptoRow.kinds == (if Rows.modelJoinsUptoRow.domain.isEmpty then [] else Tryd.f10.params.toList.map fun t => match Tryd.prog.underlying t with | some (.int k) => some k | _ => none))) = true := by kernel_rfl
theorem j29 : ((Rows.modelJoinsUptoRow.pinned == Rows.modelJoinsUptoRow.pinnedBy)) = true := by kernel_rfl
theorem j30 : ((Rows.modelJoinsUptoRow.veiled == (Tryd.f10.params.toList ++ Rows.modelJoinsSpec.plain.varTypes Tryd.prog ++ Tryd.f10.resultTypes.toList).any (Tryd.prog.veiledRec ·))) = true := by kernel_rfl
theorem j31 : (Rows.modelJoinsUptoRow.veiledFits Tryd.prog Tryd.f10.params.toList (Tryd.f10.params.toList ++ Rows.modelJoinsSpec.plain.varTypes Tryd.prog ++ Tryd.f10.resultTypes.toList)) = true := by kernel_rfl
theorem andI {a b : Bool} (h : a = true) (k : b = true) : (a && b) = true := by rw [h, k]; rfl
theorem closed : joinedFacts Tryd.prog 10 Tryd.f10 Rows.modelJoinsSpec Rows.modelJoinsUptoRow = true := by
  unfold joinedFacts
  exact (andI (andI (andI (andI (andI (andI (andI (andI (andI (andI (andI (andI (andI (andI (andI (andI (andI (andI (andI (andI (andI (andI (andI (andI (andI (andI (andI (andI (andI (andI (andI j0 j1) j2) j3) j4) j5) j6) j7) j8) j9) j10) j11) j12) j13) j14) j15) j16) j17) j18) j19) j20) j21) j22) j23) j24) j25) j26) j27) j28) j29) j30) j31)
theorem named : Tryd.prog.funcNamed Rows.modelJoinsUptoRow.func = some 10 := by kernel_rfl
end Go.Proofs.YtemdmpgekegfhaaDoor.modelJoins
