/- ModelNobody: the row's closed facts, one by one. -/
import Derived.Test.YtemdmpgekegfhaaDoorRows
import Derived.JoinedOf
import Derived.RowKitTokens
import Derived.ProofKit
namespace Go.Proofs.YtemdmpgekegfhaaDoor.modelNobody
open Go.RowKit
set_option linter.all false
set_option maxRecDepth 10000
theorem j0 : (Rows.modelNobodyRow.wf (OpenSpec.ofChange Rows.modelNobodySpec)) = true := by kernel_rfl
theorem j1 : (laidOutB Tryd.prog) = true := by kernel_rfl
theorem j2 : (mapsRowed Tryd.prog) = true := by kernel_rfl
theorem j3 : (Tryd.f11.params.all (Tryd.prog.readableRec ·)) = true := by kernel_rfl
theorem j4 : (namedTie Tryd.prog Rows.modelNobodyRow.named Rows.modelNobodySpec.vars) = true := by kernel_rfl
theorem j5 : ((Rows.modelNobodyRow.stops == [])) = true := by kernel_rfl
theorem j6 : ((Tryd.prog.stops == [])) = true := by kernel_rfl
theorem j7 : ((Rows.modelNobodyRow.knobs == [])) = true := by kernel_rfl
theorem j8 : ((Tryd.prog.stopKnobs == [])) = true := by kernel_rfl
theorem j9 : ((Rows.modelNobodyRow.inPlace == Tryd.prog.inPlace 11)) = true := by kernel_rfl
theorem j10 : ((Rows.modelNobodyRow.unfollowed == Tryd.prog.unfollowed 11)) = true := by kernel_rfl
theorem j11 : ((Rows.modelNobodyRow.recurses == Tryd.prog.recurses 11)) = true := by kernel_rfl
theorem j12 : ((Rows.modelNobodyRow.named == Tryd.prog.varsNamed 11)) = true := by kernel_rfl
theorem j13 : ((Rows.modelNobodyRow.maps == (Tryd.f11.params.toList ++ Rows.modelNobodySpec.plain.varTypes Tryd.prog).any (Tryd.prog.mapsRec ·))) = true := by kernel_rfl
theorem j14 : ((Rows.modelNobodyRow.ifaces == (Tryd.f11.params.toList ++ Rows.modelNobodySpec.plain.varTypes Tryd.prog).any (Tryd.prog.ifacesRec ·))) = true := by kernel_rfl
theorem j15 : ((Rows.modelNobodyRow.mapsOut == Tryd.prog.mapsAmong Tryd.f11.resultTypes.toList)) = true := by kernel_rfl
theorem j16 : ((Rows.modelNobodyRow.loops == (Tryd.f11.params.toList ++ Rows.modelNobodySpec.plain.varTypes Tryd.prog).any (Tryd.prog.loopsFrom ·))) = true := by kernel_rfl
theorem j17 : ((Rows.modelNobodyRow.wideKeys == (Tryd.f11.params.toList ++ Rows.modelNobodySpec.plain.varTypes Tryd.prog ++ Tryd.f11.resultTypes.toList).any (Tryd.prog.wideKeysFrom ·))) = true := by kernel_rfl
theorem j18 : (Rows.modelNobodySpec.vars.all (Tryd.prog.varReadable ·)) = true := by kernel_rfl
theorem j19 : (Tryd.f11.resultTypes.all (fun t => Tryd.prog.readableRec t && decide (t < Tryd.prog.types.size))) = true := by kernel_rfl
theorem j20 : ((Rows.modelNobodyRow.ifacesOut == Tryd.f11.resultTypes.toList.any (Tryd.prog.ifacesRec ·))) = true := by kernel_rfl
theorem j21 : ((Rows.modelNobodyRow.loopsOut == Tryd.f11.resultTypes.toList.any (Tryd.prog.loopsFrom ·))) = true := by kernel_rfl
theorem j22 : ((Rows.modelNobodyRow.plainKeys == Tryd.prog.plainKeys)) = true := by kernel_rfl
theorem j23 : (Rows.modelNobodyRow.shortTexts.isNone) = true := by kernel_rfl
theorem j24 : (Tryd.prog.stopsHeard) = true := by kernel_rfl
theorem j25 : (Tryd.prog.mayEnter) = true := by kernel_rfl
theorem j26 : ((Rows.modelNobodyRow.lifted == Tryd.prog.liftsFinal)) = true := by kernel_rfl
theorem j27 : ((Tryd.prog.make == some Rows.modelNobodyRow.make)) = true := by kernel_rfl
theorem j28 : ((Rows.modelNobodyRow.kinds == (if Rows.modelNobodyRow.domain.isEmpty then [] else Tryd.f11.params.toList.map fun t => match Tryd.prog.underlying t with | some (.int k) => some k | _ => none))) = true := by kernel_rfl
theorem j29 : ((Rows.modelNobodyRow.pinned == Rows.modelNobodyRow.pinnedBy)) = true := by kernel_rfl
theorem j30 : ((Rows.modelNobodyRow.veiled == (Tryd.f11.params.toList ++ Rows.modelNobodySpec.plain.varTypes Tryd.prog ++ Tryd.f11.resultTypes.toList).any (Tryd.prog.veiledRec ·))) = true := by kernel_rfl
theorem j31 : (Rows.modelNobodyRow.veiledFits Tryd.prog Tryd.f11.params.toList (Tryd.f11.params.toList ++ Rows.modelNobodySpec.plain.varTypes Tryd.prog ++ Tryd.f11.resultTypes.toList)) = true := by kernel_rfl
theorem andI {a b : Bool} (h : a = true) (k : b = true) : (a && b) = true := by rw [h, k]; rfl
theorem closed : joinedFacts Tryd.prog 11 Tryd.f11 Rows.modelNobodySpec Rows.modelNobodyRow = true := by
  unfold joinedFacts
  exact (andI (andI (andI (andI (andI (andI (andI (andI (andI (andI (andI (andI (andI (andI (andI (andI (andI (andI (andI (andI (andI (andI (andI (andI (andI (andI (andI (andI (andI (andI (andI j0 j1) j2) j3) j4) j5) j6) j7) j8) j9) j10) j11) j12) j13) j14) j15) j16) j17) j18) j19) j20) j21) j22) j23) j24) j25) j26) j27) j28) j29) j30) j31)
theorem named : Tryd.prog.funcNamed Rows.modelNobodyRow.func = some 11 := by kernel_rfl
end Go.Proofs.YtemdmpgekegfhaaDoor.modelNobody
