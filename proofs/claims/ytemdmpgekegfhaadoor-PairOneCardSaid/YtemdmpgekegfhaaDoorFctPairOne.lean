/- PairOne: the row's closed facts, one by one. -/
import Derived.Test.YtemdmpgekegfhaaDoorRows
import Derived.JoinedOf
import Derived.RowKitTokens
import Derived.ProofKit
namespace Go.Proofs.YtemdmpgekegfhaaDoor.pairOne
open Go.RowKit
set_option linter.all false
set_option maxRecDepth 10000
theorem j0 : (Rows.pairOneRow.wf (OpenSpec.ofChange Rows.pairOneSpec)) = true := by kernel_rfl
theorem j1 : (laidOutB Tryd.prog) = true := by kernel_rfl
theorem j2 : (mapsRowed Tryd.prog) = true := by kernel_rfl
theorem j3 : (Tryd.f7.params.all (Tryd.prog.readableRec ·)) = true := by kernel_rfl
theorem j4 : (namedTie Tryd.prog Rows.pairOneRow.named Rows.pairOneSpec.vars) = true := by kernel_rfl
theorem j5 : ((Rows.pairOneRow.stops == [])) = true := by kernel_rfl
theorem j6 : ((Tryd.prog.stops == [])) = true := by kernel_rfl
theorem j7 : ((Rows.pairOneRow.knobs == [])) = true := by kernel_rfl
theorem j8 : ((Tryd.prog.stopKnobs == [])) = true := by kernel_rfl
theorem j9 : ((Rows.pairOneRow.inPlace == Tryd.prog.inPlace 7)) = true := by kernel_rfl
theorem j10 : ((Rows.pairOneRow.unfollowed == Tryd.prog.unfollowed 7)) = true := by kernel_rfl
theorem j11 : ((Rows.pairOneRow.recurses == Tryd.prog.recurses 7)) = true := by kernel_rfl
theorem j12 : ((Rows.pairOneRow.named == Tryd.prog.varsNamed 7)) = true := by kernel_rfl
theorem j13 : ((Rows.pairOneRow.maps == (Tryd.f7.params.toList ++ Rows.pairOneSpec.plain.varTypes Tryd.prog).any (Tryd.prog.mapsRec ·))) = true := by kernel_rfl
theorem j14 : ((Rows.pairOneRow.ifaces == (Tryd.f7.params.toList ++ Rows.pairOneSpec.plain.varTypes Tryd.prog).any (Tryd.prog.ifacesRec ·))) = true := by kernel_rfl
theorem j15 : ((Rows.pairOneRow.mapsOut == Tryd.prog.mapsAmong Tryd.f7.resultTypes.toList)) = true := by kernel_rfl
theorem j16 : ((Rows.pairOneRow.loops == (Tryd.f7.params.toList ++ Rows.pairOneSpec.plain.varTypes Tryd.prog).any (Tryd.prog.loopsFrom ·))) = true := by kernel_rfl
theorem j17 : ((Rows.pairOneRow.wideKeys == (Tryd.f7.params.toList ++ Rows.pairOneSpec.plain.varTypes Tryd.prog ++ Tryd.f7.resultTypes.toList).any (Tryd.prog.wideKeysFrom ·))) = true := by kernel_rfl
theorem j18 : (Rows.pairOneSpec.vars.all (Tryd.prog.varReadable ·)) = true := by kernel_rfl
theorem j19 : (Tryd.f7.resultTypes.all (fun t => Tryd.prog.readableRec t && decide (t < Tryd.prog.types.size))) = true := by kernel_rfl
theorem j20 : ((Rows.pairOneRow.ifacesOut == Tryd.f7.resultTypes.toList.any (Tryd.prog.ifacesRec ·))) = true := by kernel_rfl
theorem j21 : ((Rows.pairOneRow.loopsOut == Tryd.f7.resultTypes.toList.any (Tryd.prog.loopsFrom ·))) = true := by kernel_rfl
theorem j22 : ((Rows.pairOneRow.plainKeys == Tryd.prog.plainKeys)) = true := by kernel_rfl
theorem j23 : (Rows.pairOneRow.shortTexts.isNone) = true := by kernel_rfl
theorem j24 : (Tryd.prog.stopsHeard) = true := by kernel_rfl
theorem j25 : (Tryd.prog.mayEnter) = true := by kernel_rfl
theorem j26 : ((Rows.pairOneRow.lifted == Tryd.prog.liftsFinal)) = true := by kernel_rfl
theorem j27 : ((Tryd.prog.make == some Rows.pairOneRow.make)) = true := by kernel_rfl
theorem j28 : ((Rows.pairOneRow.kinds == (if Rows.pairOneRow.domain.isEmpty then [] else Tryd.f7.params.toList.map fun t => match Tryd.prog.underlying t with | some (.int k) => some k | _ => none))) = true := by kernel_rfl
theorem j29 : ((Rows.pairOneRow.pinned == Rows.pairOneRow.pinnedBy)) = true := by kernel_rfl
theorem j30 : ((Rows.pairOneRow.veiled == (Tryd.f7.params.toList ++ Rows.pairOneSpec.plain.varTypes Tryd.prog ++ Tryd.f7.resultTypes.toList).any (Tryd.prog.veiledRec ·))) = true := by kernel_rfl
theorem j31 : (Rows.pairOneRow.veiledFits Tryd.prog Tryd.f7.params.toList (Tryd.f7.params.toList ++ Rows.pairOneSpec.plain.varTypes Tryd.prog ++ Tryd.f7.resultTypes.toList)) = true := by kernel_rfl
theorem andI {a b : Bool} (h : a = true) (k : b = true) : (a && b) = true := by rw [h, k]; rfl
theorem closed : joinedFacts Tryd.prog 7 Tryd.f7 Rows.pairOneSpec Rows.pairOneRow = true := by
  unfold joinedFacts
  exact (andI (andI (andI (andI (andI (andI (andI (andI (andI (andI (andI (andI (andI (andI (andI (andI (andI (andI (andI (andI (andI (andI (andI (andI (andI (andI (andI (andI (andI (andI (andI j0 j1) j2) j3) j4) j5) j6) j7) j8) j9) j10) j11) j12) j13) j14) j15) j16) j17) j18) j19) j20) j21) j22) j23) j24) j25) j26) j27) j28) j29) j30) j31)
theorem named : Tryd.prog.funcNamed Rows.pairOneRow.func = some 7 := by kernel_rfl
end Go.Proofs.YtemdmpgekegfhaaDoor.pairOne
