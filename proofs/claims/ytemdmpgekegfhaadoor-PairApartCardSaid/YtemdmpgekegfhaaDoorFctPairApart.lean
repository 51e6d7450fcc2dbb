/- PairApart: the row's closed facts, one by one. -/
import Derived.Test.YtemdmpgekegfhaaDoorRows
import Derived.JoinedOf
import Derived.RowKitTokens
import Derived.ProofKit
namespace Go.Proofs.YtemdmpgekegfhaaDoor.pairApart
open Go.RowKit
set_option linter.all false
set_option maxRecDepth 10000
theorem j0 : (Rows.pairApartRow.wf (OpenSpec.ofChange Rows.pairApartSpec)) = true := by kernel_rfl
theorem j1 : (laidOutB Tryd.prog) = true := by kernel_rfl
theorem j2 : (mapsRowed Tryd.prog) = true := by kernel_rfl
theorem j3 : (Tryd.f8.params.all (Tryd.prog.readableRec ·)) = true := by kernel_rfl
theorem j4 : (namedTie Tryd.prog Rows.pairApartRow.named Rows.pairApartSpec.vars) = true := by kernel_rfl
theorem j5 : ((Rows.pairApartRow.stops == [])) = true := by kernel_rfl
theorem j6 : ((Tryd.prog.stops == [])) = true := by kernel_rfl
theorem j7 : ((Rows.pairApartRow.knobs == [])) = true := by kernel_rfl
theorem j8 : ((Tryd.prog.stopKnobs == [])) = true := by kernel_rfl
theorem j9 : ((Rows.pairApartRow.inPlace == Tryd.prog.inPlace 8)) = true := by kernel_rfl
theorem j10 : ((Rows.pairApartRow.unfollowed == Tryd.prog.unfollowed 8)) = true := by kernel_rfl
theorem j11 : ((Rows.pairApartRow.recurses == Tryd.prog.recurses 8)) = true := by kernel_rfl
theorem j12 : ((Rows.pairApartRow.named == Tryd.prog.varsNamed 8)) = true := by kernel_rfl
theorem j13 : ((Rows.pairApartRow.maps == (Tryd.f8.params.toList ++ Rows.pairApartSpec.plain.varTypes Tryd.prog).any (Tryd.prog.mapsRec ·))) = true := by kernel_rfl
theorem j14 : ((Rows.pairApartRow.ifaces == (Tryd.f8.params.toList ++ Rows.pairApartSpec.plain.varTypes Tryd.prog).any (Tryd.prog.ifacesRec ·))) = true := by kernel_rfl
theorem j15 : ((Rows.pairApartRow.mapsOut == Tryd.prog.mapsAmong Tryd.f8.resultTypes.toList)) = true := by kernel_rfl
theorem j16 : ((Rows.pairApartRow.loops == (Tryd.f8.params.toList ++ Rows.pairApartSpec.plain.varTypes Tryd.prog).any (Tryd.prog.loopsFrom ·))) = true := by kernel_rfl
theorem j17 : ((Rows.pairApartRow.wideKeys == (Tryd.f8.params.toList ++ Rows.pairApartSpec.plain.varTypes Tryd.prog ++ Tryd.f8.resultTypes.toList).any (Tryd.prog.wideKeysFrom ·))) = true := by kernel_rfl
theorem j18 : (Rows.pairApartSpec.vars.all (Tryd.prog.varReadable ·)) = true := by kernel_rfl
theorem j19 : (Tryd.f8.resultTypes.all (fun t => Tryd.prog.readableRec t && decide (t < Tryd.prog.types.size))) = true := by kernel_rfl
theorem j20 : ((Rows.pairApartRow.ifacesOut == Tryd.f8.resultTypes.toList.any (Tryd.prog.ifacesRec ·))) = true := by kernel_rfl
theorem j21 : ((Rows.pairApartRow.loopsOut == Tryd.f8.resultTypes.toList.any (Tryd.prog.loopsFrom ·))) = true := by kernel_rfl
theorem j22 : ((Rows.pairApartRow.plainKeys == Tryd.prog.plainKeys)) = true := by kernel_rfl
theorem j23 : (Rows.pairApartRow.shortTexts.isNone) = true := by kernel_rfl
theorem j24 : (Tryd.prog.stopsHeard) = true := by kernel_rfl
theorem j25 : (Tryd.prog.mayEnter) = true := by kernel_rfl
theorem j26 : ((Rows.pairApartRow.lifted == Tryd.prog.liftsFinal)) = true := by kernel_rfl
theorem j27 : ((Tryd.prog.make == some Rows.pairApartRow.make)) = true := by kernel_rfl
theorem j28 : ((Rows.pairApartRow.kinds == (if Rows.pairApartRow.domain.isEmpty then [] else Tryd.f8.params.toList.map fun t => match Tryd.prog.underlying t with | some (.int k) => some k | _ => none))) = true := by kernel_rfl
theorem j29 : ((Rows.pairApartRow.pinned == Rows.pairApartRow.pinnedBy)) = true := by kernel_rfl
theorem j30 : ((Rows.pairApartRow.veiled == (Tryd.f8.params.toList ++ Rows.pairApartSpec.plain.varTypes Tryd.prog ++ Tryd.f8.resultTypes.toList).any (Tryd.prog.veiledRec ·))) = true := by kernel_rfl
theorem j31 : (Rows.pairApartRow.veiledFits Tryd.prog Tryd.f8.params.toList (Tryd.f8.params.toList ++ Rows.pairApartSpec.plain.varTypes Tryd.prog ++ Tryd.f8.resultTypes.toList)) = true := by kernel_rfl
theorem andI {a b : Bool} (h : a = true) (k : b = true) : (a && b) = true := by rw [h, k]; rfl
theorem closed : joinedFacts Tryd.prog 8 Tryd.f8 Rows.pairApartSpec Rows.pairApartRow = true := by
  unfold joinedFacts
  exact (andI (andI (andI (andI (andI (andI (andI (andI (andI (andI (andI (andI (andI (andI (andI (andI (andI (andI (andI (andI (andI (andI (andI (andI (andI (andI (andI (andI (andI (andI (andI j0 j1) j2) j3) j4) j5) j6) j7) j8) j9) j10) j11) j12) j13) j14) j15) j16) j17) j18) j19) j20) j21) j22) j23) j24) j25) j26) j27) j28) j29) j30) j31)
theorem named : Tryd.prog.funcNamed Rows.pairApartRow.func = some 8 := by kernel_rfl
end Go.Proofs.YtemdmpgekegfhaaDoor.pairApart
