/- Rows that list the three data tables. -/
import Derived.Test.YtemdmpgekegfhaaDoorRows
import Derived.ProofKit
import Derived.LaidMore
import Derived.LaidLaws
import Derived.LaidHandle
import Derived.OpenShut
import Derived.Stop.Joined
import Derived.Test.YtemdmpgekegfhaaDoorTx1
import Derived.Lib.LaidTab
import Derived.Stop.LaidErr
section
namespace Go.Proofs.YtemdmpgekegfhaaDoor
open Go.ChangeShapes Go.WideShapes Go.RowKit
set_option linter.all false
set_option maxRecDepth 100000
abbrev laidD : List (String × DataW Unit) := [("math/bits.deBruijn32tab", Rows.laid_math_bits_deBruijn32tab), ("math/bits.deBruijn64tab", Rows.laid_math_bits_deBruijn64tab), ("internal/strconv.uint64pow10", Rows.laid_internal_strconv_uint64pow10)]
theorem doorD_met (os : Os) (args : Array Value) : laidMetH Tryd.prog laidD ((World.doorLaid Tryd.prog 31 os).forCall (fun _ _ => 0) ⟨#[], args, []⟩).memory :=
  laidMetH_of_parts3 (fuel := 8) (laidMet_of_run' 8 (by kernel_rfl) (by kernel_rfl)) (by kernel_rfl) (by kernel_rfl)
end Go.Proofs.YtemdmpgekegfhaaDoor
end

section
namespace Go.Proofs.YtemdmpgekegfhaaDoor
open Go.ChangeShapes Go.WideShapes Go.RowKit
set_option linter.all false
set_option maxRecDepth 100000
theorem CD.ty : (Tryd.prog.globals[2]?).map (·.type) = some 267 := by kernel_rfl
theorem CD.n1 : Tryd.prog.cellsOf 217 = 1 := by kernel_rfl
theorem CD.n20 : Tryd.prog.cellsOf 267 = 20 := by kernel_rfl
theorem CD.met {W : World} (h : laidMetH Tryd.prog laidD W) : laidMet Tryd.prog laidD W := by
  exact h
theorem CD.pw {W : World} (h : laidMetH Tryd.prog laidD W) : Pw (all W) := by
  have h2 : laidMet Tryd.prog (("internal/strconv.uint64pow10", Lib.tabData .u64 Lib.pow10Tab) :: []) W := laidMet.tail (laidMet.tail (CD.met h))
  exact Pw.of (Lib.tabIs_of_head pow10_gt CD.ty Tryd.underlying267 Tryd.underlying217 CD.n1 CD.n20 h2)
end Go.Proofs.YtemdmpgekegfhaaDoor
end
