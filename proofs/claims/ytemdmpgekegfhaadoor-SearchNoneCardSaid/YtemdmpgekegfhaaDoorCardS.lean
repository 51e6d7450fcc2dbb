/- Rows that list the three data tables: both facts. -/
import Derived.Test.YtemdmpgekegfhaaDoorCardQ
import Derived.Test.YtemdmpgekegfhaaDoorGx1
namespace Go.Proofs.YtemdmpgekegfhaaDoor
open Go.ChangeShapes Go.WideShapes Go.RowKit
set_option linter.all false
set_option maxRecDepth 100000
theorem CS.gt : Tryd.prog.globalNamed "math/bits.deBruijn64tab" = some 1 := by kernel_rfl
theorem CS.ty : (Tryd.prog.globals[1]?).map (·.type) = some 263 := by kernel_rfl
theorem CS.n1 : Tryd.prog.cellsOf 5 = 1 := by kernel_rfl
theorem CS.n64 : Tryd.prog.cellsOf 263 = 64 := by kernel_rfl
theorem CS.tz {W : World} (h : laidMetH Tryd.prog laidD W) : Tz (all W) := by
  have h2 : laidMet Tryd.prog (("math/bits.deBruijn64tab", Lib.tabData .u8 (Lib.deBruijn64tab.map fun z : Nat => (z : Int))) :: ("internal/strconv.uint64pow10", Rows.laid_internal_strconv_uint64pow10) :: []) W := laidMet.tail (CD.met h)
  have ht := Lib.tabIs_of_head CS.gt CS.ty Tryd.underlying263 Tryd.underlying5 CS.n1 CS.n64 h2
  intro j hj
  have hc := ht.cell CS.gt j (by simpa using hj)
  have e : (Lib.deBruijn64tab.map fun z : Nat => (z : Int)).getD j 0 = ((Lib.deBruijn64tab.getD j 0 : Nat) : Int) := by
    simp [List.getD, hj]
  rw [e] at hc
  have hx : ∃ cur e fr, W.heap[1]? = some (.cells cur e fr) ∧ cur[j]? = some (.int .u8 (Lib.deBruijn64tab.getD j 0 : Nat)) := by
    simp only [World.cell?] at hc
    cases hb : W.heap[1]? with
    | none => rw [hb] at hc; cases hc
    | some o =>
      rw [hb] at hc
      cases o with
      | cells c e fr => exact ⟨c, e, fr, rfl, by simpa using hc⟩
      | _ => simp at hc
  obtain ⟨cur, e, fr, h1, h2⟩ := hx
  refine ⟨rfl, cur, e, fr, h1, fun i u hi => ?_⟩
  cases i with
  | zero => simp at hi; subst hi; simpa using h2
  | succ i => simp at hi
theorem CS.both {W : World} (h : laidMetH Tryd.prog laidD W) : Tz (all W) ∧ Pw (all W) := ⟨CS.tz h, CD.pw h⟩
end Go.Proofs.YtemdmpgekegfhaaDoor
