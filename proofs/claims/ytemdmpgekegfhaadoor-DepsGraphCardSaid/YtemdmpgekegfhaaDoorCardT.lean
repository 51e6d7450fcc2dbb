/- Rows that list math/bits.deBruijn64tab: what the condition gives a walk, and a world that meets it. -/
import Derived.Test.YtemdmpgekegfhaaDoorRows
import Derived.Test.YtemdmpgekegfhaaDoorGx1
import Derived.ProofKit
import Derived.LaidMore
import Derived.LaidLaws
import Derived.LaidHandle
import Derived.OpenShut
import Derived.Stop.Joined
import Derived.Lib.LaidTab
namespace Go.Proofs.YtemdmpgekegfhaaDoor
open Go.ChangeShapes Go.WideShapes Go.RowKit
set_option linter.all false
set_option maxRecDepth 100000
abbrev laidT : List (String × DataW Unit) := [("math/bits.deBruijn64tab", Rows.laid_math_bits_deBruijn64tab)]
theorem doorT_met (os : Os) (args : Array Value) : laidMetH Tryd.prog laidT ((World.doorLaid Tryd.prog 31 os).forCall (fun _ _ => 0) ⟨#[], args, []⟩).memory :=
  laidMetH_of_parts3 (fuel := 8) (laidMet_of_run' 8 (by kernel_rfl) (by kernel_rfl)) (by kernel_rfl) (by kernel_rfl)
theorem CT.gt : Tryd.prog.globalNamed "math/bits.deBruijn64tab" = some 1 := by kernel_rfl
theorem CT.ty : (Tryd.prog.globals[1]?).map (·.type) = some 263 := by kernel_rfl
theorem CT.n1 : Tryd.prog.cellsOf 5 = 1 := by kernel_rfl
theorem CT.n64 : Tryd.prog.cellsOf 263 = 64 := by kernel_rfl
theorem CT.met {W : World} (h : laidMetH Tryd.prog laidT W) : laidMet Tryd.prog laidT W := by
  exact h
theorem CT.tz {W : World} (h : laidMetH Tryd.prog laidT W) : Tz (all W) := by
  have h2 : laidMet Tryd.prog (("math/bits.deBruijn64tab", Lib.tabData .u8 (Lib.deBruijn64tab.map fun z : Nat => (z : Int))) :: []) W := CT.met h
  have ht := Lib.tabIs_of_head CT.gt CT.ty Tryd.underlying263 Tryd.underlying5 CT.n1 CT.n64 h2
  intro j hj
  have hc := ht.cell CT.gt j (by simpa using hj)
  have e : (Lib.deBruijn64tab.map fun z : Nat => (z : Int)).getD j 0 = ((Lib.deBruijn64tab.getD j 0 : Nat) : Int) := by
    simp [List.getD, hj]
  rw [e] at hc
  have hx : ∃ cur e fr, W.heap[1]? = some (.cells cur e fr) ∧ cur[j]? = some (.int .u8 (Lib.deBruijn64tab.getD j 0 : Nat)) := by
    simp only [World.cell?] at hc
    cases hb : W.heap[1]? with
    | none => rw [hb] at hc; cases hc
    | some o =>
      rw [hb] at hc
      cases o with
      | cells c e fr => exact ⟨c, e, fr, rfl, by simpa using hc⟩
      | _ => simp at hc
  obtain ⟨cur, e, fr, h1, h2⟩ := hx
  refine ⟨rfl, cur, e, fr, h1, fun i u hi => ?_⟩
  cases i with
  | zero => simp at hi; subst hi; simpa using h2
  | succ i => simp at hi
end Go.Proofs.YtemdmpgekegfhaaDoor
