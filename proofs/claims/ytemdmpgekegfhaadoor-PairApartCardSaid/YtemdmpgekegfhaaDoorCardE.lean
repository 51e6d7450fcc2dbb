/- Rows that list errors.errorType: what the condition gives a walk, and a world that meets it (after the kit's worked example ToyasProofs). -/
import Derived.Test.YtemdmpgekegfhaaDoorRows
import Derived.Test.YtemdmpgekegfhaaDoorAsW
import Derived.ChangeSame
import Derived.ChangeVars
import Derived.JoinedOf
import Derived.RowKitTokens
import Derived.LaidLaws
import Derived.LaidHandle
import Derived.Stop.Joined
import Derived.ProofKit
namespace Go.Proofs.YtemdmpgekegfhaaDoor
open Go.ChangeShapes Go.WideShapes Go.RowKit
set_option linter.all false
set_option maxRecDepth 10000
abbrev laidE : List (String × DataW Unit) := [("errors.errorType", Rows.laid_errors_errorType)]
theorem CE.et : Tryd.prog.globalNamed "errors.errorType" = some 0 := by kernel_rfl
theorem CE.rt : (Tryd.prog.cutTypes.find? (·.1 == "internal/reflectlite.rtype")).map (·.2) = some 228 := by kernel_rfl
theorem CE.oneRow : ((List.range 304).filter fun t => Tryd.prog.rowNamed t [101, 114, 114, 111, 114]) = [59] := by kernel_rfl
theorem CE.size : Tryd.prog.types.size = 304 := by kernel_rfl
theorem CE.handle {W : World} (h : laidMetH Tryd.prog laidE W) : W.cell? ⟨0, 0, none⟩ = some (.iface 228 (.agg #[.pointer (some ⟨4, 59, none⟩)])) := by
  have h' : laidMet Tryd.prog [] W ∧ handlesMet Tryd.prog laidE W := h
  obtain ⟨name, u, ty, e1, e2, e3, e4, e5⟩ := h'.2 _ (List.mem_singleton.2 rfl)
  have en : name = [101, 114, 114, 111, 114] := (Option.some.inj e1).symm
  subst en
  obtain rfl := Option.some.inj (CE.rt.symm.trans e2)
  have hm : ty ∈ (List.range 304).filter fun t => Tryd.prog.rowNamed t [101, 114, 114, 111, 114] := List.mem_filter.2 ⟨List.mem_range.2 (by rw [← CE.size]; exact e3), e4⟩
  rw [CE.oneRow] at hm
  obtain rfl := List.mem_singleton.1 hm
  have hh : typeHandle Tryd.prog 59 = .pointer (some ⟨4, 59, none⟩) := by kernel_rfl
  rw [hh] at e5
  simpa using World.var?_cell CE.et e5 0
theorem CE.eg {W : World} (h : laidMetH Tryd.prog laidE W) : Eg (all W) := by
  have hc := CE.handle h
  have hx : ∃ cur e fr, W.heap[0]? = some (.cells cur e fr) ∧ cur[0]? = some (.iface 228 (.agg #[.pointer (some ⟨4, 59, none⟩)])) := by
    simp only [World.cell?] at hc
    cases hb : W.heap[0]? with
    | none => rw [hb] at hc; cases hc
    | some o =>
      rw [hb] at hc
      cases o with
      | cells c e fr => exact ⟨c, e, fr, rfl, by simpa using hc⟩
      | _ => simp at hc
  obtain ⟨cur, e, fr, h1, h2⟩ := hx
  refine ⟨rfl, cur, e, fr, h1, fun j u hj => ?_⟩
  cases j with
  | zero => simp at hj; subst hj; exact h2
  | succ j => simp at hj
noncomputable def laidWorld (os : Os) : World :=
  let w0 := World.holding Tryd.prog os ⟨#[], #[], []⟩
  { w0 with heap := w0.heap.modify 0 fun
      | .cells _ t frozen => .cells #[.iface 228 (.agg #[.pointer (some ⟨4, 59, none⟩)])] t frozen
      | o => o }
theorem laidWorld_met (os : Os) (args : Array Value) : laidMetH Tryd.prog laidE ((laidWorld os).forCall (fun _ _ => 0) ⟨#[], args, []⟩).memory :=
  laidMetH_of_parts (laidMet_nil _ _) (by kernel_rfl)
end Go.Proofs.YtemdmpgekegfhaaDoor
