/- The program's data as Lean values, and how they lie in memory. -/
import Derived.Test.YtkpefjhmmemnjaaDoorOpsB
import Derived.Test.YtkpefjhmmemnjaaDoorRows
namespace Go.Proofs.YtkpefjhmmemnjaaDoor
open Go.RowKit
set_option linter.all false
set_option maxRecDepth 10000

theorem info_of {P : Program} {t : TypeId} {i : TypeInfo} (h : P.types[t]? = some i) : P.info? t = some i := by
  unfold Tables.info?
  rw [if_pos (Array.getElem?_eq_some_iff.1 h).1]; exact h
def kI : Kin Int := Kin.int 3
def kLI : Kin (List Int) := Kin.slice kI 28
theorem kI_at : kI.At Tryd.prog 28 := ⟨Tryd.underlying28, by decide, Tryd.t3, _, info_of Tryd.type3, rfl, rfl, rfl, rfl⟩
theorem uni_emp_right {h1 h2 : SH} (h : emp h2) : uni h1 h2 = h1 := by funext b; unfold uni; cases e : h1 b <;> simp [h b]
theorem star_emp_right {A : HP} {h : SH} (k : star A emp h) : A h := by
  obtain ⟨h1, h2, a, e, d, rfl⟩ := k
  rw [uni_comm d, uni_emp_left e]; exact a
theorem emp_star_pure {p : Prop} {A : HP} {h : SH} (hp : p) (k : A h) : star (fun h => p ∧ emp h) A h := ⟨fun _ => none, h, ⟨hp, fun _ => rfl⟩, k, fun _ => .inl rfl, by rw [uni_emp_left (fun _ => rfl)]⟩
theorem star_pure_emp {p : Prop} {A : HP} {h : SH} (hp : p) (k : A h) : star A (fun h => p ∧ emp h) h :=
  ⟨h, fun _ => none, k, ⟨hp, fun _ => rfl⟩, fun _ => .inr rfl, by funext b; unfold uni; cases h b <;> rfl⟩
end Go.Proofs.YtkpefjhmmemnjaaDoor
