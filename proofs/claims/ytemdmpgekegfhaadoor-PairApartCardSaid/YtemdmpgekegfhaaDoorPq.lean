/- Words of the printed models, for the plain laws. -/
import Derived.Test.YtemdmpgekegfhaaDoorFx
import Derived.Test.YtemdmpgekegfhaaDoorOwnT
import Derived.Test.YtemdmpgekegfhaaDoorRange
namespace Go.Proofs.YtemdmpgekegfhaaDoor
open Go.RowKit
set_option linter.all false
set_option maxRecDepth 10000

theorem key_eq (a b : ByteArray) : (a.toList == b.toList) = decide (a = b) := by
  by_cases h : a = b
  · subst h; simp
  · have : a.toList ≠ b.toList := fun e => h (by
      have := congrArg List.length e
      apply ByteArray.ext
      apply Array.toList_inj.1
      simpa [ByteArray.toList_eq] using e)
    simp [h, this]
theorem app_ok {α : Type} {by_ : Nat} {xs : List α} {x : α} (h : (xs.length + 1) * by_ ≤ 140737488355328) : app by_ xs x = some (xs ++ [x]) := if_pos h
theorem appL_ok {α : Type} {by_ : Nat} {xs ys : List α} (h : (xs.length + ys.length) * by_ ≤ 140737488355328) : appL by_ xs ys = some (xs ++ ys) := if_pos h
theorem rdI_at {α : Type} {xs : List α} {k : Nat} (h : k < xs.length) : rdI xs (k : Int) = some xs[k] := by
  rw [rdI_nat, List.getElem?_eq_getElem h]
theorem rdI_ok {α : Type} {xs : List α} {k : Nat} {x : α} {r : List α} (h : xs.drop k = x :: r) : rdI xs (k : Int) = some x := by
  unfold rdI
  rw [if_pos (by omega)]
  have hk : k < xs.length := Classical.byContradiction fun hn => by rw [List.drop_of_length_le (by omega)] at h; cases h
  rw [List.drop_eq_getElem_cons hk] at h
  rw [show ((k : Int)).toNat = k from by omega, List.getElem?_eq_getElem hk, (List.cons.inj h).1]
theorem wrap_small {i : Int} (h1 : -9223372036854775808 ≤ i) (h2 : i ≤ 9223372036854775807) : IntKind.i64.wrap i = i := by
  have e1 : (2 : Int) ^ (64 - 1) = 9223372036854775808 := rfl
  simp only [IntKind.wrap, IntKind.bits, IntKind.signed, Bool.true_and, decide_eq_true_eq, e1]
  split <;> omega
theorem fset_same {κ β : Type} [DecidableEq κ] (f : κ → Option β) (k : κ) (v : β) : fset f k v k = some v := if_pos rfl
theorem fset_ne {κ β : Type} [DecidableEq κ] (f : κ → Option β) {k a : κ} (v : β) (h : a ≠ k) : fset f k v a = f a := if_neg h
theorem fdel_same {κ β : Type} [DecidableEq κ] (f : κ → Option β) (k : κ) : fdel f k k = none := if_pos rfl
theorem fdel_ne {κ β : Type} [DecidableEq κ] (f : κ → Option β) {k a : κ} (h : a ≠ k) : fdel f k a = f a := if_neg h
theorem drop_next {α : Type} {xs r : List α} {x : α} {k : Nat} (h : xs.drop k = x :: r) : ∃ hk : k < xs.length, x = xs[k] ∧ r = xs.drop (k + 1) := by
  have hk : k < xs.length := Classical.byContradiction fun hn => by rw [List.drop_of_length_le (by omega)] at h; cases h
  rw [List.drop_eq_getElem_cons hk] at h
  exact ⟨hk, (List.cons.inj h).1.symm, (List.cons.inj h).2.symm⟩
end Go.Proofs.YtemdmpgekegfhaaDoor
