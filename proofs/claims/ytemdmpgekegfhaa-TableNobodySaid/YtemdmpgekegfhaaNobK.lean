/- A table that no call made: Keys. -/
import Derived.Test.YtemdmpgekegfhaaNob3
import Derived.Test.YtemdmpgekegfhaaIter
import Derived.Shelf.AbstractIn
namespace Go.Proofs.Ytemdmpgekegfhaa
open Go.RowKit Go.Maps Go.Sort Go.Shelf
set_option linter.all false
set_option maxRecDepth 10000
set_option maxHeartbeats 1000000 in
theorem keys_z {w : World} {v : Value} (h : Zt w v) : Calls Try.prog 55 #[v] w fun e w' => e = .returned (.slice none 0 0) ∧ Below w.heap.size w w' := by
  rcases h with rfl | ⟨b, rfl, h⟩
  · go_enter Try.func55, Try.ntmps55
    go_wp2
    go_ret
    exact ⟨rfl, Below.refl _ _⟩
  · have c1 : w.cell? ⟨b, 1, none⟩ = some (.map none) := zc w b 1 h
    refine (callsIn_wide (n := 6)).1 ?_
    have hfK : Fence.wide.fn 91 := trivial
    have hfS : Fence.wide.fn 90 := trivial
    refine callsIn_of_wp Try.func55 rfl trivial ?_ rfl
    simp only [Try.ntmps55, List.size_toArray, List.length_cons, List.length_nil, Nat.reduceAdd, Nat.reduceSub, Array.replicate_succ, Array.replicate_zero, List.push_toArray, List.append_toArray, List.nil_append, List.cons_append]
    gi_wp2_with (first
      | (gi_at_call 91; refine (Try.maps_Keys_91 _ _).mono ?_; rintro e w' ⟨rfl, rfl⟩)
      | (gi_at_call 90; refine (Try.slices_Sorted_keys_nil_90_91 w).mono ?_; rintro e w' ⟨v, ss, rfl, hS, hrow, hnil, hb⟩))
    go_ret
    exact ⟨by rw [hnil.2 hS]; rfl, ((Below.refl _ w).alloc (Nat.le_refl _) _).trans (hb.mono (by simp))⟩
end Go.Proofs.Ytemdmpgekegfhaa
