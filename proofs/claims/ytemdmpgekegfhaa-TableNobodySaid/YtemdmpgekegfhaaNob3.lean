/- A table that no call made: the same transaction; New of nothing. -/
import Derived.Test.YtemdmpgekegfhaaNob2
namespace Go.Proofs.Ytemdmpgekegfhaa
open Go.RowKit
set_option linter.all false
set_option maxRecDepth 10000
theorem mkm39 (w : World) : (Instr.makeMap 39 none).run Try.prog w = .ok (.map (some w.heap.size)) (w.alloc (.map #[] 0)) := by kernel_rfl
theorem mkm96 (w : World) : (Instr.makeMap 96 none).run Try.prog w = .ok (.map (some w.heap.size)) (w.alloc (.map #[] 0)) := by kernel_rfl
attribute [local go_sem] mkm39 mkm96
theorem sameTxn_z (w : World) : Calls Try.prog 57 #[.agg #[.int .i64 0, .int .i64 0, .int .i64 0, .int .i64 0, .slice none 0 0], .agg #[.int .i64 0, .int .i64 0, .int .i64 0, .int .i64 0, .slice none 0 0]] w fun e w' => e = .returned (.bool true) ∧ Below w.heap.size w w' := by
  go_enter Try.func57, Try.ntmps57
  go_wp2
  refine wp_loop_rounds 1 ?_
  rw [rounds_succ]
  go_wp2
  go_ret
  exact ⟨rfl, ((Below.refl _ w).alloc (Nat.le_refl _) _).alloc (by simp) _⟩
theorem new_z (w : World) : Calls Try.prog 16 #[.slice none 0 0] w fun e w' => e = .returned (.pointer (some ⟨w.heap.size + 1 + 1, 0, none⟩)) ∧ w' = (((w.alloc (.map #[] 0)).alloc (.map #[] 0)).alloc (.cells #[.slice none 0 0, .map (some w.heap.size), .map (some (w.heap.size + 1)), .bool true] 98)) := by
  go_enter Try.func16, Try.ntmps16
  go_wp2
  refine wp_loop_rounds 1 ?_
  rw [rounds_succ]
  go_wp2
  go_ret
  exact ⟨rfl, rfl⟩
theorem next_empty (w : World) (r : Nat) (hb : w.heap[r]? = some (.map #[] 0)) (ty : TypeId) : (Instr.next (.pointer (some ⟨w.heap.size, 0, none⟩)) false ty).run Try.prog (w.alloc (.mapIter (some r) 0 #[] 0)) = .ok (.tuple #[.bool false]) (w.alloc (.mapIter (some r) 0 #[] 0)) := by
  have := run_next_map (P := Try.prog) w ty r 0 0 #[] #[] 0 hb (fun x hx => by simp at hx) (Nat.le_refl _)
  simpa [leftOf] using this
theorem unique_n {w : World} {b r : Nat} (h2 : w.cell? ⟨b, 2, none⟩ = some (.map (some r))) (h3 : w.cell? ⟨b, 3, none⟩ = some (.bool true)) (hb : w.heap[r]? = some (.map #[] 0)) :
    Calls Try.prog 17 #[.pointer (some ⟨b, 0, none⟩)] w fun e w' => e = .returned (.bool true) ∧ Below w.heap.size w w' := by
  have hr := run_range_map (P := Try.prog) w 96 _ _ r #[] 0 Try.underlying96 hb
  have hn := next_empty w r hb
  go_enter Try.func17, Try.ntmps17
  go_wp2
  refine wp_loop_rounds 1 ?_
  rw [rounds_succ]
  go_wp2
  trace_state
  go_ret
  exact ⟨rfl, (Below.refl _ w).alloc (Nat.le_refl _) _⟩
end Go.Proofs.Ytemdmpgekegfhaa
