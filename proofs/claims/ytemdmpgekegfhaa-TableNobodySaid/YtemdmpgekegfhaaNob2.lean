/- A table that no call made: Final, Keys. -/
import Derived.Test.YtemdmpgekegfhaaNob
namespace Go.Proofs.Ytemdmpgekegfhaa
open Go.RowKit
set_option linter.all false
set_option maxRecDepth 10000
theorem fld4 (w : World) : (Instr.field 30 (.agg #[.int .i64 0, .int .i64 0, .int .i64 0, .int .i64 0, .slice none 0 0]) 4).run Try.prog w = .ok (.slice none 0 0) w := by kernel_rfl
attribute [local go_sem] fld4
theorem final_z {w : World} {v : Value} (h : Zt w v) (n : Int) : Calls Try.prog 23 #[v, .agg #[.int .i64 n, .int .i64 0]] w fun e w' => e = .returned (.bool false) ∧ w' = ((w.alloc (.cells #[.int .i64 n, .int .i64 0] 41)).alloc (.cells #[.int .i64 0, .int .i64 0, .int .i64 0, .int .i64 0, .slice none 0 0] 30)).alloc (.cells #[.slice none 0 0] 28) := by
  have hC := fun (w : World) h => txn_z (w := w) (v := v) h n
  go_enter Try.func23, Try.ntmps23
  go_wp2_with (go_at_call 58; refine (hC _ (zt_alloc h _)).mono ?_; rintro e w' ⟨rfl, rfl⟩)
  go_ret
  exact ⟨rfl, rfl⟩
end Go.Proofs.Ytemdmpgekegfhaa
