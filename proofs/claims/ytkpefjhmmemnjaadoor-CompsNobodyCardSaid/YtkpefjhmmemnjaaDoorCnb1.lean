/- A graph that no call made: nil, or the zero one. -/
import Derived.Test.YtkpefjhmmemnjaaDoorOx1
namespace Go.Proofs.YtkpefjhmmemnjaaDoor
open Go.RowKit
set_option linter.all false
set_option maxRecDepth 10000

abbrev zG : Array Value := #[.int .i64 0, .slice none 0 0, .slice none 0 0, .slice none 0 0, .slice none 0 0, .bool false]
def Zg (w : World) (v : Value) : Prop := v = .pointer none ∨ ∃ b, v = .pointer (some ⟨b, 0, none⟩) ∧ w.cell? ⟨b, 0, none⟩ = some (.int .i64 0) ∧ w.cell? ⟨b, 5, none⟩ = some (.bool false)
theorem nodes_z {w : World} {v : Value} (h : Zg w v) : Calls Tryd.prog 9 #[v] w fun e w' => e = .returned (.int .i64 0) ∧ w' = w := by
  rcases h with rfl | ⟨b, rfl, c0, -⟩
  · go_enter Tryd.func9, Tryd.ntmps9
    go_wp2
    go_ret
    exact ⟨rfl, rfl⟩
  · go_enter Tryd.func9, Tryd.ntmps9
    go_wp2
    go_ret
    exact ⟨rfl, rfl⟩
theorem made_z {w : World} {v : Value} (h : Zg w v) : Calls Tryd.prog 8 #[v] w fun e w' => e = .returned (.bool false) ∧ w' = w := by
  rcases h with rfl | ⟨b, rfl, -, c5⟩
  · go_enter Tryd.func8, Tryd.ntmps8
    go_wp2
    go_ret
    exact ⟨rfl, rfl⟩
  · go_enter Tryd.func8, Tryd.ntmps8
    go_wp2
    go_ret
    exact ⟨rfl, rfl⟩
theorem order_z {w : World} {v : Value} (of : Int) (h : Zg w v) : Calls Tryd.prog 4 #[v, .int .i64 of] w fun e w' => e = .returned (.tuple #[.slice none 0 0, .bool false]) ∧ w' = w := by
  have hm := made_z h
  go_enter Tryd.func4, Tryd.ntmps4
  go_wp2_with (go_at_call 8; refine hm.mono ?_; rintro e w' ⟨rfl, rfl⟩)
  exact ret2 rfl (rv_tmp rfl) (rv_tmp rfl) rfl ⟨rfl, rfl⟩
theorem cyc_z {w : World} {v : Value} (of : Int) (h : Zg w v) : Calls Tryd.prog 6 #[v, .int .i64 of] w fun e w' => e = .returned (.bool false) ∧ w' = w := by
  have hm := made_z h
  have ho := order_z of h
  go_enter Tryd.func6, Tryd.ntmps6
  go_wp2_with (first
    | (go_at_call 4; refine ho.mono ?_; rintro e w' ⟨rfl, rfl⟩)
    | (go_at_call 8; refine hm.mono ?_; rintro e w' ⟨rfl, rfl⟩))
  go_ret
  exact ⟨rfl, rfl⟩
end Go.Proofs.YtkpefjhmmemnjaaDoor
