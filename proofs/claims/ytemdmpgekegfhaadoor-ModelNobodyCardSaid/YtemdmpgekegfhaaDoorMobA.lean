/- A state that no call made: nil, or the zero one. -/
import Derived.Test.YtemdmpgekegfhaaDoorData
import Derived.Test.YtemdmpgekegfhaaDoorRet
import Derived.WalkKit
import Derived.WalkSpells
namespace Go.Proofs.YtemdmpgekegfhaaDoor
open Go.RowKit
set_option linter.all false
set_option maxRecDepth 10000

def Zs (w : World) (v : Value) : Prop := v = .pointer none ∨ ∃ b, v = .pointer (some ⟨b, 0, none⟩) ∧ w.heap[b]? = some (.cells #[.map none, .map none] 91 (0, 0))
theorem zcs (w : World) (b j : Nat) (h : w.heap[b]? = some (.cells #[.map none, .map none] 91 (0, 0))) : w.cell? ⟨b, j, none⟩ = (#[Value.map none, .map none] : Array Value)[j]? := by
  simp [World.cell?, h]
theorem eqm_ (w : World) (r : Option Nat) : (binOp .eql 88 (.map r) (.map none)).run Tryd.prog w = .ok (.bool r.isNone) w := run_eql_map_nil w _ _ _ r Tryd.underlying88
attribute [local go_sem] eqm_
theorem value_z {w : World} {v : Value} (h : Zs w v) (k : ByteArray) : Calls Tryd.prog 44 #[v, .string k] w fun e w' => e = .returned (.tuple #[.int .i64 0, .bool false]) ∧ w' = w := by
  rcases h with rfl | ⟨b, rfl, h⟩
  · go_enter Tryd.func44, Tryd.ntmps44
    go_wp2
    exact ret2 rfl (rv_tmp rfl) (rv_tmp rfl) rfl ⟨rfl, rfl⟩
  · have c0 : w.cell? ⟨b, 0, none⟩ = some (.map none) := zcs w b 0 h
    go_enter Tryd.func44, Tryd.ntmps44
    go_wp2
    exact ret2 rfl (rv_tmp rfl) (rv_tmp rfl) rfl ⟨rfl, rfl⟩
theorem apply_z {w : World} {v : Value} (h : Zs w v) : Calls Tryd.prog 42 #[v, .slice none 0 0, .bool true] w fun e w' => e = .returned (.bool false) ∧ w' = w := by
  rcases h with rfl | ⟨b, rfl, h⟩
  · go_enter Tryd.func42, Tryd.ntmps42
    go_wp2
    go_ret
    exact ⟨rfl, rfl⟩
  · have c0 : w.cell? ⟨b, 0, none⟩ = some (.map none) := zcs w b 0 h
    go_enter Tryd.func42, Tryd.ntmps42
    go_wp2
    go_ret
    exact ⟨rfl, rfl⟩
theorem list_z {w : World} {v : Value} (h : Zs w v) (k : ByteArray) : Calls Tryd.prog 45 #[v, .string k] w fun e w' => e = .returned (.slice none 0 0) ∧ w' = w := by
  rcases h with rfl | ⟨b, rfl, h⟩
  · go_enter Tryd.func45, Tryd.ntmps45
    go_wp2
    go_ret
    exact ⟨rfl, rfl⟩
  · have c0 : w.cell? ⟨b, 0, none⟩ = some (.map none) := zcs w b 0 h
    go_enter Tryd.func45, Tryd.ntmps45
    go_wp2
    go_ret
    exact ⟨rfl, rfl⟩
theorem copy_z {w : World} {v : Value} (h : Zs w v) : Calls Tryd.prog 41 #[v] w fun e w' => e = .returned (.pointer none) ∧ w' = w := by
  rcases h with rfl | ⟨b, rfl, h⟩
  · go_enter Tryd.func41, Tryd.ntmps41
    go_wp2
    go_ret
    exact ⟨rfl, rfl⟩
  · have c0 : w.cell? ⟨b, 0, none⟩ = some (.map none) := zcs w b 0 h
    go_enter Tryd.func41, Tryd.ntmps41
    go_wp2
    go_ret
    exact ⟨rfl, rfl⟩
theorem text_z {w : World} {v : Value} (h : Zs w v) : Calls Tryd.prog 39 #[v] w fun e w' => e = .returned (.string (ByteArray.mk #[])) ∧ w' = w := by
  rcases h with rfl | ⟨b, rfl, h⟩
  · go_enter Tryd.func39, Tryd.ntmps39
    go_wp2
    go_ret
    exact ⟨rfl, rfl⟩
  · have c0 : w.cell? ⟨b, 0, none⟩ = some (.map none) := zcs w b 0 h
    go_enter Tryd.func39, Tryd.ntmps39
    go_wp2
    go_ret
    exact ⟨rfl, rfl⟩
end Go.Proofs.YtemdmpgekegfhaaDoor
