/- A table that no call made: nil, or the zero one. -/
import Derived.Test.YtemdmpgekegfhaaData
import Derived.Test.YtemdmpgekegfhaaRet
import Derived.WalkKit
namespace Go.Proofs.Ytemdmpgekegfhaa
open Go.RowKit
set_option linter.all false
set_option maxRecDepth 10000

def Zt (w : World) (v : Value) : Prop := v = .pointer none ∨ ∃ b, v = .pointer (some ⟨b, 0, none⟩) ∧ w.heap[b]? = some (.cells #[.slice none 0 0, .map none, .map none, .bool false] 98 (0, 0))
theorem zc (w : World) (b j : Nat) (h : w.heap[b]? = some (.cells #[.slice none 0 0, .map none, .map none, .bool false] 98 (0, 0))) : w.cell? ⟨b, j, none⟩ = (#[Value.slice none 0 0, .map none, .map none, .bool false] : Array Value)[j]? := by
  simp [World.cell?, h]
theorem lk_kind (k : ByteArray) (w : World) : (Instr.lookup 39 (.map none) (.string k) false).run Try.prog w = .ok (.int .i64 0) w := by kernel_rfl
theorem lk_wr (k : ByteArray) (n : Int) (w : World) : (Instr.lookup 96 (.map none) (.agg #[.string k, .int .i64 n]) false).run Try.prog w = .ok (.slice none 0 0) w := by kernel_rfl
theorem eqn_w (w : World) (a : Option Addr) (n c : Nat) : (binOp .eql 51 (.slice a n c) (.slice none 0 0)).run Try.prog w = .ok (.bool a.isNone) w := Lib.run_eql_slice_nil w _ _ a n c 0 0 Try.underlying51
attribute [local go_sem] lk_kind lk_wr eqn_w
theorem count_z {w : World} {v : Value} (h : Zt w v) : Calls Try.prog 22 #[v] w fun e w' => e = .returned (.int .i64 0) ∧ w' = w := by
  rcases h with rfl | ⟨b, rfl, h⟩
  · go_enter Try.func22, Try.ntmps22
    go_wp2
    go_ret
    exact ⟨rfl, rfl⟩
  · have c0 : w.cell? ⟨b, 0, none⟩ = some (.slice none 0 0) := zc w b 0 h
    go_enter Try.func22, Try.ntmps22
    go_wp2
    go_ret
    exact ⟨rfl, rfl⟩
theorem unique_z {w : World} {v : Value} (h : Zt w v) : Calls Try.prog 17 #[v] w fun e w' => e = .returned (.bool false) ∧ w' = w := by
  rcases h with rfl | ⟨b, rfl, h⟩
  · go_enter Try.func17, Try.ntmps17
    go_wp2
    go_ret
    exact ⟨rfl, rfl⟩
  · have c3 : w.cell? ⟨b, 3, none⟩ = some (.bool false) := zc w b 3 h
    go_enter Try.func17, Try.ntmps17
    go_wp2
    go_ret
    exact ⟨rfl, rfl⟩
theorem kind_z {w : World} {v : Value} (h : Zt w v) (k : ByteArray) : Calls Try.prog 56 #[v, .string k] w fun e w' => e = .returned (.int .i64 0) ∧ w' = w := by
  rcases h with rfl | ⟨b, rfl, h⟩
  · go_enter Try.func56, Try.ntmps56
    go_wp2
    go_ret
    exact ⟨rfl, rfl⟩
  · have c1 : w.cell? ⟨b, 1, none⟩ = some (.map none) := zc w b 1 h
    go_enter Try.func56, Try.ntmps56
    go_wp2
    go_ret
    exact ⟨rfl, rfl⟩
theorem writers_z {w : World} {v : Value} (h : Zt w v) (k : ByteArray) (n : Int) : Calls Try.prog 29 #[v, .string k, .int .i64 n] w fun e w' => e = .returned (.slice none 0 0) ∧ w' = w := by
  rcases h with rfl | ⟨b, rfl, h⟩
  · go_enter Try.func29, Try.ntmps29
    go_wp2
    go_ret
    exact ⟨rfl, rfl⟩
  · have c2 : w.cell? ⟨b, 2, none⟩ = some (.map none) := zc w b 2 h
    go_enter Try.func29, Try.ntmps29
    go_wp2
    go_ret
    exact ⟨rfl, rfl⟩
theorem zt_alloc {w : World} {v : Value} (h : Zt w v) (o : Obj) : Zt (w.alloc o) v := by
  rcases h with rfl | ⟨b, rfl, h⟩
  · exact .inl rfl
  · refine .inr ⟨b, rfl, ?_⟩
    show (w.heap.push o)[b]? = _
    rw [Array.getElem?_push_lt (Array.getElem?_eq_some_iff.1 h).1, ← Array.getElem?_eq_getElem]
    exact h
theorem txn_z {w : World} {v : Value} (h : Zt w v) (n : Int) : Calls Try.prog 58 #[v, .int .i64 n] w fun e w' => e = .returned (.agg #[.int .i64 0, .int .i64 0, .int .i64 0, .int .i64 0, .slice none 0 0]) ∧ w' = w.alloc (.cells #[.int .i64 0, .int .i64 0, .int .i64 0, .int .i64 0, .slice none 0 0] 30) := by
  have hC := fun (w : World) h => count_z (w := w) (v := v) h
  have hr : ∀ (ts : Array Value), ts.getD 4 undef = .pointer (some ⟨w.heap.size, 0, none⟩) → RVok Try.prog ts (w.alloc (.cells #[.int .i64 0, .int .i64 0, .int .i64 0, .int .i64 0, .slice none 0 0] 30)) (.cell 4 30) (.agg #[.int .i64 0, .int .i64 0, .int .i64 0, .int .i64 0, .slice none 0 0]) := fun ts hts =>
    rv_cellN 0 (((Holds.start w).alloc (.cells #[.int .i64 0, .int .i64 0, .int .i64 0, .int .i64 0, .slice none 0 0] 30))) rfl hts (Try.isAgg30 _) (Try.sizeOf30 _)
  by_cases hn : n < 0
  · go_enter Try.func58, Try.ntmps58
    go_wp2
    exact ret1 rfl (hr _ rfl) rfl ⟨rfl, rfl⟩
  · go_enter Try.func58, Try.ntmps58
    go_wp2_with (go_at_call 22; refine (hC _ (zt_alloc h _)).mono ?_; rintro e w' ⟨rfl, rfl⟩)
    exact ret1 rfl (hr _ rfl) rfl ⟨rfl, rfl⟩
end Go.Proofs.Ytemdmpgekegfhaa
