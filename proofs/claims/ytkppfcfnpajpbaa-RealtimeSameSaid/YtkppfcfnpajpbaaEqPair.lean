/- Equality of two pairs. -/
import Derived.Test.YtkppfcfnpajpbaaPairs
import Derived.ChangeKeysEq
namespace Go.Proofs.Ytkppfcfnpajpbaa
open Go.RowKit
set_option linter.all false

theorem kPr_open {s : SH} {x : Int × Int} {cs : List Value} (h : kPr.K s x cs) : cs = [.int .i64 x.1, .int .i64 x.2] ∧ Kin.inI64 x.1 ∧ Kin.inI64 x.2 := by
  obtain ⟨_, _, rfl, ⟨rfl, h1⟩, ⟨rfl, h2⟩⟩ := h
  exact ⟨rfl, h1, h2⟩
theorem eqIn_pair (w : World) (d : Nat) (a b x y : Int) : (Op.equalIn (d + 2) 32 (.agg #[.int .i64 a, .int .i64 b]) (.agg #[.int .i64 x, .int .i64 y])).run Try.prog w = .ok (a == x && b == y) w := by
  have hu : Try.prog.underlying 3 = some (.int .i64) := Try.underlying3
  rw [run_equalIn_array w (d + 1) _ _ Try.underlying32 Try.type3]
  have hc : Try.prog.cellsOf 3 = 1 := by kernel_rfl
  rw [hc]
  have hp : ∀ (i : Nat) (u v z : Value), z = (if i = 0 then u else v) → i < 2 → (part 3 #[u, v] (i * 1)).run Try.prog w = .ok z w := fun i u v z hz hi => by
    subst hz
    match i, hi with
    | 0, _ => simp [part, isAgg, run_underlying hu]
    | 1, _ => simp [part, isAgg, run_underlying hu]
  have he : ∀ p q : Int, (Op.equalIn (d + 1) 3 (.int .i64 p) (.int .i64 q)).run Try.prog w = .ok (p == q) w := fun p q => run_equalIn_int w d _ .i64 .i64 p q hu
  simp only [List.range_succ, List.range_zero, List.nil_append, List.cons_append, Op.eqItems, Sem.run_bind]
  rw [hp 0 _ _ _ rfl (by omega)]; simp only [Result.andThen_ok, if_true]
  rw [hp 0 _ _ _ rfl (by omega)]; simp only [Result.andThen_ok, if_true]
  rw [he]; simp only [Result.andThen_ok]
  cases h : (a == x)
  · simp
  · simp only [Bool.not_true, Bool.false_eq_true, if_false]
    rw [Sem.run_bind, hp 1 _ _ _ rfl (by omega)]; simp only [Result.andThen_ok]
    rw [Sem.run_bind, hp 1 _ _ _ rfl (by omega)]; simp only [Result.andThen_ok]
    rw [Sem.run_bind]
    show ((Op.equalIn (d + 1) 3 (.int .i64 b) (.int .i64 y)).run Try.prog w).andThen _ = _
    rw [he]; simp only [Result.andThen_ok]
    cases h : (b == y) <;> simp
@[go_sem] theorem eqIn_pair' (w : World) (a b x y : Int) : (Op.equalIn 10000 32 (.agg #[.int .i64 a, .int .i64 b]) (.agg #[.int .i64 x, .int .i64 y])).run Try.prog w = .ok (a == x && b == y) w := eqIn_pair w 9998 a b x y
@[go_sem] theorem neq_pair (w : World) (a b c d : Int) : (binOp .neq 32 (.agg #[.int .i64 a, .int .i64 b]) (.agg #[.int .i64 c, .int .i64 d])).run Try.prog w = .ok (.bool (!(a == c && b == d))) w := by
  rw [run_neq_struct, eqIn_pair w 9998]; rfl
@[go_sem] theorem eql_pair (w : World) (a b c d : Int) : (binOp .eql 32 (.agg #[.int .i64 a, .int .i64 b]) (.agg #[.int .i64 c, .int .i64 d])).run Try.prog w = .ok (.bool (a == c && b == d)) w := by
  rw [run_eql_struct, eqIn_pair w 9998]; rfl
end Go.Proofs.Ytkppfcfnpajpbaa
