/- The keys of the inner layer's maps: a list, or a register, of a key. -/
import Derived.Test.YticpadjheelipaaMap
import Derived.Test.YticpadjheelipaaData
import Derived.DeepKeys4
namespace Go.Proofs.Yticpadjheelipaa
open Go.RowKit
set_option linter.all false
set_option maxRecDepth 10000

structure Thing where
  list : Bool
  key : ByteArray
  deriving DecidableEq
def encT (t : Thing) : Value := .agg #[.bool t.list, .string t.key]
def okT (t : Thing) : Prop := t.key.size ≤ maxLen
theorem thing_laid : laidOutB Try.prog = true := by kernel_rfl
theorem thing_lits (b : Bool) (s : ByteArray) (h : s.size ≤ maxLen) : Try.prog.keyLits (Try.prog.types.size + 1) 73 [.bool b, .string s] = some [.bool b, .string s.data.toList] := by
  have h0 : 0 < Try.prog.types.size := of_decide_eq_true (by kernel_rfl)
  obtain ⟨n, hn⟩ : ∃ n, Try.prog.types.size = n + 1 := ⟨Try.prog.types.size - 1, by omega⟩
  rw [hn]
  have hb : Try.prog.keyLits (n + 1) 4 [.bool b] = some [.bool b] := by
    unfold Program.keyLits
    rw [Try.underlying4]
  have hs : Try.prog.keyLits (n + 1) 9 [.string s] = some [.string s.data.toList] := by
    unfold Program.keyLits
    rw [Try.underlying9]
    exact if_pos h
  have hc : Try.prog.cellsOf 73 = 2 := by kernel_rfl
  have h1 : Try.prog.cellsOf 4 = 1 := by kernel_rfl
  have h2 : Try.prog.cellsOf 9 = 1 := by kernel_rfl
  unfold Program.keyLits
  rw [Try.underlying73]
  simp only []
  rw [if_pos ⟨by rw [hc]; rfl, by kernel_rfl⟩]
  simp only [List.mapM_cons, List.mapM_nil, h1, h2, List.drop_zero, List.drop_succ_cons, List.take_succ_cons, List.take_zero, hb, hs]
  rfl
theorem mk_thing : MK Try.prog 73 encT okT where
  K := Maps.Keyed.of_law (deep_law_laid thing_laid (m := 3) (by omega) (of_decide_eq_true (by kernel_rfl)) (by kernel_rfl) (by rw [Try.underlying73]))
  lit := fun a ha => by
    refine ⟨.string (keyBytes [.bool a.list, .string a.key.data.toList]), ?_⟩
    unfold keyOf
    rw [Try.underlying73]
    have hk : Try.prog.keyType 73 = true := by kernel_rfl
    have hf : Value.formed Try.prog 73 (encT a) = true := by kernel_rfl
    simp only [hk, hf, Bool.and_self, if_true]
    show ((Try.prog.keyLits (Try.prog.types.size + 1) 73 [.bool a.list, .string a.key]).map fun ls => Lit.string (keyBytes ls)) = _
    rw [thing_lits _ _ ha]; rfl
  inj := fun a b _ _ h => by
    cases a; cases b
    simp only [encT, Value.agg.injEq, Array.mk.injEq, List.cons.injEq, Value.bool.injEq, Value.string.injEq, and_true] at h
    obtain ⟨rfl, rfl⟩ := h; rfl
end Go.Proofs.Yticpadjheelipaa
