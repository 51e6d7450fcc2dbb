/- Lists of transactions that a row hands in, with their bulk. -/
import Derived.Test.YtemdmpgekegfhaaOpenB
namespace Go.Proofs.Ytemdmpgekegfhaa
open Go.RowKit
set_option linter.all false
set_option maxRecDepth 10000

def kLI_sz (l : List Int) : Nat := (l.map fun _ => 1).sum + 1
def szT (t : Txn) : Nat := kLO_sz t.ops + 1
theorem kT_opensB : OpensB Try.prog kT 30 szT := by
  intro H enc W fuel cs x h hw
  obtain ⟨xs, n, rfl, rfl, hl, hlen, hf⟩ := DataW.trod_struct Try.underlying30 h
  have hl5 : cs.length = 5 := hl.trans (by kernel_rfl)
  have hx5 : xs.length = 5 := hlen
  match cs, hl5, xs, hx5 with
  | [c0, c1, c2, c3, c4], _, [x0, x1, x2, x3, x4], _ =>
    have f0 := hf 0 _ rfl
    have f1 := hf 1 _ rfl
    have f2 := hf 2 _ rfl
    have f3 := hf 3 _ rfl
    have f4 := hf 4 _ rfl
    have hw' : ∀ (j : Nat) (t : TypeId) (d : DataW H), ([3, 3, 3, 3, 28] : List TypeId)[j]? = some t → [x0.1, x1.1, x2.1, x3.1, x4.1][j]? = some d → ∀ n ∈ d.weights Try.prog t, n ≤ reachBytes := fun j t d ht hd q hq => by
      refine hw q ?_
      have := DataW.weights_mem_each ht hd q hq
      simp only [DataW.weights, Try.underlying30]
      exact this
    obtain ⟨y0, k0⟩ := opens_int (e := 3) Try.underlying3 H enc W n [c0] x0 f0 (hw' 0 _ _ rfl rfl)
    obtain ⟨y1, k1⟩ := opens_int (e := 3) Try.underlying3 H enc W n [c1] x1 f1 (hw' 1 _ _ rfl rfl)
    obtain ⟨y2, k2⟩ := opens_int (e := 3) Try.underlying3 H enc W n [c2] x2 f2 (hw' 2 _ _ rfl rfl)
    obtain ⟨y3, k3⟩ := opens_int (e := 3) Try.underlying3 H enc W n [c3] x3 f3 (hw' 3 _ _ rfl rfl)
    obtain ⟨y4, k4, b4⟩ := kLO_opensB H enc W n [c4] x4 f4 (hw' 4 _ _ rfl rfl)
    refine ⟨⟨y0, y1, y2, y3, y4⟩, ⟨[c0], [c1, c2, c3, c4], rfl, k0, [c1], [c2, c3, c4], rfl, k1, [c2], [c3, c4], rfl, k2, [c3], [c4], rfl, k3, k4⟩, ?_⟩
    unfold szT
    simp only [Rows.uptoBulk, List.map_cons, List.map_nil, Rows.uptoBulkAll]
    omega
def kLT_sz (l : List Txn) : Nat := (l.map szT).sum + 1
theorem kLT_opensB : OpensB Try.prog kLT 22 kLT_sz := opensB_slice Try.underlying22 (by kernel_rfl) (by kernel_rfl) kT_opensB
theorem bulk_txns : ∀ (l : List Txn) {n : Nat}, (l.map szT).sum ≤ n → l.length ≤ n ∧ ∀ t ∈ l, t.ops.length ≤ n
  | [], _, _ => ⟨Nat.zero_le _, fun _ h => by cases h⟩
  | t :: l, n, h => by
    simp only [List.map_cons, List.sum_cons] at h
    have h1 := bulk_txns l (n := n - szT t) (by omega)
    have h2 : szT t = (t.ops.map szOp).sum + 1 + 1 := rfl
    have h3 := len_bulk t.ops
    refine ⟨by simp only [List.length_cons]; omega, fun p hp => ?_⟩
    rcases List.mem_cons.1 hp with e | e
    · subst e; omega
    · have := h1.2 p e; omega
end Go.Proofs.Ytemdmpgekegfhaa
