/- Of transactions one behind the other: which pairs there are. Plain lists and numbers. -/
import Derived.Test.YtkppfcfnpajpbaaSparseOne
namespace Go.Proofs.Ytkppfcfnpajpbaa
set_option linter.all false

def chainT (i : Nat) : Txn := ⟨0, 1, 2 * i, 2 * i + 1, []⟩
def chain (n : Nat) : List Txn := (List.range n).map chainT
theorem chain_len (n : Nat) : (chain n).length = n := by simp [chain]
theorem chain_get (n i : Nat) (h : i < n) : (chain n).getD i default = chainT i := by
  simp [chain, List.getD_eq_getElem?_getD, h]
theorem chain_bfr (n i k : Nat) (hi : i < n) (hk : k < n) : bfr (chain n) i k = decide (i < k) := by
  unfold bfr before bef
  rw [chain_get n i hi, chain_get n k hk]
  simp only [chainT, decide_true, Bool.true_and]
  by_cases h : i < k
  · have h1 : (0 : Int) ≤ 2 * (i : Int) + 1 := by omega
    have h2 : 2 * (i : Int) + 1 < 2 * (k : Int) := by omega
    simp [h, h1, h2]
  · have h2 : ¬ (2 * (i : Int) + 1 < 2 * (k : Int)) := by omega
    simp [h, h2]
theorem chain_best (n i : Nat) (hi : i < n) : ∀ k, k ≤ n → bestTo (chain n) i k = if i + 1 < k then some (i + 1) else none
  | 0, _ => rfl
  | k + 1, hk => by
    have ih := chain_best n i hi k (by omega)
    unfold bestTo
    rw [chain_bfr n i k hi (by omega), chain_get n k (by omega), ih]
    have h0 : decide (0 ≤ (chainT k).to) = true := decide_eq_true (show (0 : Int) ≤ 2 * (k : Int) + 1 by omega)
    rw [h0]
    by_cases h1 : i + 1 < k
    · rw [if_pos h1, if_pos (show i + 1 < k + 1 by omega)]
      have : better (chain n) k (some (i + 1)) = false := by
        simp only [better]
        rw [chain_get n k (by omega), chain_get n (i + 1) (by omega)]
        exact decide_eq_false (show ¬ 2 * (k : Int) + 1 < 2 * ((i + 1 : Nat) : Int) + 1 by omega)
      rw [this]; simp
    · rw [if_neg h1]
      by_cases h2 : i + 1 = k
      · subst h2
        rw [if_pos (show i + 1 < i + 1 + 1 by omega)]
        simp [better]
      · rw [if_neg (show ¬ i + 1 < k + 1 by omega)]
        have : decide (i < k) = false := by simp; omega
        rw [this]; simp
theorem chain_spq (n i k : Nat) (hi : i < n) (hk : k < n) : (bfr (chain n) i k && spq (chain n) i k) = decide (k = i + 1) := by
  rw [chain_bfr n i k hi hk]
  unfold spq
  rw [chain_len, chain_best n i hi n (Nat.le_refl _)]
  by_cases h : i + 1 < n
  · rw [if_pos h]
    simp only []
    rw [chain_bfr n (i + 1) k h hk]
    by_cases e : k = i + 1
    · subst e; simp
    · by_cases e2 : i < k
      · have : i + 1 < k := by omega
        simp [e, e2, this]
      · simp [e, e2]
  · rw [if_neg h]
    have : ¬ i < k := by omega
    simp [this]; omega
theorem rowTo_congr {p q : Nat → Bool} {i k : Nat} (h : ∀ j, j < k → p j = q j) : rowTo p i k = rowTo q i k := by
  unfold rowTo
  congr 1
  apply List.filter_congr
  intro j hj; exact h j (List.mem_range.1 hj)
theorem rowTo_eq (i m : Nat) : ∀ k, rowTo (fun j => decide (j = m)) i k = if m < k then [((i : Int), (m : Int))] else []
  | 0 => by simp [rowTo]
  | k + 1 => by
    rw [rowTo_succ, rowTo_eq i m k]
    by_cases h : m < k
    · rw [if_pos h, if_pos (show m < k + 1 by omega)]
      have : k ≠ m := by omega
      simp [this]
    · rw [if_neg h]
      by_cases e : k = m
      · subst e; simp
      · rw [if_neg (show ¬ m < k + 1 by omega)]; simp [e]
theorem chain_sparse_to (n : Nat) : ∀ i, i ≤ n → prsTo (fun i k => bfr (chain n) i k && spq (chain n) i k) n i = (List.range (min i (n - 1))).map fun (i : Nat) => ((i : Int), (i : Int) + 1)
  | 0, _ => by simp [prsTo]
  | i + 1, hi => by
    rw [prsTo_succ, chain_sparse_to n i (by omega)]
    have e : rowTo (fun k => bfr (chain n) i k && spq (chain n) i k) i n = if i + 1 < n then [((i : Int), ((i + 1 : Nat) : Int))] else [] := by
      rw [← rowTo_eq i (i + 1) n]
      exact rowTo_congr fun j hj => chain_spq n i j (by omega) hj
    rw [e]
    by_cases h : i + 1 < n
    · rw [if_pos h, Nat.min_eq_left (by omega), Nat.min_eq_left (by omega), List.range_succ, List.map_append]
      simp
    · rw [if_neg h]
      have : min i (n - 1) = min (i + 1) (n - 1) := by omega
      rw [this]; simp
theorem chain_sparse (n : Nat) : sparse (chain n) = (List.range (n - 1)).map fun (i : Nat) => ((i : Int), (i : Int) + 1) := by
  unfold sparse
  rw [chain_len, chain_sparse_to n n (Nat.le_refl _)]
  congr 2; omega
theorem rowTo_lt_len (i : Nat) : ∀ k, (rowTo (fun j => decide (i < j)) i k).length = k - (i + 1)
  | 0 => by simp [rowTo]
  | k + 1 => by
    rw [rowTo_succ, List.length_append, rowTo_lt_len i k]
    by_cases h : i < k
    · simp [h]; omega
    · simp [h]; omega
theorem chain_full_to (n : Nat) : ∀ i, i ≤ n → 2 * (prsTo (bfr (chain n)) n i).length = i * (2 * n - 1 - i)
  | 0, _ => by simp [prsTo]
  | i + 1, hi => by
    rw [prsTo_succ, List.length_append, Nat.mul_add, chain_full_to n i (by omega)]
    have e : rowTo (bfr (chain n) i) i n = rowTo (fun j => decide (i < j)) i n := rowTo_congr fun j hj => chain_bfr n i j (by omega) hj
    rw [e, rowTo_lt_len]
    obtain ⟨m, rfl⟩ : ∃ m, n = m + i + 1 := ⟨n - i - 1, by omega⟩
    have e1 : 2 * (m + i + 1) - 1 - i = 2 * m + i + 1 := by omega
    have e2 : m + i + 1 - (i + 1) = m := by omega
    have e3 : 2 * (m + i + 1) - 1 - (i + 1) = 2 * m + i := by omega
    rw [e1, e2, e3, Nat.add_mul]
    have h1 : i * (2 * m + i + 1) = i * (2 * m + i) + i * 1 := Nat.mul_add ..
    omega
theorem chain_full (n : Nat) : ((full (chain n)).length : Int) = (n : Int) * ((n : Int) - 1) / 2 := by
  unfold full
  rw [chain_len]
  have h := chain_full_to n n (Nat.le_refl _)
  cases n with
  | zero => simp [prsTo]
  | succ m =>
    have e : 2 * (m + 1) - 1 - (m + 1) = m := by omega
    rw [e] at h
    have h2 : (2 : Int) * ((prsTo (bfr (chain (m + 1))) (m + 1) (m + 1)).length : Int) = ((m + 1 : Nat) : Int) * (m : Int) := by
      have := congrArg (fun x : Nat => (x : Int)) h
      simpa using this
    have e2 : ((m + 1 : Nat) : Int) * (((m + 1 : Nat) : Int) - 1) = ((m + 1 : Nat) : Int) * (m : Int) := by
      congr 1; omega
    rw [e2, ← h2]; omega
end Go.Proofs.Ytkppfcfnpajpbaa
