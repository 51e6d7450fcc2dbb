/- Sparse pairs by definition: no third one stands between. Plain lists. -/
import Derived.Test.YtkppfcfnpajpbaaSparseOne
namespace Go.Proofs.Ytkppfcfnpajpbaa
set_option linter.all false

/-- One of the first m transactions stands between i and k. -/
def btw (xs : List Txn) (i k : Nat) : Nat → Bool
  | 0 => false
  | m + 1 => btw xs i k m || (bfr xs i m && bfr xs m k)
theorem btw_iff (xs : List Txn) (i k : Nat) : ∀ m, btw xs i k m = true ↔ ∃ c, c < m ∧ bfr xs i c = true ∧ bfr xs c k = true
  | 0 => by simp [btw]
  | m + 1 => by
    simp only [btw, Bool.or_eq_true, Bool.and_eq_true, btw_iff xs i k m]
    constructor
    · rintro (⟨c, h1, h2⟩ | h)
      · exact ⟨c, by omega, h2⟩
      · exact ⟨m, by omega, h⟩
    · rintro ⟨c, h1, h2⟩
      by_cases e : c = m
      · subst e; exact .inr h2
      · exact .inl ⟨c, by omega, h2⟩
def toOf (xs : List Txn) (k : Nat) : Int := (xs.getD k default).to
theorem bfr_iff (xs : List Txn) (i k : Nat) : bfr xs i k = true ↔ (xs.getD i default).state = 1 ∧ (xs.getD k default).state = 1 ∧ 0 ≤ toOf xs i ∧ toOf xs i < (xs.getD k default).from_ := by
  unfold bfr before bef toOf
  simp only [Bool.and_eq_true, decide_eq_true_eq, and_assoc]
theorem best_ok (xs : List Txn) (i : Nat) : ∀ m, match bestTo xs i m with
    | none => ∀ c, c < m → bfr xs i c = true → ¬ 0 ≤ toOf xs c
    | some j => bfr xs i j = true ∧ 0 ≤ toOf xs j ∧ ∀ c, c < m → bfr xs i c = true → 0 ≤ toOf xs c → toOf xs j ≤ toOf xs c
  | 0 => by simp [bestTo]
  | m + 1 => by
    have ih := best_ok xs i m
    unfold bestTo
    by_cases hc : (bfr xs i m && decide (0 ≤ (xs.getD m default).to) && better xs m (bestTo xs i m)) = true
    · rw [if_pos hc]
      simp only [Bool.and_eq_true, decide_eq_true_eq] at hc
      refine ⟨hc.1.1, hc.1.2, fun c hlt h1 h2 => ?_⟩
      by_cases e : c = m
      · subst e; exact Int.le_refl _
      · have hcm : c < m := by omega
        have hb := hc.2
        revert ih hb
        cases bestTo xs i m with
        | none => intro ih _; exact absurd h2 (ih c hcm h1)
        | some j =>
          intro ih hb
          have := ih.2.2 c hcm h1 h2
          simp only [better, decide_eq_true_eq] at hb
          unfold toOf at *
          omega
    · rw [if_neg hc]
      revert ih hc
      cases bestTo xs i m with
      | none =>
        intro ih hc c hlt h1 h2
        by_cases e : c = m
        · subst e
          apply hc
          simp only [better, Bool.and_eq_true, decide_eq_true_eq]
          exact ⟨⟨h1, h2⟩, trivial⟩
        · exact ih c (by omega) h1 h2
      | some j =>
        intro ih hc
        refine ⟨ih.1, ih.2.1, fun c hlt h1 h2 => ?_⟩
        by_cases e : c = m
        · subst e
          have h3 : ¬ toOf xs c < toOf xs j := fun h => hc (by
            simp only [better, Bool.and_eq_true, decide_eq_true_eq]
            exact ⟨⟨h1, h2⟩, h⟩)
          omega
        · exact ih.2.2 c (by omega) h1 h2
theorem spq_btw (xs : List Txn) (i k : Nat) : (bfr xs i k && spq xs i k) = (bfr xs i k && !(btw xs i k xs.length)) := by
  cases h : bfr xs i k with
  | false => rfl
  | true =>
    simp only [Bool.true_and]
    have hk := (bfr_iff xs i k).1 h
    have hb := best_ok xs i xs.length
    have hlt := bestTo_lt xs i xs.length
    unfold spq
    revert hb hlt
    cases bestTo xs i xs.length with
    | none =>
      intro hb _
      simp only []
      have : btw xs i k xs.length = false := by
        rw [Bool.eq_false_iff]
        intro hbt
        obtain ⟨c, h1, h2, h3⟩ := (btw_iff xs i k _).1 hbt
        exact hb c h1 h2 ((bfr_iff xs c k).1 h3).2.2.1
      rw [this]; rfl
    | some j =>
      intro hb hlt
      simp only []
      congr 1
      rw [Bool.eq_iff_iff, btw_iff]
      constructor
      · intro hj
        exact ⟨j, hlt j rfl, hb.1, hj⟩
      · rintro ⟨c, h1, h2, h3⟩
        have h4 := (bfr_iff xs c k).1 h3
        have h5 := hb.2.2 c h1 h2 h4.2.2.1
        have h6 := (bfr_iff xs i j).1 hb.1
        exact (bfr_iff xs j k).2 ⟨h6.2.1, h4.2.1, hb.2.1, by omega⟩
/-- The reference's list is the program's. -/
theorem refSparse_eq (xs : List Txn) : prsTo (fun i k => bfr xs i k && !(btw xs i k xs.length)) xs.length xs.length = sparse xs := by
  unfold sparse
  congr 1
  funext i k
  exact (spq_btw xs i k).symm
end Go.Proofs.Ytkppfcfnpajpbaa
