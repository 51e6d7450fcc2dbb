/- Pairs: who stands in them; flat kinds. -/
import Derived.Test.YtkppfcfnpajpbaaRtFull
import Derived.Test.YtkppfcfnpajpbaaSparseOne
namespace Go.Proofs.Ytkppfcfnpajpbaa
open Go.RowKit
set_option linter.all false

theorem mem_rowTo {p : Nat → Bool} {i k : Nat} {x : Int × Int} (h : x ∈ rowTo p i k) : ∃ j, j < k ∧ p j = true ∧ x = ((i : Int), (j : Int)) := by
  unfold rowTo at h
  obtain ⟨j, hj, rfl⟩ := List.mem_map.1 h
  obtain ⟨h1, h2⟩ := List.mem_filter.1 hj
  exact ⟨j, List.mem_range.1 h1, h2, rfl⟩
theorem mem_prsTo {p : Nat → Nat → Bool} {n m : Nat} {x : Int × Int} (h : x ∈ prsTo p n m) : ∃ i j, i < m ∧ j < n ∧ p i j = true ∧ x = ((i : Int), (j : Int)) := by
  unfold prsTo at h
  obtain ⟨i, hi, hx⟩ := List.mem_flatMap.1 h
  obtain ⟨j, h1, h2, h3⟩ := mem_rowTo hx
  exact ⟨i, j, List.mem_range.1 hi, h1, h2, h3⟩
theorem mem_pairs {xs : List Txn} {x : Int × Int} (h : x ∈ full xs ++ sparse xs) : ∃ i j, ∃ (hi : i < xs.length) (hj : j < xs.length), x = ((i : Int), (j : Int)) ∧ xs[i].state = 1 ∧ xs[j].state = 1 ∧ 0 ≤ xs[i].to := by
  have key : ∃ i j, i < xs.length ∧ j < xs.length ∧ bfr xs i j = true ∧ x = ((i : Int), (j : Int)) := by
    rcases List.mem_append.1 h with h | h
    · exact mem_prsTo h
    · obtain ⟨i, j, h1, h2, h3, h4⟩ := mem_prsTo h
      exact ⟨i, j, h1, h2, (Bool.and_eq_true_iff.1 h3).1, h4⟩
  obtain ⟨i, j, h1, h2, h3, h4⟩ := key
  refine ⟨i, j, h1, h2, h4, ?_⟩
  unfold bfr before bef at h3
  rw [List.getD_eq_getElem?_getD, List.getD_eq_getElem?_getD, List.getElem?_eq_getElem h1, List.getElem?_eq_getElem h2] at h3
  simp only [Option.getD_some, Bool.and_eq_true, decide_eq_true_eq] at h3
  exact ⟨h3.1.1.1, h3.1.1.2, h3.1.2⟩
theorem small_len (xs : List Txn) : (small xs).length ≤ 40 := by unfold small; rw [List.length_map, List.length_take]; omega
theorem full_len (xs : List Txn) : (full xs).length ≤ xs.length * xs.length := prsTo_len ..
theorem sparse_len (xs : List Txn) : (sparse xs).length ≤ xs.length * xs.length := prsTo_len ..

namespace Kin
variable {α : Type} {d d' : Kin α} {E : World} {s : SH} {L : List HP} {w : World}
theorem RowM.imp (hz : d.sz = d'.sz) (hf : ∀ x cs h, d.M x cs h → d'.M x cs h) : ∀ {xs : List α} {cs : List Value} {h : SH}, d.RowM xs cs h → d'.RowM xs cs h
  | [], _, _, k => k
  | x :: xs, _, _, ⟨c, r, e, k⟩ => ⟨c, r, e, star_mono (hf x c) (fun _ k => RowM.imp hz hf k) k⟩
theorem Osl.imp (hz : d.sz = d'.sz) (hb : d.by_ = d'.by_) (he : d.e = d'.e) (hf : ∀ x cs h, d.M x cs h → d'.M x cs h) {v : Value} {xs : List α} (H : Holds E s (d.Osl v xs :: L) w) : Holds E s (d'.Osl v xs :: L) w := by
  refine H.map fun h k => ?_
  rcases k with k | ⟨b, cap, cur, ⟨e1, e2, e3, e4, e5⟩, k⟩
  · exact .inl k
  · refine .inr ⟨b, cap, cur, ⟨e1, e2, e3, by rw [← hz]; exact e4, by rw [← hb]; exact e5⟩, ?_⟩
    rw [← he, ← hz]
    exact star_mono (fun _ a => a) (fun _ k => RowM.imp hz hf k) k
end Kin
theorem kPr_flat {s : SH} (x : Int × Int) (cs : List Value) (h : SH) (k : kPr.M x cs h) : (kPr.sh s).M x cs h := by
  obtain ⟨c, r, e, h1, h2, ⟨⟨e1, k1⟩, m1⟩, ⟨⟨e2, k2⟩, m2⟩, -, rfl⟩ := k
  exact ⟨⟨c, r, e, ⟨e1, k1⟩, ⟨e2, k2⟩⟩, by rw [uni_emp_left m1]; exact m2⟩
theorem kPr_unflat {s : SH} (x : Int × Int) (cs : List Value) (h : SH) (k : (kPr.sh s).M x cs h) : kPr.M x cs h := by
  obtain ⟨⟨c, r, e, ⟨e1, k1⟩, ⟨e2, k2⟩⟩, m⟩ := k
  exact ⟨c, r, e, emp_star_pure ⟨e1, k1⟩ ⟨⟨e2, k2⟩, m⟩⟩
end Go.Proofs.Ytkppfcfnpajpbaa
