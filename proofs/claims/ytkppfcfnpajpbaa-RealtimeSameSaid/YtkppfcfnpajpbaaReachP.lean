/- What is reached by pairs: a matrix that is closed step by step. Plain functions. -/
import Derived.Test.YtkppfcfnpajpbaaTellsP
import Derived.Test.YtkppfcfnpajpbaaRight
namespace Go.Proofs.Ytkppfcfnpajpbaa
set_option linter.all false

def Mat := Nat → Nat → Bool
def Mat.upd (M : Mat) (i j : Nat) (v : Bool) : Mat := fun a b => if a = i ∧ b = j then v else M a b
/-- From one to the other by steps of S, over places below k. -/
inductive Pth (S : Mat) (k : Nat) : Nat → Nat → Prop where
  | base {i j : Nat} : S i j = true → Pth S k i j
  | via {i j : Nat} (m : Nat) : m < k → Pth S k i m → Pth S k m j → Pth S k i j
theorem Pth.succ {S : Mat} {k i j : Nat} (h : Pth S (k + 1) i j) : Pth S k i j ∨ (Pth S k i k ∧ Pth S k k j) := by
  induction h with
  | base h => exact .inl (.base h)
  | @via i j m hm h1 h2 ih1 ih2 =>
    by_cases e : m = k
    · subst e
      refine .inr ⟨?_, ?_⟩
      · rcases ih1 with h | h
        · exact h
        · exact h.1
      · rcases ih2 with h | h
        · exact h
        · exact h.2
    · have hk : m < k := by omega
      rcases ih1 with a | a
      · rcases ih2 with b | b
        · exact .inl (.via m hk a b)
        · exact .inr ⟨.via m hk a b.1, b.2⟩
      · rcases ih2 with b | b
        · exact .inr ⟨a.1, .via m hk a.2 b⟩
        · exact .inr ⟨a.1, b.2⟩
/-- How far the closing has come: step k, row i, place j. -/
structure Clo (n : Nat) (S T : Mat) (k i j : Nat) (M : Mat) : Prop where
  sound : ∀ a b, a < n → b < n → M a b = true → T a b = true
  old : ∀ a b, a < n → b < n → Pth S k a b → M a b = true
  rows : ∀ a b, a < i → a < n → b < n → Pth S (k + 1) a b → M a b = true
  cols : ∀ b, b < j → b < n → i < n → Pth S (k + 1) i b → M i b = true
structure Trn (n : Nat) (T : Mat) : Prop where
  go : ∀ a b c, a < n → b < n → c < n → T a b = true → T b c = true → T a c = true
theorem Clo.step {n : Nat} {S T M : Mat} {k i j : Nat} (ht : Trn n T) (hk : k < n) (hi : i < n) (hj : j < n) (h : Clo n S T k i j M) : Clo n S T k i (j + 1) (M.upd i j (M i j || (M i k && M k j))) := by
  have up : ∀ a b, M a b = true → (M.upd i j (M i j || (M i k && M k j))) a b = true := fun a b hab => by
    unfold Mat.upd
    split
    · rename_i e; obtain ⟨rfl, rfl⟩ := e; rw [hab]; rfl
    · exact hab
  refine ⟨fun a b ha hb hM => ?_, fun a b ha hb hp => up a b (h.old a b ha hb hp), fun a b hai ha hb hp => up a b (h.rows a b hai ha hb hp), fun b hb hbn _ hp => ?_⟩
  · unfold Mat.upd at hM
    split at hM
    · rename_i e
      obtain ⟨rfl, rfl⟩ := e
      simp only [Bool.or_eq_true, Bool.and_eq_true] at hM
      rcases hM with hM | hM
      · exact h.sound _ _ ha hb hM
      · exact ht.go _ _ _ ha hk hb (h.sound _ _ ha hk hM.1) (h.sound _ _ hk hb hM.2)
    · exact h.sound _ _ ha hb hM
  · by_cases e : b = j
    · subst e
      unfold Mat.upd
      rw [if_pos ⟨rfl, rfl⟩]
      rcases hp.succ with a | a
      · rw [h.old _ _ hi hbn a]; rfl
      · rw [h.old _ _ hi hk a.1, h.old _ _ hk hbn a.2]; simp
    · exact up i b (h.cols b (by omega) hbn hi hp)
theorem Clo.row {n : Nat} {S T M : Mat} {k i j : Nat} (hj : n ≤ j) (h : Clo n S T k i j M) : Clo n S T k (i + 1) 0 M :=
  ⟨h.sound, h.old, fun a b hai ha hb hp => by
    by_cases e : a = i
    · subst e; exact h.cols b (by omega) hb ha hp
    · exact h.rows a b (by omega) ha hb hp, fun b hb => absurd hb (by omega)⟩
theorem Clo.next {n : Nat} {S T M : Mat} {k i j : Nat} (hi : n ≤ i) (h : Clo n S T k i j M) : Clo n S T (k + 1) 0 0 M :=
  ⟨h.sound, fun a b ha hb hp => h.rows a b (by omega) ha hb hp, fun a b hai => absurd hai (by omega), fun b hb => absurd hb (by omega)⟩
theorem Clo.start {n : Nat} {S T M : Mat} (hs : ∀ a b, a < n → b < n → S a b = true → T a b = true) (hM : ∀ a b, a < n → b < n → M a b = S a b) : Clo n S T 0 0 0 M :=
  ⟨fun a b ha hb h => hs a b ha hb (by rw [← hM a b ha hb]; exact h), fun a b ha hb hp => by
    cases hp with
    | base h => rw [hM a b ha hb]; exact h
    | via m hm => omega, fun a b hai => absurd hai (by omega), fun b hb => absurd hb (by omega)⟩
theorem Clo.fin {n : Nat} {S T M : Mat} {k : Nat} (hk : n ≤ k) (hT : ∀ a b, a < n → b < n → T a b = true → Pth S k a b) (h : Clo n S T k 0 0 M) : ∀ a b, a < n → b < n → M a b = T a b := fun a b ha hb => by
  rw [Bool.eq_iff_iff]
  exact ⟨h.sound a b ha hb, fun ht => h.old a b ha hb (hT a b ha hb ht)⟩
/-- The matrix of the first pairs. -/
structure Ini (n : Nat) (S : Mat) (ps : List (Int × Int)) (m : Nat) (M : Mat) : Prop where
  sound : ∀ a b, a < n → b < n → M a b = true → S a b = true
  all : ∀ a b, a < n → b < n → ((a : Int), (b : Int)) ∈ ps.take m → M a b = true
theorem Ini.step {n : Nat} {S M : Mat} {ps : List (Int × Int)} {m p q : Nat} (hm : m < ps.length) (hpq : ps[m] = ((p : Int), (q : Int))) (hS : S p q = true) (h : Ini n S ps m M) : Ini n S ps (m + 1) (M.upd p q true) := by
  refine ⟨fun a b ha hb hM => ?_, fun a b ha hb hmem => ?_⟩
  · unfold Mat.upd at hM
    split at hM
    · rename_i e; obtain ⟨rfl, rfl⟩ := e; exact hS
    · exact h.sound a b ha hb hM
  · unfold Mat.upd
    split
    · rfl
    · rename_i e
      rw [List.take_succ_eq_append_getElem hm, List.mem_append] at hmem
      rcases hmem with hmem | hmem
      · exact h.all a b ha hb hmem
      · rw [hpq] at hmem
        simp only [List.mem_singleton, Prod.mk.injEq] at hmem
        exact absurd ⟨by omega, by omega⟩ e
theorem Ini.zero {n : Nat} {S : Mat} {ps : List (Int × Int)} : Ini n S ps 0 fun _ _ => false :=
  ⟨fun _ _ _ _ h => (by cases h), fun _ _ _ _ h => (by simp at h)⟩
theorem Ini.fin {n : Nat} {S M : Mat} {ps : List (Int × Int)} {m : Nat} (hm : ps.length ≤ m) (hall : ∀ a b, a < n → b < n → S a b = true → ((a : Int), (b : Int)) ∈ ps) (h : Ini n S ps m M) : ∀ a b, a < n → b < n → M a b = S a b := fun a b ha hb => by
  rw [Bool.eq_iff_iff]
  exact ⟨h.sound a b ha hb, fun hs => h.all a b ha hb (by rw [List.take_of_length_le hm]; exact hall a b ha hb hs)⟩

theorem prsTo_mem {p : Nat → Nat → Bool} {n a b : Nat} (ha : a < n) (hb : b < n) (h : p a b = true) : ((a : Int), (b : Int)) ∈ prsTo p n n := by
  unfold prsTo rowTo
  refine List.mem_flatMap.2 ⟨a, List.mem_range.2 ha, List.mem_map.2 ⟨b, List.mem_filter.2 ⟨List.mem_range.2 hb, h⟩, rfl⟩⟩
/-- Of transactions whose ends are not below their beginnings. -/
theorem okay_trn {xs : List Txn} (hok : ∀ y ∈ xs, Okay y) : Trn xs.length (bfr xs) :=
  ⟨fun a b c ha hb hc h1 h2 => by
    have k1 := (bfr_iff xs a b).1 h1
    have k2 := (bfr_iff xs b c).1 h2
    have ob : Okay (xs.getD b default) := by
      rw [List.getD_eq_getElem?_getD, List.getElem?_eq_getElem hb]; exact hok _ (List.getElem_mem hb)
    have := ob.2.1
    refine (bfr_iff xs a c).2 ⟨k1.1, k2.2.1, k1.2.2.1, ?_⟩
    have h3 := k1.2.2.2
    have h4 := k2.2.2.2
    unfold toOf at *
    omega⟩
def spM (xs : List Txn) : Mat := fun i k => bfr xs i k && spq xs i k
theorem sparse_path {xs : List Txn} (hok : ∀ y ∈ xs, Okay y) : ∀ (d a b : Nat), a < xs.length → b < xs.length → ((xs.getD b default).from_ - toOf xs a).toNat ≤ d → bfr xs a b = true → Pth (spM xs) xs.length a b
  | 0, a, b, ha, hb, hd, h => by
    have := ((bfr_iff xs a b).1 h).2.2.2
    omega
  | d + 1, a, b, ha, hb, hd, h => by
    by_cases hs : spM xs a b = true
    · exact .base hs
    · have h1 := spq_btw xs a b
      unfold spM at hs
      rw [h1, h, Bool.true_and] at hs
      have h2 : btw xs a b xs.length = true := by
        cases e : btw xs a b xs.length with
        | true => rfl
        | false => rw [e] at hs; exact absurd rfl hs
      obtain ⟨c, hc, k1, k2⟩ := (btw_iff xs a b _).1 h2
      have oc : Okay (xs.getD c default) := by
        rw [List.getD_eq_getElem?_getD, List.getElem?_eq_getElem hc]; exact hok _ (List.getElem_mem hc)
      have h3 := oc.2.1
      have h4 := ((bfr_iff xs a c).1 k1).2.2.2
      have h5 := ((bfr_iff xs c b).1 k2).2.2.2
      have h6 : toOf xs c = (xs.getD c default).to := rfl
      exact .via c hc (sparse_path hok d a c ha hc (by omega) k1) (sparse_path hok d c b hc hb (by omega) k2)
theorem full_path {xs : List Txn} {k : Nat} (a b : Nat) (h : bfr xs a b = true) : Pth (bfr xs) k a b := .base h
theorem filter_le {p q : Nat → Bool} (h : ∀ k, p k = true → q k = true) : ∀ (l : List Nat), (l.filter p).length ≤ (l.filter q).length
  | [] => Nat.le_refl _
  | x :: l => by
    have ih := filter_le h l
    rw [List.filter_cons, List.filter_cons]
    cases hp : p x with
    | true => rw [if_pos rfl, h x hp, if_pos rfl]; simpa using ih
    | false =>
      simp only [Bool.false_eq_true, if_false]
      split
      · simp only [List.length_cons]; omega
      · exact ih
theorem prsTo_le {p q : Nat → Nat → Bool} (h : ∀ i k, p i k = true → q i k = true) (n : Nat) : ∀ m, (prsTo p n m).length ≤ (prsTo q n m).length
  | 0 => by simp [prsTo]
  | m + 1 => by
    rw [prsTo_succ, prsTo_succ, List.length_append, List.length_append]
    have h1 := prsTo_le h n m
    have h2 : (rowTo (p m) m n).length ≤ (rowTo (q m) m n).length := by
      unfold rowTo; rw [List.length_map, List.length_map]; exact filter_le (h m) _
    omega
theorem sparse_le (xs : List Txn) : (sparse xs).length ≤ (full xs).length := prsTo_le (fun i k h => (Bool.and_eq_true_iff.1 h).1) _ _
end Go.Proofs.Ytkppfcfnpajpbaa
