/- A matrix of truth values that is owned: an outer row of slices, and a row for each. -/
import Derived.Test.YtkppfcfnpajpbaaReachP
import Derived.Test.YtkppfcfnpajpbaaMake
import Derived.Test.YtkppfcfnpajpbaaOpen
namespace Go.Proofs.Ytkppfcfnpajpbaa
open Go.RowKit
set_option linter.all false

def kB : Kin Bool := Kin.bool 4
def kLB : Kin (List Bool) := Kin.slice kB 38
theorem kB_at : kB.At Try.prog 38 := ⟨Try.underlying38, by decide, _, _, Try.type4, rfl, rfl, rfl, rfl⟩
theorem kLB_at : kLB.At Try.prog 37 := ⟨Try.underlying37, by decide, _, _, Try.type38, rfl, rfl, rfl, rfl⟩

theorem madeCells_one (z : Value) : ∀ n, madeCells #[z] n = (List.replicate n z).toArray := fun n => by
  apply Array.ext
  · simp [madeCells]
  · intro i h1 h2
    simp [madeCells, Nat.mod_one]
section
variable {P : Program} {o : Oper} {a : Act} {w : World} {Φ : Value → World → Prop} {E : World} {s : SH} {L : List HP}
/-- make of a slice whose elements have one cell: the row itself. -/
theorem G_make1 {α : Type} {d : Kin α} {t : TypeId} (hd : d.At P t) (x y : Operand) (ho : o.op = .makeSlice t x y) {kl kc : IntKind} (n : Nat) (hx : a.eval x = .int kl n) (hy : a.eval y = .int kc n) (zv : Value)
    (h1 : d.sz = 1) (hM : ∀ i z, P.info? d.e = some i → i.zero = some z → z.cells = #[zv]) (hby : n * d.by_ ≤ 140737488355328) (H : Holds E s L w)
    (h : ∀ b w', Holds E s (pt b (.cells (List.replicate n zv).toArray d.e (0, 0)) :: L) w' → Φ (.slice (some ⟨b, 0, none⟩) n n) w') : OpG P o a w Φ := by
  obtain ⟨i, z, hi, hz, hzs, hsz, hbytes⟩ := hd.hi
  have hn : n ≤ 140737488355328 := Nat.le_trans (Nat.le_mul_of_pos_right _ hd.bypos) hby
  have hb2 : (i.bytes : Int) * (n : Int) ≤ 281474976710656 := by
    have : i.bytes * n ≤ 140737488355328 := by rw [hbytes, Nat.mul_comm]; exact hby
    have h2 : ((i.bytes * n : Nat) : Int) ≤ ((140737488355328 : Nat) : Int) := Int.ofNat_le.2 this
    rw [Int.natCast_mul] at h2
    omega
  have hr := run_make (P := P) w t d.e i z hd.ht hi hz kl kc n n (by omega) (Int.le_refl _) hb2 (by omega)
  unfold OpG execOp
  simp only [ho, hx, hy, Sem.run_bind, Sem.run_pure, Result.andThen_ok, hr, Oper.gives, Int.toNat_natCast]
  rw [hM i z hi hz, hsz, h1, Nat.mul_one, madeCells_one]
  exact h _ _ (H.alloc _)
end

def rowC (n : Nat) (f : Nat → Bool) : Array Value := ((List.range n).map fun j => Value.bool (f j)).toArray
def outC (n : Nat) (bs : Nat → Nat) (k : Nat) : Array Value := ((List.range n).map fun i => if i < k then Value.slice (some ⟨bs i, 0, none⟩) n n else Value.slice none 0 0).toArray
def rowP (n : Nat) (M : Mat) (bs : Nat → Nat) (i : Nat) : HP := pt (bs i) (.cells (rowC n (M i)) 4 (0, 0))
def rowsP (n : Nat) (M : Mat) (bs : Nat → Nat) (k : Nat) : List HP := (List.range k).map (rowP n M bs)
def outP (n : Nat) (bs : Nat → Nat) (k B : Nat) : HP := pt B (.cells (outC n bs k) 38 (0, 0))
theorem rowC_size (n : Nat) (f : Nat → Bool) : (rowC n f).size = n := by simp [rowC]
theorem outC_size (n : Nat) (bs : Nat → Nat) (k : Nat) : (outC n bs k).size = n := by simp [outC]
theorem rowC_get {n : Nat} (f : Nat → Bool) {j : Nat} (h : j < n) : (rowC n f)[j]? = some (.bool (f j)) := by simp [rowC, h]
theorem outC_get {n : Nat} (bs : Nat → Nat) {k i : Nat} (h : i < n) (hk : i < k) : (outC n bs k)[i]? = some (.slice (some ⟨bs i, 0, none⟩) n n) := by simp [outC, h, hk]
theorem rowC_set {n : Nat} (f : Nat → Bool) (j : Nat) (v : Bool) : (rowC n f).setIfInBounds j (.bool v) = rowC n (fun b => if b = j then v else f b) := by
  apply Array.ext
  · simp [rowC]
  · intro i h1 h2
    have h3 : i < (rowC n f).size := by simpa using h1
    rw [Array.getElem_setIfInBounds h3]
    simp only [rowC, List.getElem_toArray, List.getElem_map, List.getElem_range]
    by_cases e : j = i
    · subst e; simp
    · rw [if_neg e, if_neg (fun h => e h.symm)]
theorem rowC_false (n : Nat) : (List.replicate n (Value.bool false)).toArray = rowC n fun _ => false := by
  unfold rowC
  congr 1
  apply List.ext_getElem <;> simp
theorem outC_zero (n : Nat) (bs : Nat → Nat) : (List.replicate n (Value.slice none 0 0)).toArray = outC n bs 0 := by
  unfold outC
  congr 1
  apply List.ext_getElem <;> simp
theorem outC_set {n : Nat} (bs : Nat → Nat) (k b : Nat) : (outC n bs k).setIfInBounds k (.slice (some ⟨b, 0, none⟩) n n) = outC n (fun i => if i = k then b else bs i) (k + 1) := by
  apply Array.ext
  · simp [outC]
  · intro i h1 h2
    have h3 : i < (outC n bs k).size := by simpa using h1
    rw [Array.getElem_setIfInBounds h3]
    simp only [outC, List.getElem_toArray, List.getElem_map, List.getElem_range]
    by_cases e : k = i
    · subst e; simp
    · rw [if_neg e]
      by_cases h : i < k
      · rw [if_pos h, if_pos (show i < k + 1 by omega), if_neg (fun h => e h.symm)]
      · rw [if_neg h, if_neg (show ¬ i < k + 1 by omega)]
theorem rowsP_get {n k : Nat} {M : Mat} {bs : Nat → Nat} {L : List HP} {i : Nat} (h : i < k) : (rowsP n M bs k ++ L)[i]? = some (rowP n M bs i) := by
  rw [List.getElem?_append_left (by simp [rowsP]; exact h)]
  simp [rowsP, h]
theorem rowsP_set {n k : Nat} {M : Mat} {bs : Nat → Nat} {L : List HP} {i j : Nat} (v : Bool) (h : i < k) : (rowsP n M bs k ++ L).set i (pt (bs i) (.cells ((rowC n (M i)).setIfInBounds j (.bool v)) 4 (0, 0))) = rowsP n (M.upd i j v) bs k ++ L := by
  rw [List.set_append_left _ _ (by simp [rowsP]; exact h)]
  congr 1
  unfold rowsP
  apply List.ext_getElem
  · simp
  · intro m h1 h2
    rw [List.getElem_set]
    simp only [List.getElem_map, List.getElem_range]
    by_cases e : i = m
    · subst e
      rw [if_pos rfl, rowC_set]
      unfold rowP
      congr 3
      funext b
      unfold Mat.upd
      by_cases e : b = j
      · rw [if_pos e, if_pos ⟨rfl, e⟩]
      · rw [if_neg e, if_neg (fun h => e h.2)]
    · rw [if_neg e]
      unfold rowP
      congr 3
      funext b
      unfold Mat.upd
      rw [if_neg (fun h => e h.1.symm)]
theorem rowsP_snoc {n k b B : Nat} {M : Mat} {bs : Nat → Nat} {E : World} {s : SH} {L : List HP} {w : World} (H : Holds E s (pt b (.cells (rowC n (M k)) 4 (0, 0)) :: outP n (fun i => if i = k then b else bs i) (k + 1) B :: (rowsP n M bs k ++ L)) w) :
    Holds E s (outP n (fun i => if i = k then b else bs i) (k + 1) B :: (rowsP n M (fun i => if i = k then b else bs i) (k + 1) ++ L)) w := by
  have e : rowsP n M (fun i => if i = k then b else bs i) (k + 1) = rowsP n M bs k ++ [pt b (.cells (rowC n (M k)) 4 (0, 0))] := by
    unfold rowsP
    rw [List.range_succ, List.map_append]
    congr 1
    · apply List.map_congr_left
      intro i hi
      have : i ≠ k := by have := List.mem_range.1 hi; omega
      show pt (if i = k then b else bs i) _ = pt (bs i) _
      rw [if_neg this]
    · simp [rowP]
  rw [e, List.append_assoc]
  refine H.perm ((List.Perm.swap ..).trans (List.Perm.cons _ ?_))
  exact (List.perm_middle (l₁ := rowsP n M bs k) (l₂ := L)).symm
def matL (n : Nat) (M : Mat) : List (List Bool) := (List.range n).map fun i => (List.range n).map (M i)
theorem rowsP_fr {n : Nat} {M : Mat} {bs : Nat → Nat} {E : World} {L : List HP} {w : World} : ∀ {s : SH} (k : Nat), Holds E s (rowsP n M bs k ++ L) w → ∃ s', Sub s s' ∧ Holds E s' L w ∧ ∀ i, i < k → s' (bs i) = some (.cells (rowC n (M i)) 4 (0, 0))
  | s, 0, H => ⟨s, Sub.refl s, H, fun i h => absurd h (by omega)⟩
  | s, k + 1, H => by
    have e : rowsP n M bs (k + 1) = rowsP n M bs k ++ [rowP n M bs k] := by unfold rowsP; rw [List.range_succ, List.map_append]; rfl
    rw [e, List.append_assoc] at H
    have H1 : Holds E s (rowP n M bs k :: (rowsP n M bs k ++ L)) w := H.perm (List.perm_middle (l₁ := rowsP n M bs k) (l₂ := L))
    obtain ⟨s1, h1, h2, H2⟩ := Holds.freeze H1
    obtain ⟨s2, h3, H3, h4⟩ := rowsP_fr k H2
    refine ⟨s2, h1.trans h3, H3, fun i hi => ?_⟩
    by_cases e : i = k
    · subst e; exact h3 _ _ h2
    · exact h4 i (by omega)
theorem rowC_row {s : SH} (n : Nat) (f : Nat → Bool) : kB.Row s ((List.range n).map f) ((rowC n f).toList.take (n * kB.sz)) :=
  Kin.Row.of_get n fun i hi => ⟨[.bool (f i)], ⟨rfl, trivial⟩, fun j u hj => by
    have h0 : j = 0 := by
      have := (List.getElem?_eq_some_iff.1 hj).1
      simp at this; exact this
    subst h0
    have h1 : i * kB.sz + 0 = i := by show i * 1 + 0 = i; omega
    rw [h1, Array.getElem?_toList, rowC_get f hi]
    simpa using hj⟩
theorem mat_fr {n : Nat} {M : Mat} {bs : Nat → Nat} {B : Nat} {E : World} {s : SH} {L : List HP} {w : World} (hn : n ≤ 1000) (H : Holds E s (outP n bs n B :: (rowsP n M bs n ++ L)) w) :
    ∃ s', Sub s s' ∧ Holds E s' L w ∧ kLB.Sl s' (.slice (some ⟨B, 0, none⟩) n n) (matL n M) := by
  obtain ⟨s1, h1, h2, H1⟩ := Holds.freeze H
  obtain ⟨s2, h3, H2, h4⟩ := rowsP_fr n H1
  have hl : (matL n M).length = n := by simp [matL]
  refine ⟨s2, h1.trans h3, H2, some ⟨B, 0, none⟩, n, by rw [hl], by rw [hl]; exact Nat.le_refl _, by rw [hl]; show n * 24 ≤ _; omega, fun hx => ⟨B, 0, _, _, _, rfl, h3 _ _ h2, ?_⟩⟩
  rw [hl, List.drop_zero]
  unfold matL
  refine Kin.Row.of_get (d := kLB) n fun i hi => ⟨[.slice (some ⟨bs i, 0, none⟩) n n], ⟨_, rfl, some ⟨bs i, 0, none⟩, n, by simp, by simp, by simp only [List.length_map, List.length_range]; show n * 1 ≤ _; omega, fun _ => ⟨bs i, 0, _, _, _, rfl, h4 i hi, ?_⟩⟩, fun j u hj => ?_⟩
  · rw [List.drop_zero]
    simp only [List.length_map, List.length_range]
    exact rowC_row n (M i)
  · have h0 : j = 0 := by
      have := (List.getElem?_eq_some_iff.1 hj).1
      simp at this; exact this
    subst h0
    have h1 : i * kLB.sz + 0 = i := by show i * 1 + 0 = i; omega
    rw [h1, Array.getElem?_toList, outC_get bs hi hi]
    simpa using hj
end Go.Proofs.Ytkppfcfnpajpbaa
