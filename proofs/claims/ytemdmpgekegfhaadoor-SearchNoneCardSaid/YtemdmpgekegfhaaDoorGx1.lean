/- Sets of numbers and graphs in memory: what their functions read. -/
import Derived.Test.YtemdmpgekegfhaaDoorOps
import Derived.Test.YtemdmpgekegfhaaDoorOpsB
import Derived.Laws.Bits64b
import Derived.Lib.TrailingZeros
import Derived.Test.YtemdmpgekegfhaaDoorRet
import Derived.Test.YtemdmpgekegfhaaDoorMake
import Derived.Test.YtemdmpgekegfhaaDoorData
import Derived.WalkKit
import Derived.WalkSpells
import Derived.Laws.ShiftsVar
import Derived.Test.YtemdmpgekegfhaaDoorOb
import Derived.Lib.Hide
import Derived.StillTailTactics
import Derived.Shelf.Spec.TrailingZeros
section
namespace Go.Proofs.YtemdmpgekegfhaaDoor
open Go.RowKit
set_option linter.all false
set_option maxRecDepth 10000

def fam (F : Nat → HP) (k : Nat) : List HP := (List.range k).map F
def upF {α : Type} (F : Nat → α) (i : Nat) (x : α) : Nat → α := fun j => if j = i then x else F j
theorem upF_at {α : Type} (F : Nat → α) (i : Nat) (x : α) : upF F i x i = x := if_pos rfl
theorem upF_ne {α : Type} (F : Nat → α) {i j : Nat} (x : α) (h : j ≠ i) : upF F i x j = F j := if_neg h
theorem fam_len (F : Nat → HP) (k : Nat) : (fam F k).length = k := by simp [fam]
theorem fam_get {F : Nat → HP} {k i : Nat} {L : List HP} (h : i < k) : (fam F k ++ L)[i]? = some (F i) := by
  rw [List.getElem?_append_left (by simp [fam]; exact h)]
  simp [fam, h]
theorem fam_set {F : Nat → HP} {k i : Nat} {L : List HP} (X : HP) (h : i < k) : (fam F k ++ L).set i X = fam (upF F i X) k ++ L := by
  rw [List.set_append_left _ _ (by simp [fam]; exact h)]
  congr 1
  unfold fam
  apply List.ext_getElem
  · simp
  · intro m h1 h2
    rw [List.getElem_set]
    simp only [List.getElem_map, List.getElem_range]
    by_cases e : i = m
    · subst e; rw [if_pos rfl, upF_at]
    · rw [if_neg e, upF_ne _ _ (fun h => e h.symm)]
theorem fam_congr {F G : Nat → HP} {k : Nat} (h : ∀ i, i < k → F i = G i) : fam F k = fam G k := by
  unfold fam
  exact List.map_congr_left fun i hi => h i (List.mem_range.1 hi)
theorem fam_snoc {E : World} {s : SH} {L : List HP} {w : World} {X : HP} {F : Nat → HP} {k : Nat} (H : Holds E s (X :: (fam F k ++ L)) w) : Holds E s (fam (upF F k X) (k + 1) ++ L) w := by
  have e : fam (upF F k X) (k + 1) = fam F k ++ [X] := by
    unfold fam
    rw [List.range_succ, List.map_append]
    congr 1
    · apply List.map_congr_left
      intro i hi
      have : i ≠ k := by have := List.mem_range.1 hi; omega
      exact upF_ne _ _ this
    · simp [upF_at]
  rw [e, List.append_assoc]
  exact H.perm (List.perm_middle.symm)
theorem fam_zero {E : World} {s : SH} {L : List HP} {w : World} {F : Nat → HP} (H : Holds E s L w) : Holds E s (fam F 0 ++ L) w := H
/-- A family of blocks is frozen. -/
theorem fam_fr {E : World} {L : List HP} {w : World} {b : Nat → Nat} {o : Nat → Obj} : ∀ {k : Nat} {s : SH}, Holds E s (fam (fun i => pt (b i) (o i)) k ++ L) w → ∃ s', Sub s s' ∧ Holds E s' L w ∧ ∀ i, i < k → s' (b i) = some (o i)
  | 0, s, H => ⟨s, Sub.refl s, H, fun i h => absurd h (Nat.not_lt_zero i)⟩
  | k + 1, s, H => by
    have e : fam (fun i => pt (b i) (o i)) (k + 1) = fam (fun i => pt (b i) (o i)) k ++ [pt (b k) (o k)] := by unfold fam; rw [List.range_succ, List.map_append]; rfl
    rw [e, List.append_assoc] at H
    have H2 : Holds E s (pt (b k) (o k) :: (fam (fun i => pt (b i) (o i)) k ++ L)) w := H.perm List.perm_middle
    obtain ⟨s1, h1, f1, H3⟩ := H2.freeze
    obtain ⟨s2, h2, H4, f2⟩ := fam_fr H3
    refine ⟨s2, h1.trans h2, H4, fun i hi => ?_⟩
    by_cases e : i = k
    · subst e; exact h2 _ _ f1
    · exact f2 i (by omega)
theorem Holds.swapApp {E : World} {s : SH} {A B L : List HP} {w : World} (H : Holds E s (A ++ (B ++ L)) w) : Holds E s (B ++ (A ++ L)) w := by
  rw [← List.append_assoc] at H ⊢
  exact H.perm (List.Perm.append_right L List.perm_append_comm)
end Go.Proofs.YtemdmpgekegfhaaDoor
end

section
namespace Go.Proofs.YtemdmpgekegfhaaDoor
set_option linter.all false

/-- The k-th word of a set. -/
def wd (x k : Nat) : Nat := (x >>> (64 * k)) % 2 ^ 64
theorem wd_lt (x k : Nat) : wd x k < 18446744073709551616 := Nat.mod_lt _ (by decide)
theorem wd_bit (x k j : Nat) : (wd x k).testBit j = (decide (j < 64) && x.testBit (64 * k + j)) := by
  unfold wd; rw [Nat.testBit_mod_two_pow, Nat.testBit_shiftRight]
theorem wd_or (x y k : Nat) : wd (x ||| y) k = wd x k ||| wd y k := by
  apply Nat.eq_of_testBit_eq; intro j
  rw [Nat.testBit_or, wd_bit, wd_bit, wd_bit, Nat.testBit_or]
  cases decide (j < 64) <;> simp
theorem wd_zero (k : Nat) : wd 0 k = 0 := by unfold wd; simp
theorem wd_pow (i k : Nat) : wd (2 ^ i) k = if k = i / 64 then 2 ^ (i % 64) else 0 := by
  apply Nat.eq_of_testBit_eq; intro j
  rw [wd_bit, Nat.testBit_two_pow]
  by_cases h : k = i / 64
  · rw [if_pos h, Nat.testBit_two_pow]
    have hm := Nat.mod_lt i (show 64 > 0 by decide)
    have hd := Nat.div_add_mod i 64
    by_cases e : i % 64 = j
    · have : i = 64 * k + j := by omega
      simp [e, this, hm]
    · have : ¬ i = 64 * k + j ∨ ¬ j < 64 := by omega
      rcases this with h2 | h2 <;> simp [h2, e]
  · rw [if_neg h, Nat.zero_testBit]
    by_cases hj : j < 64
    · have : ¬ i = 64 * k + j := by omega
      simp [this]
    · simp [hj]
theorem wd_hit (x j : Nat) : x.testBit j = (wd x (j / 64)).testBit (j % 64) := by
  rw [wd_bit]
  have h : 64 * (j / 64) + j % 64 = j := Nat.div_add_mod j 64
  rw [h]
  simp [Nat.mod_lt j (show 64 > 0 by decide)]
/-- A word without its bits below r. -/
def cutW (x r : Nat) : Nat := x &&& ((18446744073709551615 * 2 ^ r) % 18446744073709551616)
theorem cutW_bit (x r j : Nat) (hx : x < 18446744073709551616) : (cutW x r).testBit j = (x.testBit j && decide (r ≤ j)) := by
  unfold cutW
  rw [Nat.testBit_and, show (18446744073709551616 : Nat) = 2 ^ 64 by decide, Nat.testBit_mod_two_pow, Nat.testBit_mul_two_pow]
  by_cases hj : j < 64
  · by_cases hr : r ≤ j
    · rw [show (18446744073709551615 : Nat) = 2 ^ 64 - 1 by decide, Nat.testBit_two_pow_sub_one]
      simp [hj, hr]; omega
    · simp [hr]
  · have : x.testBit j = false := by
      apply Nat.testBit_lt_two_pow
      calc x < 18446744073709551616 := hx
        _ = 2 ^ 64 := by decide
        _ ≤ 2 ^ j := Nat.pow_le_pow_right (by decide) (by omega)
    simp [this]
theorem cutW_lt (x r : Nat) (hx : x < 18446744073709551616) : cutW x r < 18446744073709551616 := Nat.lt_of_le_of_lt Nat.and_le_left hx
theorem cutW_zero (x : Nat) (hx : x < 18446744073709551616) : cutW x 0 = x := by
  apply Nat.eq_of_testBit_eq; intro j; rw [cutW_bit _ _ _ hx]; simp
/-- The lowest bit. -/
theorem ctz_spec (x : Nat) (h0 : x ≠ 0) (hx : x < 18446744073709551616) : x.testBit (Lib.ctz 64 x) = true ∧ Lib.ctz 64 x < 64 ∧ ∀ j, j < Lib.ctz 64 x → x.testBit j = false := by
  obtain ⟨m, hm, hk⟩ := Lib.ctzFrom_spec 64 x (by omega) hx
  have e : Lib.ctz 64 x = Lib.ctzFrom 64 x := by unfold Lib.ctz; rw [if_neg h0]
  rw [e]
  generalize Lib.ctzFrom 64 x = k at *
  have hb : ∀ j, x.testBit j = (decide (k ≤ j) && (2 * m + 1).testBit (j - k)) := by
    intro j; rw [hm, Nat.mul_comm (2 ^ k), Nat.testBit_mul_two_pow]
  refine ⟨?_, hk, ?_⟩
  · rw [hb]; simp
  · intro j hj; rw [hb]; simp; intro h; omega
theorem ne_zero_bit {x : Nat} (h : x ≠ 0) : ∃ j, x.testBit j = true := by
  refine Classical.byContradiction fun hn => h ?_
  apply Nat.eq_of_testBit_eq; intro j; rw [Nat.zero_testBit]
  cases e : x.testBit j with
  | false => rfl
  | true => exact absurd ⟨j, e⟩ hn

/-- The least member from p on. -/
def Least (x p r : Nat) : Prop := p ≤ r ∧ x.testBit r = true ∧ ∀ j, p ≤ j → j < r → x.testBit j = false
def NoneFrom (x p : Nat) : Prop := ∀ j, p ≤ j → x.testBit j = false
/-- The members from p up to below q. -/
def bitsL (x n : Nat) : List Int := ((List.range n).filter (fun j => x.testBit j)).map (fun j : Nat => (j : Int))
theorem bitsL_zero (x : Nat) : bitsL x 0 = [] := rfl
theorem bitsL_step {x r : Nat} (h : x.testBit r = true) : bitsL x (r + 1) = bitsL x r ++ [(r : Int)] := by
  unfold bitsL; rw [List.range_succ, List.filter_append, List.map_append]; simp [h]
theorem bitsL_skip {x p r : Nat} (hp : p ≤ r) (h : ∀ j, p ≤ j → j < r → x.testBit j = false) : bitsL x r = bitsL x p := by
  induction r with
  | zero => have : p = 0 := by omega
            subst this; rfl
  | succ r ih =>
    by_cases e : p = r + 1
    · subst e; rfl
    · have h1 := ih (by omega) (fun j a b => h j a (by omega))
      rw [← h1]
      unfold bitsL; rw [List.range_succ, List.filter_append, List.map_append]; simp [h r (by omega) (by omega)]
theorem bitsL_len (x n : Nat) : (bitsL x n).length ≤ n := by
  unfold bitsL; rw [List.length_map]; exact Nat.le_trans (List.length_filter_le _ _) (by simp)
end Go.Proofs.YtemdmpgekegfhaaDoor
end

section
namespace Go.Proofs.YtemdmpgekegfhaaDoor
open Go.RowKit
set_option linter.all false
set_option maxRecDepth 10000

theorem madeCells_one (z : Value) : ∀ n, madeCells #[z] n = (List.replicate n z).toArray := fun n => by
  apply Array.ext
  · simp [madeCells]
  · intro i h1 h2
    simp [madeCells, Nat.mod_one]
section
variable {P : Program} {o : Oper} {a : Act} {w : World} {Φ : Value → World → Prop} {E : World} {s : SH} {L : List HP}
/-- make of a slice whose elements have one cell: the row itself. -/
theorem G_make1 {α : Type} {d : Kin α} {t : TypeId} (hd : d.At P t) (x y : Operand) (ho : o.op = .makeSlice t x y) {kl kc : IntKind} (n : Nat) (hx : a.eval x = .int kl n) (hy : a.eval y = .int kc n) (zv : Value)
    (h1 : d.sz = 1) (hM : ∀ i z, P.info? d.e = some i → i.zero = some z → z.cells = #[zv]) (hby : n * d.by_ ≤ 140737488355328) (H : Holds E s L w)
    (h : ∀ b w', Holds E s (pt b (.cells (List.replicate n zv).toArray d.e (0, 0)) :: L) w' → Φ (.slice (some ⟨b, 0, none⟩) n n) w') : OpG P o a w Φ := by
  obtain ⟨i, z, hi, hz, hzs, hsz, hbytes⟩ := hd.hi
  have hn : n ≤ 140737488355328 := Nat.le_trans (Nat.le_mul_of_pos_right _ hd.bypos) hby
  have hb2 : (i.bytes : Int) * (n : Int) ≤ 281474976710656 := by
    have : i.bytes * n ≤ 140737488355328 := by rw [hbytes, Nat.mul_comm]; exact hby
    have h2 : ((i.bytes * n : Nat) : Int) ≤ ((140737488355328 : Nat) : Int) := Int.ofNat_le.2 this
    rw [Int.natCast_mul] at h2
    omega
  have hr := run_make (P := P) w t d.e i z hd.ht hi hz kl kc n n (by omega) (Int.le_refl _) hb2 (by omega)
  unfold OpG execOp
  simp only [ho, hx, hy, Sem.run_bind, Sem.run_pure, Result.andThen_ok, hr, Oper.gives, Int.toNat_natCast]
  rw [hM i z hi hz, hsz, h1, Nat.mul_one, madeCells_one]
  exact h _ _ (H.alloc _)
end

/-- How many words a set of numbers below n has. -/
def mw (n : Nat) : Nat := (n + 63) / 64
def wordsC (n x : Nat) : Array Value := ((List.range (mw n)).map fun k => Value.int .u64 (wd x k : Nat)).toArray
def setC (b n : Nat) : Array Value := #[.slice (some ⟨b, 0, none⟩) (mw n) (mw n), .int .i64 n, .bool true]
def wordP (n x b : Nat) : HP := pt b (.cells (wordsC n x) 217 (0, 0))
def WordAt (s : SH) (n x b : Nat) : Prop := s b = some (.cells (wordsC n x) 217 (0, 0))
def SetAt (s : SH) (p b n : Nat) : Prop := s p = some (.cells (setC b n) 207 (0, 0))
theorem SetAt.mono {s t : SH} (h : Sub s t) {p b n : Nat} (k : SetAt s p b n) : SetAt t p b n := h _ _ k
theorem WordAt.mono {s t : SH} (h : Sub s t) {n x b : Nat} (k : WordAt s n x b) : WordAt t n x b := h _ _ k
theorem wordsC_size (n x : Nat) : (wordsC n x).size = mw n := by simp [wordsC]
theorem wordsC_get {n : Nat} (x : Nat) {k : Nat} (h : k < mw n) : (wordsC n x)[k]? = some (.int .u64 (wd x k : Nat)) := by simp [wordsC, h]
theorem wordsC_set {n x y k : Nat} (he : ∀ j, j < mw n → j ≠ k → wd y j = wd x j) : (wordsC n x).setIfInBounds k (.int .u64 (wd y k : Nat)) = wordsC n y := by
  apply Array.ext
  · simp [wordsC]
  · intro i h1 h2
    have h3 : i < (wordsC n x).size := by simpa using h1
    have h4 : i < mw n := by rw [wordsC_size] at h3; exact h3
    rw [Array.getElem_setIfInBounds h3]
    simp only [wordsC, List.getElem_toArray, List.getElem_map, List.getElem_range]
    by_cases e : k = i
    · subst e; simp
    · rw [if_neg e, he i h4 (fun h => e h.symm)]
/-- The first i words are those of both sets. -/
def mixW (n x y i : Nat) : Array Value := ((List.range (mw n)).map fun k => Value.int .u64 ((if k < i then wd (x ||| y) k else wd x k : Nat) : Int)).toArray
theorem mixW_size (n x y i : Nat) : (mixW n x y i).size = mw n := by simp [mixW]
theorem mixW_zero (n x y : Nat) : mixW n x y 0 = wordsC n x := by simp [mixW, wordsC]
theorem mixW_all (n x y : Nat) : mixW n x y (mw n) = wordsC n (x ||| y) := by
  unfold mixW wordsC
  congr 1
  apply List.map_congr_left
  intro k hk
  rw [if_pos (List.mem_range.1 hk)]
theorem mixW_get {n : Nat} (x y : Nat) {i k : Nat} (h : k < mw n) (hk : i ≤ k) : (mixW n x y i)[k]? = some (.int .u64 (wd x k : Nat)) := by
  have : ¬ k < i := by omega
  simp [mixW, h, this]
theorem mixW_at {n : Nat} (x y : Nat) {i : Nat} (h : i < mw n) : (mixW n x y (i + 1))[i]? = some (.int .u64 (wd (x ||| y) i : Nat)) := by
  simp [mixW, h]
theorem mixW_set {n x y i : Nat} : (mixW n x y i).setIfInBounds i (.int .u64 (wd (x ||| y) i : Nat)) = mixW n x y (i + 1) := by
  apply Array.ext
  · simp [mixW]
  · intro j h1 h2
    have h3 : j < (mixW n x y i).size := by simpa using h1
    rw [Array.getElem_setIfInBounds h3]
    simp only [mixW, List.getElem_toArray, List.getElem_map, List.getElem_range]
    by_cases e : i = j
    · subst e; simp
    · rw [if_neg e]
      by_cases h : j < i
      · rw [if_pos h, if_pos (show j < i + 1 by omega)]
      · rw [if_neg h, if_neg (show ¬ j < i + 1 by omega)]
theorem wordsC_zero (n : Nat) : (List.replicate (mw n) (Value.int .u64 0)).toArray = wordsC n 0 := by
  unfold wordsC
  congr 1
  apply List.ext_getElem
  · simp
  · intro i h1 h2; simp [wd_zero]
theorem set_c {E : World} {s : SH} {L : List HP} {w : World} {p b n : Nat} (H : Holds E s L w) (h : SetAt s p b n) (j : Nat) : w.cell? ⟨p, j, none⟩ = (setC b n)[j]? := by
  have := H.at_s h
  simp [World.cell?, this]
theorem word_c {E : World} {s : SH} {L : List HP} {w : World} {x b n : Nat} (H : Holds E s L w) (h : WordAt s n x b) (j : Nat) : w.cell? ⟨b, j, none⟩ = (wordsC n x)[j]? := by
  have := H.at_s h
  simp [World.cell?, this]
theorem wordp_c {E : World} {s : SH} {L : List HP} {w : World} {x b n i : Nat} (H : Holds E s L w) (h : L[i]? = some (wordP n x b)) (j : Nat) : w.cell? ⟨b, j, none⟩ = (wordsC n x)[j]? := by
  have := (H.front i h).at_pt
  simp [World.cell?, this]

theorem wordp_f {E : World} {s : SH} {L : List HP} {w : World} {x b n i : Nat} (H : Holds E s L w) (h : L[i]? = some (wordP n x b)) (j : Nat) : w.frozen? ⟨b, j, none⟩ = false := by
  have := (H.front i h).at_pt
  simp [World.frozen?, this]

/-- Pointers to sets, one beside the other. -/
def kPS : Kin Nat := Kin.sc (fun p => .pointer (some ⟨p, 0, none⟩)) (fun _ => True) 8 165 (fun _ => rfl)
/-- The graph at a, of n nodes: what stays of it; W tells where the words of row i of node j are. -/
def GrS (s : SH) (a n : Nat) (W : Nat → Nat) : Prop :=
  ∃ R0 R1 R2 R3 : Value, s a = some (.cells #[.int .i64 n, R0, R1, R2, R3, .bool true] 121 (0, 0)) ∧
    ∀ i, i < 4 → ∃ A c, #[R0, R1, R2, R3][i]? = some (.slice A n c) ∧ ∀ j, j < n → ∃ b off p, A = some ⟨b, off, none⟩ ∧ Cells s ⟨b, off + j, none⟩ [.pointer (some ⟨p, 0, none⟩)] ∧ SetAt s p (W (i * n + j)) n
theorem GrS.mono {s t : SH} (hs : Sub s t) {a n : Nat} {W : Nat → Nat} (h : GrS s a n W) : GrS t a n W := by
  obtain ⟨R0, R1, R2, R3, h1, h2⟩ := h
  refine ⟨R0, R1, R2, R3, hs _ _ h1, fun i hi => ?_⟩
  obtain ⟨A, c, h3, h4⟩ := h2 i hi
  refine ⟨A, c, h3, fun j hj => ?_⟩
  obtain ⟨b, off, p, h5, h6, h7⟩ := h4 j hj
  exact ⟨b, off, p, h5, h6.mono hs, h7.mono hs⟩
def Gr (s : SH) (a n : Nat) (F : Nat → Nat) : Prop := ∃ W, GrS s a n W ∧ ∀ k, k < 4 * n → WordAt s n (F k) (W k)
theorem Gr.mono {s t : SH} (hs : Sub s t) {a n : Nat} {F : Nat → Nat} (h : Gr s a n F) : Gr t a n F := by
  obtain ⟨W, h1, h2⟩ := h
  exact ⟨W, h1.mono hs, fun k hk => (h2 k hk).mono hs⟩
abbrev grP (n : Nat) (F W : Nat → Nat) : List HP := fam (fun k => wordP n (F k) (W k)) (4 * n)
theorem Gr.freeze {E : World} {s : SH} {L : List HP} {w : World} {a n : Nat} {F W : Nat → Nat} (h : GrS s a n W) (H : Holds E s (grP n F W ++ L) w) : ∃ s', Sub s s' ∧ Gr s' a n F ∧ Holds E s' L w := by
  obtain ⟨s', h1, H, h2⟩ := fam_fr (b := W) (o := fun k => .cells (wordsC n (F k)) 217 (0, 0)) H
  exact ⟨s', h1, ⟨W, h.mono h1, h2⟩, H⟩
end Go.Proofs.YtemdmpgekegfhaaDoor
end

section
namespace Go.Proofs.YtemdmpgekegfhaaDoor
open Go.RowKit
set_option linter.all false
set_option maxRecDepth 10000

theorem none_c {w : World} {p : Nat} (h : w.cell? ⟨p, 2, none⟩ = some (.bool true)) : Calls Tryd.prog 170 #[.pointer (some ⟨p, 0, none⟩)] w fun e w' => e = .returned (.bool false) ∧ w' = w := by
  go_enter Tryd.func170, Tryd.ntmps170
  go_wp2
  go_ret
  exact ⟨rfl, rfl⟩
theorem shl1 (i : Nat) : IntKind.u64.wrap ((2 : Int) ^ (i % 64)) = ((2 ^ (i % 64) : Nat) : Int) := by
  have h := Nat.mod_lt i (show 64 > 0 by decide)
  rw [IntKind.wrap_u64]
  have h2 : 2 ^ (i % 64) < 2 ^ 64 := Nat.pow_lt_pow_right (by decide) h
  have e : ((2 : Int) ^ (i % 64)) = ((2 ^ (i % 64) : Nat) : Int) := by simp
  rw [e]
  rw [show (2 : Nat) ^ 64 = 18446744073709551616 by decide] at h2
  generalize 2 ^ (i % 64) = q at h2 ⊢
  omega
set_option maxHeartbeats 2000000 in
theorem at_c {w : World} {p b n i : Nat} (hi : i < n) (hn : n ≤ 300) (c0 : w.cell? ⟨p, 0, none⟩ = some (.slice (some ⟨b, 0, none⟩) (mw n) (mw n))) (c1 : w.cell? ⟨p, 1, none⟩ = some (.int .i64 n)) (c2 : w.cell? ⟨p, 2, none⟩ = some (.bool true)) :
    Calls Tryd.prog 145 #[.pointer (some ⟨p, 0, none⟩), .int .i64 i] w fun e w' => e = .returned (.tuple #[.pointer (some ⟨b, i / 64, none⟩), .int .u64 (2 ^ (i % 64) : Nat), .int .i64 0]) ∧ w' = w.drew := by
  have hN := none_c c2
  have hw : i / 64 < mw n := by unfold mw; omega
  generalize mw n = m at c0 hw
  go_enter Tryd.func145, Tryd.ntmps145
  go_wp2_with (go_at_call 170; refine hN.mono ?_; rintro e w' ⟨rfl, rfl⟩)
  go_region
  go_wp2
  rw [shl1]
  exact ret3 rfl (rv_tmp rfl) (rv_tmp rfl) (rv_tmp rfl) rfl ⟨rfl, rfl⟩
/-- The bit i of a set goes in. -/
theorem word_add {n i x : Nat} (hi : i < n) : (wordsC n x).setIfInBounds (i / 64) (.int .u64 (wd (x ||| 2 ^ i) (i / 64) : Nat)) = wordsC n (x ||| 2 ^ i) :=
  wordsC_set fun j _ hj => by rw [wd_or, wd_pow, if_neg hj, Nat.or_zero]
theorem wd_add (i x : Nat) : wd x (i / 64) ||| 2 ^ (i % 64) = wd (x ||| 2 ^ i) (i / 64) := by rw [wd_or, wd_pow, if_pos rfl]
theorem pw_lt (i : Nat) : 2 ^ (i % 64) < 18446744073709551616 := by
  have h := Nat.mod_lt i (show 64 > 0 by decide)
  have h2 : 2 ^ (i % 64) < 2 ^ 64 := Nat.pow_lt_pow_right (by decide) h
  rwa [show (2 : Nat) ^ 64 = 18446744073709551616 by decide] at h2
set_option maxHeartbeats 2000000 in
theorem badd_c {E : World} {s : SH} {L : List HP} {w : World} {p b n i x k : Nat} (hi : i < n) (hn : n ≤ 300) (H : Holds E s L w) (hs : SetAt s p b n) (hk : L[k]? = some (wordP n x b)) :
    Calls Tryd.prog 110 #[.pointer (some ⟨p, 0, none⟩), .int .i64 i] w fun e w' => e = .returned (.int .i64 0) ∧ Holds E s (L.set k (wordP n (x ||| 2 ^ i) b)) w' := by
  have hA := at_c (w := w) hi hn (set_c H hs 0) (set_c H hs 1) (set_c H hs 2)
  have hw : i / 64 < mw n := by unfold mw; omega
  have H := H.drew
  have hf := wordp_f H hk (i / 64)
  have e1 := bits_or_u64_nat (wd x (i / 64)) (2 ^ (i % 64)) (wd_lt _ _) (pw_lt i)
  rw [wd_add] at e1
  have hc : w.drew.cell? ⟨b, i / 64, none⟩ = some (.int .u64 (wd x (i / 64) : Nat)) := (wordp_c H hk _).trans (wordsC_get x hw)
  have hz : Holds E s (L.set k (wordP n (x ||| 2 ^ i) b)) (w.drew.setCell ⟨b, i / 64, none⟩ (.int .u64 (wd (x ||| 2 ^ i) (i / 64) : Nat))) := by
    have H2 := ((H.front k hk).setCell (i / 64) (.int .u64 (wd (x ||| 2 ^ i) (i / 64) : Nat)))
    rw [word_add hi] at H2
    exact H2.back k hk
  generalize 2 ^ (i % 64) = q at e1 hA
  generalize wd x (i / 64) = u at e1 hc
  generalize wd (x ||| 2 ^ i) (i / 64) = v at e1 hz
  go_enter Tryd.func110, Tryd.ntmps110
  go_wp2_with (go_at_call 145; refine hA.mono ?_; rintro e w' ⟨rfl, rfl⟩)
  go_ret
  exact ⟨rfl, hz⟩
theorem and_pw (a r : Nat) : a &&& 2 ^ r = if a.testBit r = true then 2 ^ r else 0 := by
  apply Nat.eq_of_testBit_eq; intro j
  rw [Nat.testBit_and, Nat.testBit_two_pow]
  by_cases e : r = j
  · subst e; cases h : a.testBit r <;> simp [h]
  · split <;> simp [e, Nat.testBit_two_pow]
set_option maxHeartbeats 2000000 in
theorem bhas_c {E : World} {s : SH} {L : List HP} {w : World} {p b n i x : Nat} (hi : i < n) (hn : n ≤ 300) (H : Holds E s L w) (hs : SetAt s p b n) (hb : WordAt s n x b) :
    Calls Tryd.prog 115 #[.pointer (some ⟨p, 0, none⟩), .int .i64 i] w fun e w' => e = .returned (.bool (x.testBit i)) ∧ Holds E s L w' := by
  have hA := at_c (w := w) hi hn (set_c H hs 0) (set_c H hs 1) (set_c H hs 2)
  have hw : i / 64 < mw n := by unfold mw; omega
  have H := H.drew
  have hc : w.drew.cell? ⟨b, i / 64, none⟩ = some (.int .u64 (wd x (i / 64) : Nat)) := (word_c H hb _).trans (wordsC_get x hw)
  have e1 := bits_and_u64_nat (wd x (i / 64)) (2 ^ (i % 64)) (wd_lt _ _) (pw_lt i)
  have e2 : (((wd x (i / 64) &&& 2 ^ (i % 64) : Nat) : Int) != 0) = x.testBit i := by
    rw [wd_hit x i, and_pw]
    have hp : 0 < 2 ^ (i % 64) := Nat.two_pow_pos _
    cases (wd x (i / 64)).testBit (i % 64)
    · rfl
    · generalize 2 ^ (i % 64) = q at hp ⊢
      simp; omega
  rw [← e1] at e2
  clear e1
  generalize 2 ^ (i % 64) = q at e2 hA
  generalize wd x (i / 64) = u at e2 hc
  go_enter Tryd.func115, Tryd.ntmps115
  go_wp2_with (go_at_call 145; refine hA.mono ?_; rintro e w' ⟨rfl, rfl⟩)
  go_ret
  exact ⟨rfl, H⟩
theorem kU_at : (Kin.sc (fun z : Nat => Value.int .u64 z) (fun _ => True) 8 217 (fun _ => rfl)).At Tryd.prog 205 := ⟨Tryd.underlying205, by decide, _, _, Tryd.type217, rfl, rfl, rfl, rfl⟩
set_option maxHeartbeats 2000000 in
theorem bnew_c {E : World} {s : SH} {L : List HP} {w : World} {n : Nat} (hn : n ≤ 300) (H : Holds E s L w) :
    Calls Tryd.prog 97 #[.int .i64 n] w fun e w' => ∃ p b s', e = .returned (.tuple #[.pointer (some ⟨p, 0, none⟩), .int .i64 0]) ∧ Sub s s' ∧ SetAt s' p b n ∧ Holds E s' (wordP n 0 b :: L) w' := by
  have hm : ((n : Int) + 63) / 64 = (mw n : Nat) := by unfold mw; omega
  have hm2 : mw n ≤ 6 := by unfold mw; omega
  have hk : ∀ i z, Tryd.prog.info? 217 = some i → i.zero = some z → z.cells = #[Value.int .u64 0] := fun i z hi hz => by
    rw [show Tryd.prog.info? 217 = some Tryd.t217 from Tryd.type217] at hi; cases hi; cases hz; rfl
  go_enter Tryd.func97, Tryd.ntmps97
  go_wp2_with ((with_reducible refine OpG.list rfl ?_); first
    | (refine G_make1 kU_at _ _ rfl (mw n) (by simp only [← hm]; rfl) (by simp only [← hm]; rfl) (.int .u64 0) rfl hk ?_ H ?_; (case refine_1 => show mw n * 8 ≤ _; omega); clear H; intro b w2 H)
    | (refine G_box 207 (v := Value.agg #[_, _, _]) _ rfl rfl H ?_; clear H; intro p w3 H))
  rw [wordsC_zero] at H
  obtain ⟨s1, h1, f1, H⟩ := H.freeze
  exact ret2 rfl (rv_tmp rfl) (rv_tmp rfl) rfl ⟨p, b, s1, rfl, h1, f1, H⟩
theorem or1_c (a b : Nat) (w : World) (ha : a < 18446744073709551616) (hb : b < 18446744073709551616) : Calls Tryd.prog 147 #[.int .u64 a, .int .u64 b] w fun e w' => e = .returned (.int .u64 (a ||| b : Nat)) ∧ w' = w := by
  have e1 := bits_or_u64_nat a b ha hb
  generalize a ||| b = c at e1 ⊢
  go_enter Tryd.func147, Tryd.ntmps147
  go_wp2
  go_ret
  exact ⟨rfl, rfl⟩
end Go.Proofs.YtemdmpgekegfhaaDoor
end

section
namespace Go.Proofs.YtemdmpgekegfhaaDoor
open Go.RowKit
set_option linter.all false
set_option maxRecDepth 10000

set_option maxHeartbeats 400000 in
theorem with_c {E : World} {s : SH} {L : List HP} {w : World} {p b p2 b2 n x y : Nat} (hn : n ≤ 300) (H : Holds E s (wordP n x b :: L) w) (hs : SetAt s p b n) (hs2 : SetAt s p2 b2 n) (hb2 : WordAt s n y b2) :
    Calls Tryd.prog 146 #[.pointer (some ⟨p, 0, none⟩), .pointer (some ⟨p2, 0, none⟩), .func (.func 147) #[] #[]] w fun e w' => ∃ c, e = .returned (.tuple #[.bool c, .int .i64 0]) ∧ Holds E s (wordP n (x ||| y) b :: L) w' := by
  have c0 := set_c H hs 0
  have c1 := set_c H hs 1
  have c2 := set_c H hs 2
  have d1 := set_c H hs2 1
  have d2 := set_c H hs2 2
  simp only [setC, List.getElem?_toArray, List.getElem?_cons_zero, List.getElem?_cons_succ] at c0 c1 c2 d1 d2
  have hm2 : mw n ≤ 6 := by unfold mw; omega
  have hwk : ∀ k : Nat, k < mw n → wrap64 ((k : Int) + 1) = (k : Int) + 1 := fun k hk => by unfold wrap64; omega
  go_enter Tryd.func146, Tryd.ntmps146
  go_wp2_with (go_at_call 170; refine (none_c ?_).mono ?_; (with_reducible first | exact c2 | exact d2); rintro e w' ⟨rfl, rfl⟩)
  go_region
  go_wp2
  have e0 : wordP n x b = pt b (.cells (mixW n x y 0) 217 (0, 0)) := by unfold wordP; rw [mixW_zero]
  rw [e0] at H
  replace H := H.drew
  clear c0 c1 c2 d1 d2
  go_loopw [33, 8] (fun i ch wr => ∃ k : Nat, k ≤ mw n ∧ i = .int .i64 k ∧ (∃ c, ch = .bool c) ∧ Holds E s (pt b (.cells (mixW n x y k) 217 (0, 0)) :: L) wr) (fun i _ _ => mw n - (intOf i).toNat)
  case atStart => exact ⟨0, Nat.zero_le _, rfl, ⟨_, rfl⟩, H⟩
  case round =>
    clear H
    obtain ⟨k, hk, rfl, ⟨c, rfl⟩, H⟩ := hrel
    by_cases hlt : k < mw n
    · have c0 := set_c H hs 0
      have d0 := set_c H hs2 0
      simp only [setC, List.getElem?_toArray, List.getElem?_cons_zero, List.getElem?_cons_succ] at c0 d0
      have cw : wr.cell? ⟨b, k, none⟩ = some (.int .u64 (wd x k : Nat)) := by have := H.at_pt; simp only [World.cell?, this]; exact mixW_get x y hlt (Nat.le_refl _)
      have dw : wr.cell? ⟨b2, k, none⟩ = some (.int .u64 (wd y k : Nat)) := (word_c H hb2 k).trans (wordsC_get y hlt)
      go_wp2
      go_still_tail 16, (by kernel_rfl)
      still_call (or1_c (wd x k) (wd y k) _ (wd_lt _ _) (wd_lt _ _))
      still_step
      refine wpStill_nil ?_
      change wpList _ _ _ _ _ wr.drew
      replace H := H.drew
      generalize wr.drew = w2 at H ⊢
      clear c0 d0 cw dw
      have hks : k < (mixW n x y k).size := by rw [mixW_size]; exact hlt
      rw [← wd_or]
      cases c
      all_goals
        go_wp2_with ((with_reducible refine OpG.list rfl ?_); (refine G_set1i 0 (v := Value.int .u64 (wd (x ||| y) k : Nat)) _ _ _ rfl (Tryd.sizeOf217 _) rfl rfl rfl H rfl hks ?_; clear H; intro w5 H; simp only [List.set_cons_zero] at H; rw [mixW_set] at H; have c0 := set_c H hs 0; simp only [setC, List.getElem?_toArray, List.getElem?_cons_zero] at c0; have cw : w5.cell? ⟨b, k, none⟩ = some (.int .u64 (wd (x ||| y) k : Nat)) := (by have := H.at_pt; simp only [World.cell?, this]; exact mixW_at x y hlt)))
        go_roundw
        case rel => exact ⟨k + 1, by omega, by go_num, ⟨_, rfl⟩, H⟩
        case measure => simp [intOf]; omega
    · obtain rfl : k = mw n := by omega
      go_wp2
      rw [mixW_all] at H
      exact ret2 rfl (rv_tmp rfl) (rv_tmp rfl) rfl ⟨_, rfl, H⟩
set_option maxHeartbeats 1000000 in
theorem bor_c {E : World} {s : SH} {L : List HP} {w : World} {p b p2 b2 n x y : Nat} (hn : n ≤ 300) (H : Holds E s (wordP n x b :: L) w) (hs : SetAt s p b n) (hs2 : SetAt s p2 b2 n) (hb2 : WordAt s n y b2) :
    Calls Tryd.prog 112 #[.pointer (some ⟨p, 0, none⟩), .pointer (some ⟨p2, 0, none⟩)] w fun e w' => ∃ c, e = .returned (.tuple #[.bool c, .int .i64 0]) ∧ Holds E s (wordP n (x ||| y) b :: L) w' := by
  go_enter Tryd.func112, Tryd.ntmps112
  go_wp2_with (go_at_call 146; refine (with_c hn H hs hs2 hb2).mono ?_; clear H; rintro e w' ⟨c, rfl, H⟩)
  exact ret2 rfl (rv_tmp rfl) (rv_tmp rfl) rfl ⟨_, rfl, H⟩
end Go.Proofs.YtemdmpgekegfhaaDoor
end

section
namespace Go.Proofs.YtemdmpgekegfhaaDoor
open Go.RowKit
set_option linter.all false
set_option maxRecDepth 10000

/-- The library's table for TrailingZeros64 lies in its variable. -/
def Tz (s : SH) : Prop := ∀ j, j < Lib.deBruijn64tab.length → Cells s ⟨1, j, none⟩ [.int .u8 (Lib.deBruijn64tab.getD j 0 : Nat)]
theorem Tz.mono {s t : SH} (h : Sub s t) (k : Tz s) : Tz t := fun j hj => (k j hj).mono h
theorem Tz.at {E : World} {s : SH} {L : List HP} {w : World} (H : Holds E s L w) (k : Tz s) : TabAt 1 Lib.deBruijn64tab w := fun j hj => by
  have := Cells.cell H (k j hj) 0 _ rfl
  simpa [Addr.add] using this
set_option maxHeartbeats 1000000 in
theorem tz_core (x k idx : Nat) (w : World) (hx0 : ((x : Int) == 0) = false)
    (key : IntKind.u64.wrap (bits BinOp.and IntKind.u64 (x : Int) (IntKind.u64.wrap (-(x : Int))) * 285870213051353865) / 288230376151711744 = (idx : Int))
    (hi : idx < 64) (hk : k < 64) (hcell : w.cell? ⟨1, idx, none⟩ = some (.int .u8 k)) :
    Calls Tryd.prog 171 #[.int .u64 x] w fun e w' => e = .returned (.int .i64 k) ∧ w' = w := by
  go_enter Tryd.func171, Tryd.ntmps171
  go_wp2_with (simp only [key])
  go_ret
  exact ⟨rfl, rfl⟩
theorem tz_c {E : World} {s : SH} {L : List HP} {w : World} (H : Holds E s L w) (hT : Tz s) (x : Nat) (hx : x < 18446744073709551616) (hx0 : x ≠ 0) :
    Calls Tryd.prog 171 #[.int .u64 x] w fun e w' => e = .returned (.int .i64 (Lib.ctz 64 x : Nat)) ∧ w' = w := by
  obtain ⟨hlow, hk⟩ := Lib.lowest_bit 64 x hx0 hx
  obtain ⟨hi, htab⟩ := Lib.deBruijn64_at _ hk
  have hcell := (hT.at H) _ hi
  rw [htab] at hcell
  exact tz_core x _ _ w (by simp; omega) (tz64_key x _ hx hx0 hlow) hi hk hcell

theorem cut_c (u r : Nat) (hu : u < 18446744073709551616) : bits .and .u64 (u : Int) (IntKind.u64.wrap (18446744073709551615 * 2 ^ r)) = ((cutW u r : Nat) : Int) := by
  have e : IntKind.u64.wrap (18446744073709551615 * (2 : Int) ^ r) = (((18446744073709551615 * 2 ^ r) % 18446744073709551616 : Nat) : Int) := by
    rw [IntKind.wrap_u64]
    have : ((2 : Int) ^ r) = ((2 ^ r : Nat) : Int) := by simp
    rw [this]
    generalize 2 ^ r = q
    omega
  rw [e]
  exact bits_and_u64_nat u _ hu (Nat.mod_lt _ (by decide))
/-- What Next answers: the least member from i on. -/
def NextR (x i : Nat) (r : Int) (ok : Bool) : Prop := (ok = true ∧ ∃ q : Nat, r = q ∧ Least x i q) ∨ (ok = false ∧ r = 0 ∧ NoneFrom x i)
set_option maxHeartbeats 1000000 in
theorem next_c {E : World} {s : SH} {L : List HP} {w : World} {p b n i x : Nat} (hn : n ≤ 300) (hi : i ≤ n) (H : Holds E s L w) (hs : SetAt s p b n) (hb : WordAt s n x b) (hT : Tz s) (hx : x < 2 ^ n) :
    Calls Tryd.prog 148 #[.pointer (some ⟨p, 0, none⟩), .int .i64 i] w fun e w' => ∃ r ok, e = .returned (.tuple #[.int .i64 r, .bool ok]) ∧ w' = w ∧ NextR x i r ok := by
  have c0 := set_c H hs 0
  have c2 := set_c H hs 2
  simp only [setC, List.getElem?_toArray, List.getElem?_cons_zero, List.getElem?_cons_succ] at c0 c2
  have hm2 : mw n ≤ 6 := by unfold mw; omega
  have hiq : i / 64 ≤ mw n := by unfold mw; omega
  go_enter Tryd.func148, Tryd.ntmps148
  go_wp2_with (go_at_call 170; refine (none_c ?_).mono ?_; (with_reducible exact c2); rintro e w' ⟨rfl, rfl⟩)
  have HX := Lib.hid hx
  clear hx
  go_loopw [6] (fun k wr => ∃ m : Nat, i / 64 ≤ m ∧ m ≤ mw n ∧ k = .int .i64 m ∧ wr = w' ∧ ∀ j, i ≤ j → j < 64 * m → x.testBit j = false) (fun k _ => mw n - (intOf k).toNat)
  case atStart => exact ⟨i / 64, Nat.le_refl _, hiq, rfl, rfl, fun j h1 h2 => by omega⟩
  case round =>
    obtain ⟨m, hm1, hm, rfl, rfl, hno0⟩ := hrel
    have hno := Lib.hid hno0
    clear hno0
    by_cases hlt : m < mw n
    · have cw : wr.cell? ⟨b, m, none⟩ = some (.int .u64 (wd x m : Nat)) := (word_c H hb m).trans (wordsC_get x hlt)
      have hwm : wrap64 ((m : Int) * 64) = (m : Int) * 64 := by unfold wrap64; omega
      by_cases he : m = i / 64
      · have ec := cut_c (wd x m) (i % 64) (wd_lt x m)
        have hb2 : ∀ j, (cutW (wd x m) (i % 64)).testBit j = (decide (j < 64) && x.testBit (64 * m + j) && decide (i % 64 ≤ j)) := fun j => by rw [cutW_bit _ _ _ (wd_lt x m), wd_bit]
        have hl := cutW_lt (wd x m) (i % 64) (wd_lt x m)
        generalize cutW (wd x m) (i % 64) = u at ec hb2 hl
        generalize wd x m = u0 at ec cw
        have hb3 := Lib.hid hb2
        clear hb2
        by_cases hu : u = 0
        · subst hu
          subst he
          go_wp2
          go_roundw
          case rel =>
            refine ⟨i / 64 + 1, by omega, by omega, by go_num, trivial, fun j h1 h2 => ?_⟩
            have := hb3.out (j - 64 * (i / 64))
            rw [Nat.zero_testBit, show 64 * (i / 64) + (j - 64 * (i / 64)) = j by omega] at this
            have a1 : j - 64 * (i / 64) < 64 := by omega
            have a2 : i % 64 ≤ j - 64 * (i / 64) := by omega
            simpa [a1, a2] using this.symm
          case measure => simp [intOf]; omega
        · obtain ⟨k1, k2, k30⟩ := ctz_spec u hu hl
          have hz := tz_c H hT u hl hu
          generalize Lib.ctz 64 u = q at k1 k2 k30 hz
          have k3 := Lib.hid k30
          clear k30
          have hu' : ((u : Int) != 0) = true := by simp; omega
          have hwq : wrap64 ((m : Int) * 64 + (q : Int)) = (m : Int) * 64 + (q : Int) := by unfold wrap64; omega
          rw [hb3.out] at k1
          simp only [Bool.and_eq_true, decide_eq_true_eq] at k1
          subst he
          go_wp2_with (go_at_call 171; refine hz.mono ?_; rintro e w' ⟨rfl, rfl⟩)
          refine ret2 rfl (rv_tmp rfl) (rv_tmp rfl) rfl ⟨_, _, rfl, (by first | rfl | trivial), .inl ⟨rfl, 64 * (i / 64) + q, by omega, by omega, k1.1.2, fun j h1 h2 => ?_⟩⟩
          have := k3.out (j - 64 * (i / 64)) (by omega)
          rw [hb3.out, show 64 * (i / 64) + (j - 64 * (i / 64)) = j by omega] at this
          have a1 : j - 64 * (i / 64) < 64 := by omega
          have a2 : i % 64 ≤ j - 64 * (i / 64) := by omega
          simpa [a1, a2] using this
      · have hb2 : ∀ j, (wd x m).testBit j = (decide (j < 64) && x.testBit (64 * m + j)) := fun j => wd_bit x m j
        have hl := wd_lt x m
        have he2 : ((m : Int) == (i : Int) / 64) = false := by simp; omega
        generalize wd x m = u at cw hb2 hl
        have hb3 := Lib.hid hb2
        clear hb2
        by_cases hu : u = 0
        · subst hu
          go_wp2
          go_roundw
          case rel =>
            refine ⟨m + 1, by omega, by omega, by go_num, trivial, fun j h1 h2 => ?_⟩
            by_cases h3 : j < 64 * m
            · exact hno.out j h1 h3
            · have := hb3.out (j - 64 * m)
              rw [Nat.zero_testBit, show 64 * m + (j - 64 * m) = j by omega] at this
              have a1 : j - 64 * m < 64 := by omega
              simpa [a1] using this.symm
          case measure => simp [intOf]; omega
        · obtain ⟨k1, k2, k30⟩ := ctz_spec u hu hl
          have hz := tz_c H hT u hl hu
          generalize Lib.ctz 64 u = q at k1 k2 k30 hz
          have k3 := Lib.hid k30
          clear k30
          have hwq : wrap64 ((m : Int) * 64 + (q : Int)) = (m : Int) * 64 + (q : Int) := by unfold wrap64; omega
          rw [hb3.out] at k1
          simp only [Bool.and_eq_true, decide_eq_true_eq] at k1
          go_wp2_with (go_at_call 171; refine hz.mono ?_; rintro e w' ⟨rfl, rfl⟩)
          refine ret2 rfl (rv_tmp rfl) (rv_tmp rfl) rfl ⟨_, _, rfl, (by first | rfl | trivial), .inl ⟨rfl, 64 * m + q, by omega, by omega, k1.2, fun j h1 h2 => ?_⟩⟩
          by_cases h3 : j < 64 * m
          · exact hno.out j h1 h3
          · have := k3.out (j - 64 * m) (by omega)
            rw [hb3.out, show 64 * m + (j - 64 * m) = j by omega] at this
            have a1 : j - 64 * m < 64 := by omega
            simpa [a1] using this
    · obtain rfl : m = mw n := by omega
      go_wp2
      refine ret2 rfl (rv_tmp rfl) (rv_tmp rfl) rfl ⟨_, _, rfl, (by first | rfl | trivial), .inr ⟨rfl, rfl, fun j h1 => ?_⟩⟩
      by_cases h3 : j < 64 * mw n
      · exact hno.out j h1 h3
      · apply Nat.testBit_lt_two_pow
        refine Nat.lt_of_lt_of_le HX.out (Nat.pow_le_pow_right (by decide) ?_)
        unfold mw at h3; omega
end Go.Proofs.YtemdmpgekegfhaaDoor
end

section
namespace Go.Proofs.YtemdmpgekegfhaaDoor
open Go.RowKit
set_option linter.all false
set_option maxRecDepth 10000

def muL (n : Nat) (i ok : Value) : Nat := match ok with | .bool true => n + 1 - (intOf i).toNat | _ => 0
theorem bit_lt {x n q : Nat} (hx : x < 2 ^ n) (h : x.testBit q = true) : q < n := by
  apply Nat.lt_of_not_le
  intro hle
  have := Nat.testBit_lt_two_pow (i := q) (Nat.lt_of_lt_of_le hx (Nat.pow_le_pow_right (by decide) hle))
  rw [h] at this; cases this
set_option maxHeartbeats 1000000 in
theorem blist_c {E : World} {s : SH} {L : List HP} {w : World} {p b n x : Nat} (hn : n ≤ 300) (H : Holds E s L w) (hs : SetAt s p b n) (hb : WordAt s n x b) (hT : Tz s) (hx0 : x < 2 ^ n) :
    Calls Tryd.prog 113 #[.pointer (some ⟨p, 0, none⟩)] w fun e w' => ∃ v, e = .returned v ∧ Holds E s (kI.Osl v (bitsL x n) :: L) w' := by
  have hx := Lib.hid hx0
  have hn0 := next_c hn (Nat.zero_le n) H hs hb hT hx0
  have H : Holds E s (kI.Osl (.slice none 0 0) (bitsL x 0) :: L) w := Kin.Osl.nil H
  clear hx0
  go_enter Tryd.func113, Tryd.ntmps113
  go_wp2_with (go_at_call 148; refine hn0.mono ?_; clear hn0; rintro e w' ⟨r0, ok0, rfl, rfl, hr0⟩)
  go_loopw [3, 4, 5] (fun l i ok wr => ∃ (p0 : Nat) (r : Int) (okb : Bool), p0 ≤ n ∧ i = .int .i64 r ∧ ok = .bool okb ∧ RowKit.Hid (NextR x p0 r okb) ∧ Holds E s (kI.Osl l (bitsL x p0) :: L) wr) (fun l i ok _ => muL n i ok)
  case atStart => exact ⟨0, _, _, Nat.zero_le _, rfl, rfl, hr0, H⟩
  case round =>
    clear H
    obtain ⟨p0, r, okb, hp0, rfl, rfl, hNR, H⟩ := hrel
    cases okb with
    | true =>
      obtain ⟨q, rfl, hl0⟩ : ∃ q : Nat, r = q ∧ Least x p0 q := by rcases hNR.out with ⟨_, h⟩ | ⟨h, _⟩; exact h; cases h
      have hq : q < n := bit_lt hx.out hl0.2.1
      have e1 : bitsL x p0 = bitsL x q := (bitsL_skip hl0.1 hl0.2.2).symm
      have e2 : bitsL x q ++ [(q : Int)] = bitsL x (q + 1) := (bitsL_step hl0.2.1).symm
      have hlen := bitsL_len x q
      rw [e1] at H
      have hl := Lib.hid hl0
      have E2 := Lib.hid e2
      clear hl0 e1 e2 hNR
      have hwq : wrap64 ((q : Int) + 1) = ((q + 1 : Nat) : Int) := by unfold wrap64; omega
      go_wp2_with (first
        | ((with_reducible refine OpG.list rfl ?_); first
          | (refine G_slice1 (v := Value.int .i64 (q : Int)) rfl rfl Tryd.underlying27 Tryd.sizeOf3 Tryd.zeroValue3 rfl rfl (by decide) (by decide) H ?_; clear H; intro g2 w4 H; replace H := (H.mkEmp.map (A' := kI.M (q : Int) [.int .i64 q]) fun _ h => ⟨⟨rfl, by constructor <;> omega⟩, h⟩).rot3)
          | (refine G_append1 kI_at _ _ rfl H rfl rfl ?_ ?_; (case refine_1 => show (_ + 1) * 8 ≤ _; omega); clear H; intro v5 w5 H; rw [E2.out] at H))
        | (go_at_call 148; refine (next_c (i := q + 1) hn hq H hs hb hT hx.out).mono ?_; rintro e w' ⟨r1, ok1, rfl, rfl, hr1⟩))
      refine ⟨⟨q + 1, r1, ok1, hq, rfl, rfl, hr1, H⟩, ?_⟩
      rcases hr1 with ⟨rfl, q', rfl, hl'⟩ | ⟨rfl, rfl, _⟩
      · have := hl'.1
        simp only [muL, intOf, Int.toNat_natCast]; omega
      · simp only [muL, intOf, Int.toNat_natCast]; omega
    | false =>
      have e1 : bitsL x p0 = bitsL x n := by
        rcases hNR.out with ⟨h, _⟩ | ⟨_, _, h⟩
        · cases h
        · exact (bitsL_skip hp0 (fun j a _ => h j a)).symm
      rw [e1] at H
      go_wp2
      exact ret1 rfl (rv_tmp rfl) rfl ⟨_, rfl, H⟩
end Go.Proofs.YtemdmpgekegfhaaDoor
end

section
namespace Go.Proofs.YtemdmpgekegfhaaDoor
open Go.RowKit
set_option linter.all false
set_option maxRecDepth 10000

theorem has_c {w : World} {a n : Nat} (c0 : w.cell? ⟨a, 0, none⟩ = some (.int .i64 n)) (i : Int) : Calls Tryd.prog 109 #[.pointer (some ⟨a, 0, none⟩), .int .i64 i] w fun e w' => e = .returned (.bool (decide (0 ≤ i) && decide (i < n))) ∧ w' = w := by
  by_cases h : 0 ≤ i
  · go_enter Tryd.func109, Tryd.ntmps109
    go_wp2
    refine ret1 rfl (rv_tmp rfl) rfl ⟨?_, rfl⟩
    simp [h]
  · go_enter Tryd.func109, Tryd.ntmps109
    go_wp2
    refine ret1 rfl (rv_tmp rfl) rfl ⟨?_, rfl⟩
    simp [h]; omega
theorem made_c {w : World} {a : Nat} (c5 : w.cell? ⟨a, 5, none⟩ = some (.bool true)) : Calls Tryd.prog 63 #[.pointer (some ⟨a, 0, none⟩)] w fun e w' => e = .returned (.bool true) ∧ w' = w := by
  go_enter Tryd.func63, Tryd.ntmps63
  go_wp2
  go_ret
  exact ⟨rfl, rfl⟩
theorem nodes_c {w : World} {a n : Nat} (c0 : w.cell? ⟨a, 0, none⟩ = some (.int .i64 n)) : Calls Tryd.prog 29 #[.pointer (some ⟨a, 0, none⟩)] w fun e w' => e = .returned (.int .i64 n) ∧ w' = w := by
  go_enter Tryd.func29, Tryd.ntmps29
  go_wp2
  go_ret
  exact ⟨rfl, rfl⟩
/-- The bit i of a number. -/
def lb (z : Int) (i : Nat) : Bool := decide ((z / 2 ^ i) % 2 = 1)
theorem and_one (z : Int) : bits .and .i64 z 1 = z % 2 := by
  show IntKind.i64.wrap ((BitVec.ofInt 64 z &&& BitVec.ofInt 64 1).toNat : Int) = _
  rw [BitVec.toNat_and, BitVec.toNat_ofInt, BitVec.toNat_ofInt]
  rw [show (1 % ((2 ^ 64 : Nat) : Int)).toNat = 1 by decide, Nat.and_one_is_mod, IntKind.wrap_i64]
  omega
/-- The members of the rows of node u that are asked for. -/
def orK (n : Nat) (F : Nat → Nat) (u : Nat) (of : Int) : Nat → Nat
  | 0 => 0
  | i + 1 => if lb of i = true then orK n F u of i ||| F (i * n + u) else orK n F u of i
theorem orK_lt {n : Nat} {F : Nat → Nat} (hF : ∀ k, F k < 2 ^ n) (u : Nat) (of : Int) : ∀ i, orK n F u of i < 2 ^ n
  | 0 => Nat.two_pow_pos n
  | i + 1 => by
    unfold orK
    split
    · exact Nat.or_lt_two_pow (orK_lt hF u of i) (hF _)
    · exact orK_lt hF u of i
theorem gr_c {E : World} {s : SH} {L : List HP} {w : World} {a : Nat} {cs : Array Value} {t : TypeId} (H : Holds E s L w) (hg : s a = some (.cells cs t (0, 0))) (j : Nat) : w.cell? ⟨a, j, none⟩ = cs[j]? := by
  have := H.at_s hg; simp [World.cell?, this]
theorem gr_row {n k : Nat} {R0 R1 R2 R3 x : Value} (hk : k < 4) (h : #[R0, R1, R2, R3][k]? = some x) : (#[Value.int .i64 n, R0, R1, R2, R3, .bool true] : Array Value)[1 + k]? = some x := by
  have : k = 0 ∨ k = 1 ∨ k = 2 ∨ k = 3 := by omega
  rcases this with rfl | rfl | rfl | rfl <;> simpa using h
set_option maxHeartbeats 1000000 in
theorem out_c {E : World} {s : SH} {L : List HP} {w : World} {a n u : Nat} {F : Nat → Nat} {of : Int} (hn : n ≤ 300) (hu : u < n) (H : Holds E s L w) (hG : Gr s a n F) (hT : Tz s) (hF : ∀ k, F k < 2 ^ n) :
    Calls Tryd.prog 64 #[.pointer (some ⟨a, 0, none⟩), .int .i64 u, .int .i64 of] w fun e w' => ∃ v s', e = .returned v ∧ Sub s s' ∧ Holds E s' (kI.Osl v (bitsL (orK n F u of 4) n) :: L) w' := by
  obtain ⟨W, ⟨R0, R1, R2, R3, hg, hr⟩, hw⟩ := hG
  have c0 := gr_c H hg 0
  simp only [List.getElem?_toArray, List.getElem?_cons_zero, List.getElem?_cons_succ] at c0
  have hhas := has_c c0 (u : Int)
  rw [show (decide ((0 : Int) ≤ (u : Int)) && decide ((u : Int) < (n : Int))) = true by simp; omega] at hhas
  have hF' := Lib.hid hF
  clear hF
  go_enter Tryd.func64, Tryd.ntmps64
  go_wp2_with (first
    | (go_at_call 109; refine hhas.mono ?_; rintro e w' ⟨rfl, rfl⟩)
    | (go_at_call 97; refine (bnew_c hn H).mono ?_; clear H c0 hhas; rintro e w' ⟨p, b, s1, rfl, hs1, hset, H⟩))
  have HR := Lib.hid hr
  have HW := Lib.hid hw
  clear hr hw
  have H : Holds E s1 (wordP n (orK n F u of 0) b :: L) w' := H
  go_loopw [26, 8] (fun i e wr => ∃ k : Nat, k ≤ 4 ∧ i = .int .i64 k ∧ e = .int .i64 0 ∧ Holds E s1 (wordP n (orK n F u of k) b :: L) wr) (fun i _ _ => 4 - (intOf i).toNat)
  case atStart => exact ⟨0, Nat.zero_le _, rfl, rfl, H⟩
  case round =>
    clear H
    obtain ⟨k, hk, rfl, rfl, H⟩ := hrel
    by_cases hlt : k < 4
    · have e1 := and_one (of / 2 ^ k)
      have hk64 : min k 64 = k := by omega
      have hwk : wrap64 ((k : Int) + 1) = (k : Int) + 1 := by unfold wrap64; omega
      obtain ⟨A, c, hA, hj⟩ := HR.out k hlt
      obtain ⟨blk, off, p2, rfl, hC, hS⟩ := hj u hu
      have hkn : k * n ≤ 3 * n := Nat.mul_le_mul_right n (by omega)
      have hWd := HW.out (k * n + u) (by omega)
      have cR := (gr_c H (hs1 _ _ hg) (1 + k)).trans (gr_row hlt hA)
      have cE : wr.cell? ⟨blk, off + u, none⟩ = some (.pointer (some ⟨p2, 0, none⟩)) := by
        have := Cells.cell H (hC.mono hs1) 0 _ rfl
        simpa [Addr.add] using this
      clear hj hA hkn
      by_cases hl : (of / 2 ^ k % 2 == 1) = true
      · have eK : orK n F u of k ||| F (k * n + u) = orK n F u of (k + 1) := by
          show _ = if lb of k = true then _ else _
          rw [if_pos]; unfold lb; simpa using hl
        have EK := Lib.hid eK
        clear eK
        go_wp2_with (go_at_call 112; refine (bor_c hn H hset (hS.mono hs1) (hWd.mono hs1)).mono ?_; clear H cR cE; rintro e w' ⟨c, rfl, H⟩; rw [EK.out] at H)
        go_roundw
        case rel => exact ⟨k + 1, by omega, by go_num, rfl, H⟩
        case measure => simp [intOf]; omega
      · have eK : orK n F u of k = orK n F u of (k + 1) := by
          show _ = if lb of k = true then _ else _
          rw [if_neg]; unfold lb; simpa using hl
        rw [eK] at H
        go_wp2
        go_roundw
        case rel => exact ⟨k + 1, by omega, by go_num, rfl, H⟩
        case measure => simp [intOf]; omega
    · obtain rfl : k = 4 := by omega
      obtain ⟨s2, hs2, f2, H⟩ := H.freeze
      go_wp2_with (go_at_call 113; refine (blist_c hn H (hset.mono hs2) f2 ((hT.mono hs1).mono hs2) (orK_lt hF'.out u of 4)).mono ?_; clear H; rintro e w' ⟨v, rfl, H⟩)
      exact ret1 rfl (rv_tmp rfl) rfl ⟨_, _, rfl, hs1.trans hs2, H⟩
end Go.Proofs.YtemdmpgekegfhaaDoor
end
