/- The search for an order: models, plain laws, and search.Search walked. -/
import Derived.Test.YtemdmpgekegfhaaDoorTx1
import Derived.Test.YtemdmpgekegfhaaDoorMob2
import Derived.Test.YtemdmpgekegfhaaDoorGx1
import Derived.Test.YtemdmpgekegfhaaDoorAb1
import Derived.Test.YtemdmpgekegfhaaDoorKinds
import Derived.Test.YtemdmpgekegfhaaDoorDrawP
import Derived.Test.YtemdmpgekegfhaaDoorOwnT
import Derived.Test.YtemdmpgekegfhaaDoorErr
import Derived.Test.YtemdmpgekegfhaaDoorRet
import Derived.Laws.IdiomStrings
import Derived.Laws.Concat
import Derived.Lib.BufferRead
import Derived.ScopeJumps
import Derived.StillTailTactics
section
namespace Go.Proofs.YtemdmpgekegfhaaDoor
open Go.RowKit
set_option linter.all false
set_option maxRecDepth 10000

def ahd (a b : Txn) : Bool := (a.state == 1) && (decide (a.to ≥ 0) && decide (a.to < b.from_))
def don (t : Txn) : Bool := (t.state == 1) || (t.state == 3)
def tn (l : List Txn) (n : Nat) : Txn := l.getD n ⟨0, 0, 0, 0, []⟩
def mayB (l : List Txn) (x n : Nat) : Bool := don (tn l n) && !x.testBit n && (List.range l.length).all fun m => decide (m = n) || x.testBit m || !ahd (tn l m) (tn l n)
structure Fr where
  last : Int
  next : Nat
  st : MSt
def dropB (x i : Nat) : Nat := if x.testBit i = true then x ^^^ 2 ^ i else x
def okI (t : Txn) : Int := if (t.state == 1) = true then 1 else 0
def keyB (x n : Nat) : List UInt8 := ((List.range n).filter fun j => x.testBit j).flatMap fun i => [UInt8.ofNat (i % 256), UInt8.ofNat (i / 256 % 256)]
noncomputable def keyT (x n : Nat) (m : MSt) : Option ByteArray := (model_State_Text_f m).bind fun t => some (ba (keyB x n ++ 124 :: byL t))
def ordF (stk : List Fr) : List Int := (stk.reverse.tail).map (·.last)
def popX (x : Nat) (v : Int) : Nat := if v < 0 then x else dropB x v.toNat
def popL (l : List Txn) (left v : Int) : Int := if v < 0 then left else left + okI (tn l v.toNat)
noncomputable def srun (l : List Txn) (budget : Int) : Nat → List Fr → Nat → (ByteArray → Option Bool) → Int → Int → Option (Int × List Int × Int)
  | 0, _, _, _, _, _ => none
  | _ + 1, [], _, _, _, taken => some (2, [], taken)
  | k + 1, f :: r, x, met, left, taken =>
    if f.next = l.length then srun l budget k r (popX x f.last) met (popL l left f.last) taken
    else if mayB l x f.next = false then srun l budget k (⟨f.last, f.next + 1, f.st⟩ :: r) x met left taken
    else if taken = budget then some (3, [], taken)
    else (model_State_Apply_f f.st (tn l f.next).ops ((tn l f.next).state == 3)).bind fun q =>
      if q.1 = false then srun l budget k (⟨f.last, f.next + 1, f.st⟩ :: r) x met left (taken + 1)
      else (keyT (x ||| 2 ^ f.next) l.length q.2).bind fun key =>
        if (met key).getD false = true then srun l budget k (⟨f.last, f.next + 1, f.st⟩ :: r) x met left (taken + 1)
        else if left - okI (tn l f.next) = 0 then some (1, ordF (⟨f.next, 0, q.2⟩ :: ⟨f.last, f.next + 1, f.st⟩ :: r), taken + 1)
        else srun l budget k (⟨f.next, 0, q.2⟩ :: ⟨f.last, f.next + 1, f.st⟩ :: r) (x ||| 2 ^ f.next) (fset met key true) (left - okI (tn l f.next)) (taken + 1)
def okN (l : List Txn) : Int := (l.filter fun t => t.state == 1).length
noncomputable def search_f (fuel : Nat) (l : List Txn) (steps : Int) : Option (Int × List Int × Int) :=
  if 300 < l.length then some (3, [], 0)
  else if okN l = 0 then some (1, [], 0)
  else srun l (min (max steps 0) 200000) fuel [⟨-1, 0, model_New_f⟩] 0 fnil (okN l) 0
/-! ### more fuel, more steps -/
theorem srun_more {l : List Txn} {b1 b2 : Int} (hb : b1 ≤ b2) : ∀ (k : Nat) (stk : List Fr) (x : Nat) (met : ByteArray → Option Bool) (left taken : Int) (a t : Int) (o : List Int), taken ≤ b1 → srun l b1 k stk x met left taken = some (a, o, t) → a = 3 ∧ o = [] ∧ t = b1 ∨ a ≠ 3 ∧ srun l b2 k stk x met left taken = some (a, o, t)
  | 0, _, _, _, _, _, _, _, _, _, h => by cases h
  | k + 1, [], x, met, left, taken, a, t, o, ht, h => by
    simp only [srun] at h ⊢
    have h := Option.some.inj h
    cases h
    exact .inr ⟨by decide, rfl⟩
  | k + 1, f :: r, x, met, left, taken, a, t, o, ht, h => by
    simp only [srun] at h ⊢
    by_cases h1 : f.next = l.length
    · rw [if_pos h1] at h ⊢
      exact srun_more hb k _ _ _ _ _ _ _ _ ht h
    · rw [if_neg h1] at h ⊢
      by_cases h2 : mayB l x f.next = false
      · rw [if_pos h2] at h ⊢
        exact srun_more hb k _ _ _ _ _ _ _ _ ht h
      · rw [if_neg h2] at h ⊢
        by_cases h3 : taken = b1
        · rw [if_pos h3] at h
          have h := Option.some.inj h
          cases h
          exact .inl ⟨rfl, rfl, h3⟩
        · rw [if_neg h3] at h
          rw [if_neg (show ¬ taken = b2 by omega)]
          cases hA : model_State_Apply_f f.st (tn l f.next).ops ((tn l f.next).state == 3) with
          | none => rw [hA] at h; cases h
          | some q =>
            rw [hA] at h
            simp only [Option.bind_some] at h ⊢
            by_cases h4 : q.1 = false
            · rw [if_pos h4] at h ⊢
              exact srun_more hb k _ _ _ _ _ _ _ _ (by omega) h
            · rw [if_neg h4] at h ⊢
              cases hK : keyT (x ||| 2 ^ f.next) l.length q.2 with
              | none => rw [hK] at h; cases h
              | some key =>
                rw [hK] at h
                simp only [Option.bind_some] at h ⊢
                by_cases h5 : (met key).getD false = true
                · rw [if_pos h5] at h ⊢
                  exact srun_more hb k _ _ _ _ _ _ _ _ (by omega) h
                · rw [if_neg h5] at h ⊢
                  by_cases h6 : left - okI (tn l f.next) = 0
                  · rw [if_pos h6] at h ⊢
                    have h' := Option.some.inj h
                    cases h'
                    exact .inr ⟨by decide, rfl⟩
                  · rw [if_neg h6] at h ⊢
                    exact srun_more hb k _ _ _ _ _ _ _ _ (by omega) h
/-! ### what lies on the stack -/
def MayO (l : List Txn) (o : List Nat) (n : Nat) : Prop := don (tn l n) = true ∧ n ∉ o ∧ ∀ m, m < l.length → m ≠ n → m ∉ o → ahd (tn l m) (tn l n) = false
/-- The stack stands for the beginning o (last ones first). -/
inductive Stk (l : List Txn) : List Fr → List Nat → Prop
  | base (k : Nat) : k ≤ l.length → Stk l [⟨-1, k, model_New_f⟩] []
  | push {f : Fr} {r : List Fr} {o : List Nat} {n k : Nat} {m : MSt} : Stk l (f :: r) o → n < l.length → MayO l o n → model_State_Apply_f f.st (tn l n).ops ((tn l n).state == 3) = some (true, m) → k ≤ l.length → Stk l (⟨n, k, m⟩ :: f :: r) (n :: o)
theorem Stk.next {l : List Txn} {f : Fr} {r : List Fr} {o : List Nat} (h : Stk l (f :: r) o) {k : Nat} (hk : k ≤ l.length) : Stk l (⟨f.last, k, f.st⟩ :: r) o := by
  cases h with
  | base _ _ => exact .base k hk
  | push h1 h2 h3 h4 _ => exact .push h1 h2 h3 h4 hk
theorem Stk.le {l : List Txn} {f : Fr} {r : List Fr} {o : List Nat} (h : Stk l (f :: r) o) : f.next ≤ l.length := by
  cases h with
  | base _ h => exact h
  | push _ _ _ _ h => exact h
def leftO (l : List Txn) (o : List Nat) : Int := ((List.range l.length).filter fun n => (tn l n).state == 1 && !decide (n ∈ o)).length
theorem leftO_cons {l : List Txn} {o : List Nat} {n : Nat} (hn : n < l.length) (ho : n ∉ o) : leftO l (n :: o) = leftO l o - okI (tn l n) := by
  unfold leftO
  have gen : ∀ (k : Nat), (((List.range k).filter fun m => (tn l m).state == 1 && !decide (m ∈ n :: o)).length : Int) = ((List.range k).filter fun m => (tn l m).state == 1 && !decide (m ∈ o)).length - (if n < k then okI (tn l n) else 0) := by
    intro k
    induction k with
    | zero => simp
    | succ k ih =>
      rw [List.range_succ, List.filter_append, List.filter_append, List.length_append, List.length_append]
      by_cases e : k = n
      · subst e
        rw [if_neg (by omega)] at ih
        rw [if_pos (by omega)]
        have h1 : ([k].filter fun m => (tn l m).state == 1 && !decide (m ∈ k :: o)) = [] := by simp
        have h2 : ((([k].filter fun m => (tn l m).state == 1 && !decide (m ∈ o)).length : Nat) : Int) = okI (tn l k) := by
          unfold okI
          by_cases hs : ((tn l k).state == 1) = true
          · rw [if_pos hs]; simp [hs, ho]
          · rw [if_neg hs]; simp [hs]
        rw [h1, Int.natCast_add, Int.natCast_add, h2, ih]; simp
      · have h1 : ([k].filter fun m => (tn l m).state == 1 && !decide (m ∈ n :: o)) = ([k].filter fun m => (tn l m).state == 1 && !decide (m ∈ o)) := by
          apply List.filter_congr
          intro m hm
          rw [List.mem_singleton] at hm
          subst hm
          simp [e]
        rw [h1, Int.natCast_add, Int.natCast_add, ih]
        by_cases e2 : n < k
        · rw [if_pos e2, if_pos (by omega)]; omega
        · rw [if_neg e2, if_neg (by omega)]; omega
  have := gen l.length
  rw [if_pos hn] at this
  exact this
theorem okI_nonneg (t : Txn) : 0 ≤ okI t := by unfold okI; split <;> omega
theorem leftO_nonneg (l : List Txn) (o : List Nat) : 0 ≤ leftO l o := by unfold leftO; omega
theorem okN_eq (l : List Txn) : okN l = leftO l [] := by
  unfold okN leftO
  have e : l = (List.range l.length).map fun n => tn l n := by
    apply List.ext_getElem
    · simp
    · intro i h1 h2; simp [tn, h1]
  have h2 : l.filter (fun t => t.state == 1) = ((List.range l.length).filter fun n => (tn l n).state == 1).map fun n => tn l n := by
    conv => lhs; rw [e, List.filter_map]
    rfl
  rw [h2, List.length_map]
  simp
theorem mayB_iff {l : List Txn} {x n : Nat} {o : List Nat} (hx : ∀ i, x.testBit i = decide (i ∈ o)) : mayB l x n = true ↔ MayO l o n := by
  unfold mayB MayO
  simp only [Bool.and_eq_true, List.all_eq_true, List.mem_range, Bool.or_eq_true, decide_eq_true_eq, Bool.not_eq_true', hx, decide_eq_false_iff_not]
  constructor
  · rintro ⟨⟨h1, h2⟩, h3⟩
    exact ⟨h1, h2, fun m hm hne hmo => (h3 m hm).elim (fun h => h.elim (fun h => (hne h).elim) fun h => (hmo h).elim) id⟩
  · rintro ⟨h1, h2, h3⟩
    refine ⟨⟨h1, h2⟩, fun m hm => ?_⟩
    by_cases e : m = n
    · exact .inl (.inl e)
    · by_cases e2 : m ∈ o
      · exact .inl (.inr e2)
      · exact .inr (h3 m hm e e2)
theorem Stk.ord {l : List Txn} {stk : List Fr} {o : List Nat} (h : Stk l stk o) : ordF stk = o.reverse.map fun n : Nat => (n : Int) := by
  induction h with
  | base k hk => rfl
  | @push f r o n k m h1 _ _ _ _ ih =>
    unfold ordF at ih ⊢
    rw [List.reverse_cons, List.tail_append_of_ne_nil (by simp), List.map_append, ih]
    simp
theorem or_bit {x n : Nat} {o : List Nat} (hx : ∀ i, x.testBit i = decide (i ∈ o)) : ∀ i, (x ||| 2 ^ n).testBit i = decide (i ∈ n :: o) := fun i => by
  rw [Nat.testBit_or, Nat.testBit_two_pow, hx]
  by_cases e : n = i
  · subst e; simp
  · have : ¬ i = n := fun h => e h.symm
    simp [e, this]
theorem drop_bit {x n : Nat} {o : List Nat} (hx : ∀ i, x.testBit i = decide (i ∈ n :: o)) (hn : n ∉ o) : ∀ i, (dropB x n).testBit i = decide (i ∈ o) := fun i => by
  unfold dropB
  rw [if_pos (by rw [hx]; simp), Nat.testBit_xor, Nat.testBit_two_pow, hx]
  by_cases e : n = i
  · subst e; simp [hn]
  · have : ¬ i = n := fun h => e h.symm
    simp [e, this]
def Inv (l : List Txn) (stk : List Fr) (x : Nat) (left : Int) : Prop := stk = [] ∨ ∃ o, Stk l stk o ∧ (∀ i, x.testBit i = decide (i ∈ o)) ∧ left = leftO l o ∧ leftO l o ≠ 0
theorem inv_pop {l : List Txn} {f : Fr} {r : List Fr} {x : Nat} {left : Int} (h : Inv l (f :: r) x left) : Inv l r (popX x f.last) (popL l left f.last) := by
  rcases h with h | ⟨o, h1, h2, h3, h4⟩
  · cases h
  · cases h1 with
    | base => exact .inl rfl
    | @push f' r' o n k m g1 g2 g3 g4 g5 =>
      refine .inr ⟨o, g1, ?_, ?_, ?_⟩
      · show ∀ i, (popX x (n : Int)).testBit i = _
        unfold popX; rw [if_neg (by omega)]
        exact drop_bit h2 g3.2.1
      · show popL l left (n : Int) = _
        unfold popL; rw [if_neg (by omega), h3, leftO_cons g2 g3.2.1]
        show _ - _ + okI (tn l n) = _
        omega
      · have := leftO_cons g2 g3.2.1
        have := okI_nonneg (tn l n)
        have := leftO_nonneg l (n :: o)
        omega
theorem inv_next {l : List Txn} {f : Fr} {r : List Fr} {x : Nat} {left : Int} (h : Inv l (f :: r) x left) (hn : f.next ≠ l.length) : Inv l (⟨f.last, f.next + 1, f.st⟩ :: r) x left := by
  rcases h with h | ⟨o, h1, h2⟩
  · cases h
  · exact .inr ⟨o, h1.next (by have := h1.le; omega), h2⟩
theorem inv_lt {l : List Txn} {f : Fr} {r : List Fr} {x : Nat} {left : Int} (h : Inv l (f :: r) x left) (hn : f.next ≠ l.length) : f.next < l.length := by
  rcases h with h | ⟨o, h1, h2⟩
  · cases h
  · have := h1.le; omega
/-- An order that the search tells: the beginnings of it may all stand so. -/
def Shows (l : List Txn) (ord : List Int) : Prop := ∃ stk o, Stk l stk o ∧ leftO l o = 0 ∧ ord = o.reverse.map fun n : Nat => (n : Int)
theorem push_inv {l : List Txn} {f : Fr} {r : List Fr} {x : Nat} {left : Int} {m : MSt} (h : Inv l (f :: r) x left) (hn : f.next ≠ l.length) (hm : mayB l x f.next ≠ false) (hA : model_State_Apply_f f.st (tn l f.next).ops ((tn l f.next).state == 3) = some (true, m)) :
    ∃ o, Stk l (⟨f.next, 0, m⟩ :: ⟨f.last, f.next + 1, f.st⟩ :: r) o ∧ (∀ i, (x ||| 2 ^ f.next).testBit i = decide (i ∈ o)) ∧ left - okI (tn l f.next) = leftO l o := by
  have hlt := inv_lt h hn
  rcases inv_next h hn with h | ⟨o, h1, h2, h3, h4⟩
  · cases h
  · have hM := (mayB_iff h2).1 (by simpa using hm)
    exact ⟨f.next :: o, .push h1 hlt hM hA (Nat.zero_le _), or_bit h2, by rw [leftO_cons hlt hM.2.1, h3]⟩
theorem srun_out {l : List Txn} {budget : Int} : ∀ (k : Nat) (stk : List Fr) (x : Nat) (met : ByteArray → Option Bool) (left taken : Int) (a t : Int) (ord : List Int), Inv l stk x left → taken ≤ budget → srun l budget k stk x met left taken = some (a, ord, t) →
    taken ≤ t ∧ t ≤ budget ∧ (a = 1 ∧ Shows l ord ∨ a = 2 ∧ ord = [] ∨ a = 3 ∧ ord = [] ∧ t = budget)
  | 0, _, _, _, _, _, _, _, _, _, _, h => by cases h
  | k + 1, [], x, met, left, taken, a, t, o, hI, ht, h => by
    simp only [srun] at h
    have h := Option.some.inj h
    cases h
    exact ⟨by omega, ht, .inr (.inl ⟨rfl, rfl⟩)⟩
  | k + 1, f :: r, x, met, left, taken, a, t, o, hI, ht, h => by
    simp only [srun] at h
    by_cases h1 : f.next = l.length
    · rw [if_pos h1] at h
      exact srun_out k _ _ _ _ _ _ _ _ (inv_pop hI) ht h
    · rw [if_neg h1] at h
      by_cases h2 : mayB l x f.next = false
      · rw [if_pos h2] at h
        exact srun_out k _ _ _ _ _ _ _ _ (inv_next hI h1) ht h
      · rw [if_neg h2] at h
        by_cases h3 : taken = budget
        · rw [if_pos h3] at h
          have h := Option.some.inj h
          cases h
          exact ⟨by omega, ht, .inr (.inr ⟨rfl, rfl, h3⟩)⟩
        · rw [if_neg h3] at h
          cases hA : model_State_Apply_f f.st (tn l f.next).ops ((tn l f.next).state == 3) with
          | none => rw [hA] at h; cases h
          | some q =>
            rw [hA] at h
            simp only [Option.bind_some] at h
            by_cases h4 : q.1 = false
            · rw [if_pos h4] at h
              have := srun_out k _ _ _ _ _ _ _ _ (inv_next hI h1) (by omega) h
              exact ⟨by omega, this.2⟩
            · rw [if_neg h4] at h
              obtain ⟨q1, m⟩ := q
              obtain rfl : q1 = true := by simpa using h4
              cases hK : keyT (x ||| 2 ^ f.next) l.length m with
              | none => rw [hK] at h; cases h
              | some key =>
                rw [hK] at h
                simp only [Option.bind_some] at h
                by_cases h5 : (met key).getD false = true
                · rw [if_pos h5] at h
                  have := srun_out k _ _ _ _ _ _ _ _ (inv_next hI h1) (by omega) h
                  exact ⟨by omega, this.2⟩
                · rw [if_neg h5] at h
                  obtain ⟨o', g1, g2, g3⟩ := push_inv hI h1 h2 hA
                  by_cases h6 : left - okI (tn l f.next) = 0
                  · rw [if_pos h6] at h
                    have h' := Option.some.inj h
                    cases h'
                    exact ⟨by omega, by omega, .inl ⟨rfl, _, o', g1, by omega, g1.ord⟩⟩
                  · rw [if_neg h6] at h
                    have := srun_out k _ _ _ _ _ _ _ _ (.inr ⟨o', g1, g2, g3, by omega⟩) (by omega) h
                    exact ⟨by omega, this.2⟩
theorem inv_start {l : List Txn} (h : okN l ≠ 0) : Inv l [⟨-1, 0, model_New_f⟩] 0 (okN l) := .inr ⟨[], .base 0 (Nat.zero_le _), fun i => by simp, okN_eq l, by rw [← okN_eq]; exact h⟩
/-- What a search's answer says. -/
theorem search_out {fuel : Nat} {l : List Txn} {steps a t : Int} {ord : List Int} (hl : l.length ≤ 300) (h : search_f fuel l steps = some (a, ord, t)) :
    0 ≤ t ∧ t ≤ min (max steps 0) 200000 ∧ (a = 1 ∧ Shows l ord ∨ a = 2 ∧ ord = [] ∨ a = 3 ∧ ord = [] ∧ t = min (max steps 0) 200000) := by
  unfold search_f at h
  rw [if_neg (by omega)] at h
  by_cases h0 : okN l = 0
  · rw [if_pos h0] at h
    have h := Option.some.inj h
    cases h
    exact ⟨Int.le_refl _, by omega, .inl ⟨rfl, _, [], .base 0 (Nat.zero_le _), by rw [← okN_eq]; exact h0, rfl⟩⟩
  · rw [if_neg h0] at h
    exact srun_out fuel _ _ _ _ _ _ _ _ (inv_start h0) (by omega) h
end Go.Proofs.YtemdmpgekegfhaaDoor
end

section
namespace Go.Proofs.YtemdmpgekegfhaaDoor
open Go.RowKit
set_option linter.all false
set_option maxRecDepth 10000

/-! ### keys tell sets and states -/
theorem pairs_inj : ∀ {a b : List Nat}, (∀ i ∈ a, i < 100) → (∀ i ∈ b, i < 100) → (a.flatMap fun i => [UInt8.ofNat (i % 256), UInt8.ofNat (i / 256 % 256)]) = (b.flatMap fun i => [UInt8.ofNat (i % 256), UInt8.ofNat (i / 256 % 256)]) → a = b
  | [], [], _, _, _ => rfl
  | [], y :: b, _, _, h => by simp at h
  | x :: a, [], _, _, h => by simp at h
  | x :: a, y :: b, h1, h2, h => by
    simp only [List.flatMap_cons, List.cons_append, List.nil_append, List.cons.injEq] at h
    obtain ⟨e1, -, e2⟩ := h
    have := h1 x (by simp)
    have := h2 y (by simp)
    have e3 := congrArg UInt8.toNat e1
    rw [UInt8.toNat_ofNat', UInt8.toNat_ofNat'] at e3
    rw [show x = y by omega, pairs_inj (fun i hi => h1 i (by simp [hi])) (fun i hi => h2 i (by simp [hi])) e2]
theorem keyB_124 {x n : Nat} (hn : n ≤ 100) : ∀ c ∈ keyB x n, c ≠ 124 := by
  intro c hc e
  unfold keyB at hc
  obtain ⟨i, hi, hc⟩ := List.mem_flatMap.1 hc
  have h1 : i < n := List.mem_range.1 (List.mem_filter.1 hi).1
  simp only [List.mem_cons, List.not_mem_nil, or_false] at hc
  have e2 := congrArg UInt8.toNat e
  rcases hc with h | h <;> rw [h, UInt8.toNat_ofNat'] at e2 <;> simp at e2 <;> omega
theorem keyT_inj {x x' n : Nat} {m m' : MSt} {k : ByteArray} (hn : n ≤ 100) (hx : x < 2 ^ n) (hx' : x' < 2 ^ n) (w : WfM m) (w' : WfM m') (h : keyT x n m = some k) (h' : keyT x' n m' = some k) : x = x' ∧ m = m' := by
  unfold keyT model_State_Text_f at h h'
  split at h
  case isFalse => cases h
  case isTrue =>
    split at h'
    case isFalse => cases h'
    case isTrue =>
      have h := Option.some.inj h
      have h' := Option.some.inj h'
      have e : keyB x n ++ 124 :: textS m.lists m.regs = keyB x' n ++ 124 :: textS m'.lists m'.regs := by
        have := congrArg byL (h.trans h'.symm)
        simpa only [byL_ba] using this
      obtain ⟨e1, e2⟩ := cutC 124 (keyB_124 hn) (keyB_124 hn) e
      refine ⟨?_, ?_⟩
      · have lt : ∀ {z : Nat}, ∀ i ∈ (List.range n).filter (fun j => z.testBit j), i < 100 := fun i hi => by
          have := List.mem_range.1 (List.mem_filter.1 hi).1; omega
        have e3 := pairs_inj lt lt e1
        apply Nat.eq_of_testBit_eq
        intro i
        by_cases hi : i < n
        · have h1 : i ∈ (List.range n).filter (fun j => x.testBit j) ↔ i ∈ (List.range n).filter (fun j => x'.testBit j) := by rw [e3]
          simp only [List.mem_filter, List.mem_range, hi, true_and] at h1
          exact Bool.eq_iff_iff.2 h1
        · rw [Nat.testBit_lt_two_pow (Nat.lt_of_lt_of_le hx (Nat.pow_le_pow_right (by decide) (by omega))), Nat.testBit_lt_two_pow (Nat.lt_of_lt_of_le hx' (Nat.pow_le_pow_right (by decide) (by omega)))]
      · obtain ⟨e3, e4⟩ := textS_inj w.1 w'.1 w.2.1 w'.2.1 e2
        cases m; cases m'; simp only at e3 e4; rw [e3, e4]
/-! ### what can be gone on from -/
def leftX (l : List Txn) (x : Nat) : Int := ((List.range l.length).filter fun n => (tn l n).state == 1 && !x.testBit n).length
inductive Can (l : List Txn) : Nat → MSt → Prop
  | here {x : Nat} {m : MSt} : leftX l x = 0 → Can l x m
  | step {x n : Nat} {m m' : MSt} : n < l.length → mayB l x n = true → model_State_Apply_f m (tn l n).ops ((tn l n).state == 3) = some (true, m') → Can l (x ||| 2 ^ n) m' → Can l x m
def maskOf (o : List Nat) : Nat := o.foldr (fun n x => x ||| 2 ^ n) 0
theorem mask_bit (o : List Nat) : ∀ i, (maskOf o).testBit i = decide (i ∈ o) := by
  induction o with
  | nil => intro i; simp [maskOf]
  | cons n o ih => exact or_bit ih
theorem mask_eq {x : Nat} {o : List Nat} (h : ∀ i, x.testBit i = decide (i ∈ o)) : x = maskOf o := Nat.eq_of_testBit_eq fun i => by rw [h, mask_bit]
theorem leftX_O (l : List Txn) (o : List Nat) : leftX l (maskOf o) = leftO l o := by
  unfold leftX leftO
  congr 2
  apply List.filter_congr
  intro n _
  rw [mask_bit]
def Vis (l : List Txn) (met : ByteArray → Option Bool) (y : Nat) (m : MSt) : Prop := ∃ key, keyT y l.length m = some key ∧ (met key).getD false = true
def OnS (l : List Txn) (stk : List Fr) (y : Nat) (m : MSt) (n : Nat) : Prop := ∃ pre f r o, stk = pre ++ f :: r ∧ Stk l (f :: r) o ∧ maskOf o = y ∧ f.st = m ∧ f.next ≤ n
def Seen (l : List Txn) (met : ByteArray → Option Bool) (y : Nat) (m : MSt) : Prop := Vis l met y m ∨ (y = 0 ∧ m = model_New_f)
/-- Of whatever was met: there is something left, and what may follow was met too, or is tried later. -/
def J (l : List Txn) (stk : List Fr) (met : ByteArray → Option Bool) : Prop := ∀ y m, y < 2 ^ l.length → WfM m → Seen l met y m →
  leftX l y ≠ 0 ∧ ∀ n, n < l.length → mayB l y n = true → ∀ m', model_State_Apply_f m (tn l n).ops ((tn l n).state == 3) = some (true, m') → Vis l met (y ||| 2 ^ n) m' ∨ OnS l stk y m n
theorem Stk.uniq {l : List Txn} {stk : List Fr} {o : List Nat} (h : Stk l stk o) : ∀ {o'}, Stk l stk o' → o = o' := by
  induction h with
  | base k hk => intro o' h'; cases h'; rfl
  | @push f r o n k m h1 _ _ _ _ ih =>
    intro o' h'
    generalize hx : ((n : Int)) = v at h'
    cases h' with
    | push h2 _ _ _ _ =>
      have : n = _ := Int.ofNat.inj hx
      subst this
      rw [ih h2]
theorem Stk.wf {l : List Txn} {stk : List Fr} {o : List Nat} (h : Stk l stk o) : ∀ f ∈ stk, WfM f.st := by
  induction h with
  | base k hk => intro f hf; rw [List.mem_singleton.1 hf]; exact wf_nil
  | @push f r o n k m h1 _ _ h4 _ ih =>
    intro g hg
    rcases List.mem_cons.1 hg with e | e
    · subst e; exact apply_wf (ih f (by simp)) h4
    · exact ih g e
theorem Stk.mem_lt {l : List Txn} {stk : List Fr} {o : List Nat} (h : Stk l stk o) : ∀ n ∈ o, n < l.length := by
  induction h with
  | base => intro n hn; cases hn
  | push _ h2 _ _ _ ih =>
    intro n hn
    rcases List.mem_cons.1 hn with e | e
    · subst e; exact h2
    · exact ih n e
theorem mask_lt {o : List Nat} {k : Nat} (h : ∀ n ∈ o, n < k) : maskOf o < 2 ^ k := by
  apply Nat.lt_pow_two_of_testBit
  intro i hi
  rw [mask_bit]
  simp only [decide_eq_false_iff_not]
  intro hm
  have := h i hm; omega
theorem J.done {l : List Txn} {met : ByteArray → Option Bool} (h : J l [] met) {x : Nat} {m : MSt} (hC : Can l x m) : x < 2 ^ l.length → WfM m → Seen l met x m → False := by
  induction hC with
  | here h0 => intro hx hw hs; exact (h _ _ hx hw hs).1 h0
  | @step x n m m' hn hm hA hC ih =>
    intro hx hw hs
    rcases (h _ _ hx hw hs).2 n hn hm m' hA with hv | ⟨pre, f, r, o, e, _⟩
    · exact ih (Nat.or_lt_two_pow hx (Nat.pow_lt_pow_right (by decide) hn)) (apply_wf hw hA) (.inl hv)
    · exact absurd e (by simp)
theorem OnS.pop {l : List Txn} {f : Fr} {r : List Fr} {y n : Nat} {m : MSt} (h : OnS l (f :: r) y m n) : (∃ o, Stk l (f :: r) o ∧ maskOf o = y ∧ f.st = m ∧ f.next ≤ n) ∨ OnS l r y m n := by
  obtain ⟨pre, f', r', o, e, h1, h2⟩ := h
  cases pre with
  | nil => cases e; exact .inl ⟨o, h1, h2⟩
  | cons g pre => rw [List.cons_append] at e; exact .inr ⟨pre, f', r', o, (List.cons.inj e).2, h1, h2⟩
theorem OnS.under {l : List Txn} {g : Fr} {r : List Fr} {y n : Nat} {m : MSt} (h : OnS l r y m n) : OnS l (g :: r) y m n := by
  obtain ⟨pre, f', r', o, e, h1⟩ := h
  exact ⟨g :: pre, f', r', o, by rw [e]; rfl, h1⟩
theorem OnS.top {l : List Txn} {f : Fr} {r : List Fr} {o : List Nat} {n : Nat} (h : Stk l (f :: r) o) (hn : f.next ≤ n) : OnS l (f :: r) (maskOf o) f.st n := ⟨[], f, r, o, rfl, h, rfl, rfl, hn⟩
theorem J.pop {l : List Txn} {f : Fr} {r : List Fr} {met : ByteArray → Option Bool} (h : J l (f :: r) met) (hf : f.next = l.length) : J l r met := fun y m hy hw hs => by
  obtain ⟨h1, h2⟩ := h y m hy hw hs
  refine ⟨h1, fun n hn hm m' hA => ?_⟩
  rcases h2 n hn hm m' hA with hv | ho
  · exact .inl hv
  · rcases ho.pop with ⟨o, _, _, _, hle⟩ | ho
    · omega
    · exact .inr ho
theorem J.next {l : List Txn} {f : Fr} {r : List Fr} {o : List Nat} {met : ByteArray → Option Bool} (h : J l (f :: r) met) (hS : Stk l (f :: r) o) (hf : f.next < l.length)
    (hc : mayB l (maskOf o) f.next = true → ∀ m', model_State_Apply_f f.st (tn l f.next).ops ((tn l f.next).state == 3) = some (true, m') → Vis l met (maskOf o ||| 2 ^ f.next) m') : J l (⟨f.last, f.next + 1, f.st⟩ :: r) met := fun y m hy hw hs => by
  obtain ⟨h1, h2⟩ := h y m hy hw hs
  refine ⟨h1, fun n hn hm m' hA => ?_⟩
  rcases h2 n hn hm m' hA with hv | ho
  · exact .inl hv
  · rcases ho.pop with ⟨o', g1, g2, g3, g4⟩ | ho
    · obtain rfl := hS.uniq g1
      subst g2; subst g3
      by_cases e : n = f.next
      · subst e; exact .inl (hc hm m' hA)
      · exact .inr (OnS.top (f := ⟨f.last, f.next + 1, f.st⟩) (hS.next (by omega)) (by show f.next + 1 ≤ n; omega))
    · exact .inr ho.under
theorem Vis.more {l : List Txn} {met : ByteArray → Option Bool} {y : Nat} {m : MSt} (h : Vis l met y m) (key : ByteArray) : Vis l (fset met key true) y m := by
  obtain ⟨k, h1, h2⟩ := h
  refine ⟨k, h1, ?_⟩
  unfold fset
  split
  · rfl
  · exact h2
theorem J.push {l : List Txn} {f : Fr} {r : List Fr} {o : List Nat} {met : ByteArray → Option Bool} {m0 : MSt} {key : ByteArray} (hl : l.length ≤ 100) (h : J l (f :: r) met) (hS : Stk l (f :: r) o) (hf : f.next < l.length) (hA0 : model_State_Apply_f f.st (tn l f.next).ops ((tn l f.next).state == 3) = some (true, m0))
    (hM : MayO l o f.next) (hK : keyT (maskOf o ||| 2 ^ f.next) l.length m0 = some key) (h0 : leftO l (f.next :: o) ≠ 0) : J l (⟨f.next, 0, m0⟩ :: ⟨f.last, f.next + 1, f.st⟩ :: r) (fset met key true) := by
  have hS2 := hS.next (k := f.next + 1) (by omega)
  have hS3 : Stk l (⟨f.next, 0, m0⟩ :: ⟨f.last, f.next + 1, f.st⟩ :: r) (f.next :: o) := .push hS2 hf hM hA0 (Nat.zero_le _)
  have hmk : maskOf o ||| 2 ^ f.next = maskOf (f.next :: o) := rfl
  have hw0 : WfM m0 := hS3.wf ⟨f.next, 0, m0⟩ (by simp)
  have hx0 : maskOf (f.next :: o) < 2 ^ l.length := mask_lt hS3.mem_lt
  have hnew : Vis l (fset met key true) (maskOf o ||| 2 ^ f.next) m0 := ⟨key, hK, by unfold fset; rw [if_pos rfl]; rfl⟩
  intro y m hy hw hs
  have cases_ : (y = maskOf (f.next :: o) ∧ m = m0) ∨ Seen l met y m := by
    rcases hs with ⟨k, h1, h2⟩ | h
    · unfold fset at h2
      by_cases e : k = key
      · subst e
        rw [hmk] at hK
        exact .inl (keyT_inj hl hy hx0 hw hw0 h1 hK)
      · rw [if_neg e] at h2
        exact .inr (.inl ⟨k, h1, h2⟩)
    · exact .inr (.inr h)
  rcases cases_ with ⟨rfl, rfl⟩ | hs
  · refine ⟨by rw [leftX_O]; exact h0, fun n hn hm m' hA => .inr ?_⟩
    exact OnS.top hS3 (Nat.zero_le _)
  · obtain ⟨h1, h2⟩ := h y m hy hw hs
    refine ⟨h1, fun n hn hm m' hA => ?_⟩
    rcases h2 n hn hm m' hA with hv | ho
    · exact .inl (hv.more key)
    · rcases ho.pop with ⟨o', g1, g2, g3, g4⟩ | ho
      · obtain rfl := hS.uniq g1
        subst g2; subst g3
        by_cases e : n = f.next
        · subst e
          rw [hA0] at hA
          cases hA
          exact .inl hnew
        · exact .inr (OnS.top (f := ⟨f.last, f.next + 1, f.st⟩) hS2 (by show f.next + 1 ≤ n; omega)).under
      · exact .inr ho.under.under
theorem srun_no {l : List Txn} {budget : Int} (hl : l.length ≤ 100) : ∀ (k : Nat) (stk : List Fr) (x : Nat) (met : ByteArray → Option Bool) (left taken : Int) (t : Int) (ord : List Int), Inv l stk x left → J l stk met → srun l budget k stk x met left taken = some (2, ord, t) → ∃ met', J l [] met'
  | 0, _, _, _, _, _, _, _, _, _, h => by cases h
  | k + 1, [], x, met, left, taken, t, o, hI, hJ, h => ⟨met, hJ⟩
  | k + 1, f :: r, x, met, left, taken, t, ord, hI, hJ, h => by
    simp only [srun] at h
    by_cases h1 : f.next = l.length
    · rw [if_pos h1] at h
      exact srun_no hl k _ _ _ _ _ _ _ (inv_pop hI) (hJ.pop h1) h
    · rw [if_neg h1] at h
      have hlt := inv_lt hI h1
      obtain ⟨o, hS, hx, hleft, -⟩ : ∃ o, Stk l (f :: r) o ∧ (∀ i, x.testBit i = decide (i ∈ o)) ∧ left = leftO l o ∧ leftO l o ≠ 0 := by
        rcases hI with h | h
        · cases h
        · exact h
      obtain rfl := mask_eq hx
      by_cases h2 : mayB l (maskOf o) f.next = false
      · rw [if_pos h2] at h
        exact srun_no hl k _ _ _ _ _ _ _ (inv_next hI h1) (hJ.next hS hlt (fun h => by rw [h2] at h; cases h)) h
      · rw [if_neg h2] at h
        by_cases h3 : taken = budget
        · rw [if_pos h3] at h
          have h := Option.some.inj h
          cases h
        · rw [if_neg h3] at h
          cases hA : model_State_Apply_f f.st (tn l f.next).ops ((tn l f.next).state == 3) with
          | none => rw [hA] at h; cases h
          | some q =>
            rw [hA] at h
            simp only [Option.bind_some] at h
            obtain ⟨q1, m⟩ := q
            by_cases h4 : q1 = false
            · subst h4
              simp only [if_true] at h
              exact srun_no hl k _ _ _ _ _ _ _ (inv_next hI h1) (hJ.next hS hlt (fun _ m' e => by rw [hA] at e; cases e)) h
            · rw [if_neg h4] at h
              obtain rfl : q1 = true := by simpa using h4
              cases hK : keyT (maskOf o ||| 2 ^ f.next) l.length m with
              | none => rw [hK] at h; cases h
              | some key =>
                rw [hK] at h
                simp only [Option.bind_some] at h
                by_cases h5 : (met key).getD false = true
                · rw [if_pos h5] at h
                  exact srun_no hl k _ _ _ _ _ _ _ (inv_next hI h1) (hJ.next hS hlt (fun _ m' e => by rw [hA] at e; cases e; exact ⟨key, hK, h5⟩)) h
                · rw [if_neg h5] at h
                  have hM := (mayB_iff (mask_bit o)).1 (by simpa using h2)
                  by_cases h6 : left - okI (tn l f.next) = 0
                  · rw [if_pos h6] at h
                    have h' := Option.some.inj h
                    cases h'
                  · rw [if_neg h6] at h
                    have hlo : leftO l (f.next :: o) ≠ 0 := by rw [leftO_cons hlt hM.2.1, ← hleft]; exact h6
                    have hS3 : Stk l (⟨f.next, 0, m⟩ :: ⟨f.last, f.next + 1, f.st⟩ :: r) (f.next :: o) := .push (hS.next (by omega)) hlt hM hA (Nat.zero_le _)
                    refine srun_no hl k _ _ _ _ _ _ _ (.inr ⟨f.next :: o, hS3, or_bit (mask_bit o), ?_, hlo⟩) (hJ.push hl hS hlt hA hM hK hlo) h
                    rw [leftO_cons hlt hM.2.1, hleft]
/-- An answer 'no': nothing shows it. -/
theorem search_no {fuel : Nat} {l : List Txn} {steps t : Int} {ord : List Int} (hl : l.length ≤ 100) (h : search_f fuel l steps = some (2, ord, t)) : ¬ Can l 0 model_New_f := by
  unfold search_f at h
  rw [if_neg (by omega)] at h
  by_cases h0 : okN l = 0
  · rw [if_pos h0] at h
    have h := Option.some.inj h
    cases h
  · rw [if_neg h0] at h
    have hJ0 : J l [⟨-1, 0, model_New_f⟩] fnil := by
      intro y m hy hw hs
      have hb : Stk l [⟨-1, 0, model_New_f⟩] [] := .base 0 (Nat.zero_le _)
      rcases hs with ⟨k, _, h2⟩ | ⟨rfl, rfl⟩
      · simp [fnil] at h2
      · refine ⟨?_, fun n hn hm m' hA => .inr (OnS.top hb (Nat.zero_le _))⟩
        have := leftX_O l []
        rw [show maskOf [] = 0 from rfl] at this
        rw [this, ← okN_eq]; exact h0
    obtain ⟨met', hJ⟩ := srun_no hl fuel _ _ _ _ _ _ _ (inv_start h0) hJ0 h
    intro hC
    exact hJ.done hC (Nat.two_pow_pos _) wf_nil (.inr ⟨rfl, rfl⟩)
/-- An order that shows it can be gone on to. -/
theorem Stk.can {l : List Txn} {stk : List Fr} {o : List Nat} (h : Stk l stk o) : ∀ f r, stk = f :: r → Can l (maskOf o) f.st → Can l 0 model_New_f := by
  induction h with
  | base k hk => intro f r e hC; cases e; exact hC
  | @push f r o n k m h1 h2 h3 h4 h5 ih =>
    intro f' r' e hC
    cases e
    exact ih f r rfl (.step h2 ((mayB_iff (mask_bit o)).2 h3) h4 hC)
theorem Shows.can {l : List Txn} {ord : List Int} (h : Shows l ord) : Can l 0 model_New_f := by
  obtain ⟨stk, o, h1, h2, -⟩ := h
  cases stk with
  | nil => cases h1
  | cons f r => exact h1.can f r rfl (.here (by rw [leftX_O]; exact h2))
end Go.Proofs.YtemdmpgekegfhaaDoor
end

section
namespace Go.Proofs.YtemdmpgekegfhaaDoor
open Go.RowKit
set_option linter.all false
set_option maxRecDepth 10000

/-- What is done behind a beginning is never out of bounds. -/
def Runs (l : List Txn) : Prop := ∀ f r o n, Stk l (f :: r) o → n < l.length → MayO l o n → ∃ b m', model_State_Apply_f f.st (tn l n).ops ((tn l n).state == 3) = some (b, m') ∧ (b = true → ∃ t, model_State_Text_f m' = some t)
def sumN (l : List Txn) (stk : List Fr) : Nat := (stk.map fun f => l.length - f.next + 1).sum
theorem srun_some {l : List Txn} {budget : Int} (hR : Runs l) : ∀ (k : Nat) (stk : List Fr) (x : Nat) (met : ByteArray → Option Bool) (left taken : Int), Inv l stk x left → taken ≤ budget → sumN l stk + (budget - taken).toNat * (l.length + 2) < k → ∃ R, srun l budget k stk x met left taken = some R
  | 0, _, _, _, _, _, _, _, h => by omega
  | k + 1, [], x, met, left, taken, _, _, _ => ⟨_, rfl⟩
  | k + 1, f :: r, x, met, left, taken, hI, ht, hk => by
    simp only [srun]
    have e0 : sumN l (f :: r) = (l.length - f.next + 1) + sumN l r := by simp [sumN]
    have e1 : sumN l (⟨f.last, f.next + 1, f.st⟩ :: r) = (l.length - (f.next + 1) + 1) + sumN l r := by simp [sumN]
    rw [e0] at hk
    by_cases h1 : f.next = l.length
    · rw [if_pos h1]
      exact srun_some hR k _ _ _ _ _ (inv_pop hI) ht (by omega)
    · rw [if_neg h1]
      have hlt := inv_lt hI h1
      by_cases h2 : mayB l x f.next = false
      · rw [if_pos h2]
        exact srun_some hR k _ _ _ _ _ (inv_next hI h1) ht (by rw [e1]; omega)
      · rw [if_neg h2]
        by_cases h3 : taken = budget
        · rw [if_pos h3]; exact ⟨_, rfl⟩
        · rw [if_neg h3]
          obtain ⟨o, hS, hx, hleft, -⟩ : ∃ o, Stk l (f :: r) o ∧ (∀ i, x.testBit i = decide (i ∈ o)) ∧ left = leftO l o ∧ leftO l o ≠ 0 := by
            rcases hI with h | h
            · cases h
            · exact h
          have hM := (mayB_iff hx).1 (by simpa using h2)
          obtain ⟨b, m', hA, hT⟩ := hR f r o f.next hS hlt hM
          rw [hA]
          simp only [Option.bind_some]
          obtain ⟨c, hc⟩ : ∃ c, (budget - taken).toNat = c + 1 := ⟨(budget - taken).toNat - 1, by omega⟩
          have hc2 : (budget - (taken + 1)).toNat = c := by omega
          rw [hc, Nat.succ_mul] at hk
          have hnext : ∃ R, srun l budget k (⟨f.last, f.next + 1, f.st⟩ :: r) x met left (taken + 1) = some R := srun_some hR k _ _ _ _ _ (inv_next hI h1) (by omega) (by rw [e1, hc2]; omega)
          cases b with
          | false => simpa using hnext
          | true =>
            simp only [Bool.true_eq_false, if_false]
            obtain ⟨t, hT⟩ := hT rfl
            have hK : keyT (x ||| 2 ^ f.next) l.length m' = some (ba (keyB (x ||| 2 ^ f.next) l.length ++ 124 :: byL t)) := by unfold keyT; rw [hT]; rfl
            rw [hK]
            simp only [Option.bind_some]
            split
            · exact hnext
            · split
              · exact ⟨_, rfl⟩
              · rename_i h6
                obtain ⟨o', g1, g2, g3⟩ := push_inv hI h1 h2 hA
                refine srun_some hR k _ _ _ _ _ (.inr ⟨o', g1, g2, g3, by omega⟩) (by omega) ?_
                have e2 : sumN l (⟨f.next, 0, m'⟩ :: ⟨f.last, f.next + 1, f.st⟩ :: r) = (l.length + 1) + ((l.length - (f.next + 1) + 1) + sumN l r) := by simp [sumN]
                rw [e2, hc2]; omega
theorem search_some {l : List Txn} (hR : Runs l) (hl : l.length ≤ 300) (steps : Int) {fuel : Nat} (hf : 100000000 ≤ fuel) : ∃ R, search_f fuel l steps = some R := by
  unfold search_f
  rw [if_neg (by omega)]
  by_cases h0 : okN l = 0
  · rw [if_pos h0]; exact ⟨_, rfl⟩
  · rw [if_neg h0]
    refine srun_some hR fuel _ _ _ _ _ (inv_start h0) (by omega) ?_
    have e : sumN l [⟨-1, 0, model_New_f⟩] = l.length + 1 := by simp [sumN]
    rw [e]
    have h1 : (min (max steps 0) 200000 - 0 : Int).toNat ≤ 200000 := by omega
    have := Nat.mul_le_mul h1 (show l.length + 2 ≤ 302 by omega)
    omega
/-! ### how many steps there can be -/
def Sx : Nat → Nat
  | 0 => 0
  | d + 1 => (d + 1) * (1 + Sx d)
def cnt (len k : Nat) (o : List Nat) : Nat := ((List.range len).filter fun n => decide (k ≤ n) && !decide (n ∈ o)).length
theorem cnt_le {len k : Nat} {o : List Nat} (j : Nat) (h : k ≤ j) : cnt len j o ≤ cnt len k o := by
  unfold cnt
  rw [← List.countP_eq_length_filter, ← List.countP_eq_length_filter]
  apply List.countP_mono_left
  intro n _ hn
  simp only [Bool.and_eq_true, decide_eq_true_eq] at hn ⊢
  exact ⟨by omega, hn.2⟩
theorem cnt_step {k : Nat} {o : List Nat} (ho : k ∉ o) : ∀ (len : Nat), k < len → cnt len k o = cnt len (k + 1) o + 1
  | 0, h => by omega
  | len + 1, h => by
    unfold cnt
    rw [List.range_succ, List.filter_append, List.filter_append, List.length_append, List.length_append]
    by_cases e : len = k
    · subst e
      have h1 : (List.range len).filter (fun n => decide (len ≤ n) && !decide (n ∈ o)) = [] := by
        rw [List.filter_eq_nil_iff]; intro n hn; have := List.mem_range.1 hn; simp; omega
      have h2 : (List.range len).filter (fun n => decide (len + 1 ≤ n) && !decide (n ∈ o)) = [] := by
        rw [List.filter_eq_nil_iff]; intro n hn; have := List.mem_range.1 hn; simp; omega
      rw [h1, h2]
      simp [ho]
    · have ih := cnt_step ho len (by omega)
      unfold cnt at ih
      rw [ih]
      have h1 : ([len].filter fun n => decide (k ≤ n) && !decide (n ∈ o)) = [len].filter fun n => decide (k + 1 ≤ n) && !decide (n ∈ o) := by
        apply List.filter_congr
        intro n hn
        rw [List.mem_singleton] at hn; subst hn
        congr 1
        exact decide_eq_decide.2 (by omega)
      rw [h1]; omega
theorem cnt_zero {len : Nat} : ∀ {o : List Nat}, o.Nodup → (∀ n ∈ o, n < len) → cnt len 0 o = len - o.length ∧ o.length ≤ len
  | [], _, _ => ⟨by unfold cnt; rw [List.filter_eq_self.2 (fun a _ => by simp)]; simp, by simp⟩
  | n :: o, h1, h2 => by
    obtain ⟨hn, hd⟩ := List.nodup_cons.1 h1
    obtain ⟨e, hle⟩ := cnt_zero hd fun m hm => h2 m (by simp [hm])
    have hlt := h2 n (by simp)
    have gen : ∀ L, n < L → cnt L 0 o = cnt L 0 (n :: o) + 1 := by
      intro L
      induction L with
      | zero => intro h; omega
      | succ L ih =>
        intro h
        unfold cnt at ih ⊢
        rw [List.range_succ, List.filter_append, List.filter_append, List.length_append, List.length_append]
        by_cases e : L = n
        · subst e
          have h1 : (List.range L).filter (fun m => decide (0 ≤ m) && !decide (m ∈ L :: o)) = (List.range L).filter fun m => decide (0 ≤ m) && !decide (m ∈ o) := by
            apply List.filter_congr
            intro m hm
            have := List.mem_range.1 hm
            have : ¬ m = L := by omega
            simp [this]
          rw [h1]; simp [hn]
        · have h1 : ([L].filter fun m => decide (0 ≤ m) && !decide (m ∈ n :: o)) = [L].filter fun m => decide (0 ≤ m) && !decide (m ∈ o) := by
            apply List.filter_congr
            intro m hm
            rw [List.mem_singleton] at hm; subst hm
            simp [e]
          rw [ih (by omega), h1]; omega
    have := gen len hlt
    rw [List.length_cons]; omega
def Pot (len : Nat) : List Fr → List Nat → Nat
  | [], _ => 0
  | f :: r, o => cnt len f.next o * (1 + Sx (len - o.length - 1)) + Pot len r o.tail
theorem Stk.nodup {l : List Txn} {stk : List Fr} {o : List Nat} (h : Stk l stk o) : o.Nodup := by
  induction h with
  | base => exact List.nodup_nil
  | push _ _ h3 _ _ ih => exact List.nodup_cons.2 ⟨h3.2.1, ih⟩
theorem srun_few {l : List Txn} {budget : Int} {B : Nat} : ∀ (k : Nat) (stk : List Fr) (o : List Nat) (x : Nat) (met : ByteArray → Option Bool) (left taken : Int) (a t : Int) (ord : List Int), (stk = [] ∨ Stk l stk o ∧ (∀ i, x.testBit i = decide (i ∈ o))) → taken + Pot l.length stk o ≤ B → srun l budget k stk x met left taken = some (a, ord, t) → t ≤ B
  | 0, _, _, _, _, _, _, _, _, _, _, _, h => by cases h
  | k + 1, [], o, x, met, left, taken, a, t, ord, hI, hB, h => by
    simp only [srun] at h
    have h := Option.some.inj h
    cases h
    omega
  | k + 1, f :: r, o, x, met, left, taken, a, t, ord, hI, hB, h => by
    obtain ⟨hS, hx⟩ : Stk l (f :: r) o ∧ ∀ i, x.testBit i = decide (i ∈ o) := by
      rcases hI with h | h
      · cases h
      · exact h
    simp only [srun] at h
    simp only [Pot] at hB
    by_cases h1 : f.next = l.length
    · rw [if_pos h1] at h
      cases hS with
      | base => exact srun_few k [] [] _ _ _ _ _ _ _ (.inl rfl) (by simp only [Pot] at hB ⊢; omega) h
      | @push f' r' o' n k' m g1 g2 g3 g4 g5 =>
        refine srun_few k (f' :: r') o' _ _ _ _ _ _ _ (.inr ⟨g1, ?_⟩) (by simp only [List.tail_cons] at hB; omega) h
        show ∀ i, (popX x (n : Int)).testBit i = _
        unfold popX; rw [if_neg (by omega)]
        exact drop_bit hx g3.2.1
    · rw [if_neg h1] at h
      have hlt : f.next < l.length := by have := hS.le; omega
      have hS2 := hS.next (k := f.next + 1) (by omega)
      have hle := cnt_le (len := l.length) (k := f.next) (o := o) (f.next + 1) (by omega)
      have hmul := Nat.mul_le_mul_right (1 + Sx (l.length - o.length - 1)) hle
      by_cases h2 : mayB l x f.next = false
      · rw [if_pos h2] at h
        exact srun_few k _ o _ _ _ _ _ _ _ (.inr ⟨hS2, hx⟩) (by simp only [Pot]; omega) h
      · rw [if_neg h2] at h
        have hM := (mayB_iff hx).1 (by simpa using h2)
        have hst := cnt_step hM.2.1 l.length hlt
        have hst2 : cnt l.length f.next o * (1 + Sx (l.length - o.length - 1)) = cnt l.length (f.next + 1) o * (1 + Sx (l.length - o.length - 1)) + (1 + Sx (l.length - o.length - 1)) := by rw [hst, Nat.succ_mul]
        by_cases h3 : taken = budget
        · rw [if_pos h3] at h
          have h := Option.some.inj h
          cases h
          omega
        · rw [if_neg h3] at h
          cases hA : model_State_Apply_f f.st (tn l f.next).ops ((tn l f.next).state == 3) with
          | none => rw [hA] at h; cases h
          | some q =>
            rw [hA] at h
            simp only [Option.bind_some] at h
            obtain ⟨q1, m⟩ := q
            by_cases h4 : q1 = false
            · subst h4
              simp only [if_true] at h
              exact srun_few k _ o _ _ _ _ _ _ _ (.inr ⟨hS2, hx⟩) (by simp only [Pot]; omega) h
            · rw [if_neg h4] at h
              obtain rfl : q1 = true := by simpa using h4
              cases hK : keyT (x ||| 2 ^ f.next) l.length m with
              | none => rw [hK] at h; cases h
              | some key =>
                rw [hK] at h
                simp only [Option.bind_some] at h
                by_cases h5 : (met key).getD false = true
                · rw [if_pos h5] at h
                  exact srun_few k _ o _ _ _ _ _ _ _ (.inr ⟨hS2, hx⟩) (by simp only [Pot]; omega) h
                · rw [if_neg h5] at h
                  by_cases h6 : left - okI (tn l f.next) = 0
                  · rw [if_pos h6] at h
                    have h' := Option.some.inj h
                    cases h'
                    omega
                  · rw [if_neg h6] at h
                    have hS3 : Stk l (⟨f.next, 0, m⟩ :: ⟨f.last, f.next + 1, f.st⟩ :: r) (f.next :: o) := .push hS2 hlt hM hA (Nat.zero_le _)
                    refine srun_few k _ (f.next :: o) _ _ _ _ _ _ _ (.inr ⟨hS3, or_bit hx⟩) ?_ h
                    obtain ⟨hc, hcl⟩ := cnt_zero hS3.nodup hS3.mem_lt
                    simp only [Pot, List.tail_cons, List.length_cons] at hc hcl ⊢
                    have hd : cnt l.length 0 (f.next :: o) * (1 + Sx (l.length - (o.length + 1) - 1)) = Sx (l.length - o.length - 1) := by
                      rw [hc]
                      cases hq : l.length - o.length - 1 with
                      | zero => simp [Sx]
                      | succ d => simp [Sx]
                    rw [hd]; omega
theorem Sx_mono : ∀ (a b : Nat), a ≤ b → Sx a ≤ Sx b := by
  have st : ∀ d, Sx d ≤ Sx (d + 1) := fun d => by
    show Sx d ≤ (d + 1) * (1 + Sx d)
    rw [Nat.succ_mul]; omega
  intro a b h
  induction h with
  | refl => exact Nat.le_refl _
  | step _ ih => exact Nat.le_trans ih (st _)
/-- Of at most five transactions no more than 325 steps are taken. -/
theorem search_few {fuel : Nat} {l : List Txn} {steps a t : Int} {ord : List Int} (hl : l.length ≤ 5) (h : search_f fuel l steps = some (a, ord, t)) : t ≤ 325 := by
  unfold search_f at h
  rw [if_neg (by omega)] at h
  by_cases h0 : okN l = 0
  · rw [if_pos h0] at h
    have h := Option.some.inj h
    cases h; omega
  · rw [if_neg h0] at h
    refine srun_few (B := 325) fuel _ [] _ _ _ _ _ _ _ (.inr ⟨.base 0 (Nat.zero_le _), fun i => by simp⟩) ?_ h
    simp only [Pot, List.length_nil]
    have e := (cnt_zero (len := l.length) (o := []) List.nodup_nil (fun n hn => by cases hn)).1
    rw [e]
    have e2 : (l.length - ([] : List Nat).length) * (1 + Sx (l.length - 0 - 1)) = Sx l.length := by
      cases hq : l.length with
      | zero => simp [Sx]
      | succ d => simp [Sx]
    rw [e2]
    have := Sx_mono l.length 5 hl
    have e5 : Sx 5 = 325 := rfl
    omega
end Go.Proofs.YtemdmpgekegfhaaDoor
end

section
namespace Go.Proofs.YtemdmpgekegfhaaDoor
open Go.RowKit
set_option linter.all false
set_option maxRecDepth 10000

theorem dropB_bit (x i q : Nat) : (dropB x i).testBit q = (x.testBit q && !decide (q = i)) := by
  unfold dropB
  split
  · rename_i h
    rw [Nat.testBit_xor, Nat.testBit_two_pow]
    by_cases e : i = q
    · subst e; simp [h]
    · have : ¬ q = i := fun h => e h.symm
      simp [e, this]
  · rename_i h
    by_cases e : q = i
    · subst e; simp at h; simp [h]
    · simp [e]
theorem andnot_u64 (a b : Nat) : bits .andNot .u64 (a : Int) (b : Int) = (((BitVec.ofNat 64 a &&& ~~~(BitVec.ofNat 64 b)).toNat : Nat) : Int) := by
  have hx : (BitVec.ofNat 64 a &&& ~~~(BitVec.ofNat 64 b)).toNat < 2 ^ 64 := BitVec.isLt _
  show IntKind.u64.wrap ((BitVec.ofInt 64 (a : Int) &&& ~~~(BitVec.ofInt 64 (b : Int))).toNat : Int) = _
  rw [BitVec.ofInt_natCast, BitVec.ofInt_natCast, IntKind.wrap_u64]
  omega
theorem wd_drop (x i : Nat) : (BitVec.ofNat 64 (wd x (i / 64)) &&& ~~~(BitVec.ofNat 64 (2 ^ (i % 64)))).toNat = wd (dropB x i) (i / 64) := by
  apply Nat.eq_of_testBit_eq
  intro j
  rw [BitVec.testBit_toNat, BitVec.getLsbD_and, BitVec.getLsbD_not, BitVec.getLsbD_ofNat, BitVec.getLsbD_ofNat, wd_bit, wd_bit, dropB_bit, Nat.testBit_two_pow]
  by_cases hj : j < 64
  · have e : decide (64 * (i / 64) + j = i) = decide (i % 64 = j) := decide_eq_decide.2 (by omega)
    rw [e]; simp [hj]
  · simp [hj]
theorem word_drop {n i x : Nat} : (wordsC n x).setIfInBounds (i / 64) (.int .u64 (wd (dropB x i) (i / 64) : Nat)) = wordsC n (dropB x i) :=
  wordsC_set fun j _ hj => by
    apply Nat.eq_of_testBit_eq
    intro q
    rw [wd_bit, wd_bit, dropB_bit]
    by_cases hq : q < 64
    · have : ¬ 64 * j + q = i := by omega
      simp [this]
    · simp [hq]
set_option maxHeartbeats 2000000 in
theorem bdrop_c {E : World} {s : SH} {L : List HP} {w : World} {p b n i x k : Nat} (hi : i < n) (hn : n ≤ 300) (H : Holds E s L w) (hs : SetAt s p b n) (hk : L[k]? = some (wordP n x b)) :
    Calls Tryd.prog 169 #[.pointer (some ⟨p, 0, none⟩), .int .i64 i] w fun e w' => e = .returned (.int .i64 0) ∧ Holds E s (L.set k (wordP n (dropB x i) b)) w' := by
  have hA := at_c (w := w) hi hn (set_c H hs 0) (set_c H hs 1) (set_c H hs 2)
  have hw : i / 64 < mw n := by unfold mw; omega
  have H := H.drew
  have hf := wordp_f H hk (i / 64)
  have e1 := andnot_u64 (wd x (i / 64)) (2 ^ (i % 64))
  rw [wd_drop] at e1
  have hc : w.drew.cell? ⟨b, i / 64, none⟩ = some (.int .u64 (wd x (i / 64) : Nat)) := (wordp_c H hk _).trans (wordsC_get x hw)
  have hz : Holds E s (L.set k (wordP n (dropB x i) b)) (w.drew.setCell ⟨b, i / 64, none⟩ (.int .u64 (wd (dropB x i) (i / 64) : Nat))) := by
    have H2 := ((H.front k hk).setCell (i / 64) (.int .u64 (wd (dropB x i) (i / 64) : Nat)))
    rw [word_drop] at H2
    exact H2.back k hk
  generalize 2 ^ (i % 64) = q at e1 hA
  generalize wd x (i / 64) = u at e1 hc
  generalize wd (dropB x i) (i / 64) = v at e1 hz
  go_enter Tryd.func169, Tryd.ntmps169
  go_wp2_with (go_at_call 145; refine hA.mono ?_; rintro e w' ⟨rfl, rfl⟩)
  go_ret
  exact ⟨rfl, hz⟩
theorem bhas_p {E : World} {s : SH} {L : List HP} {w : World} {p b n i x k : Nat} (hi : i < n) (hn : n ≤ 300) (H : Holds E s L w) (hs : SetAt s p b n) (hk : L[k]? = some (wordP n x b)) :
    Calls Tryd.prog 115 #[.pointer (some ⟨p, 0, none⟩), .int .i64 i] w fun e w' => e = .returned (.bool (x.testBit i)) ∧ Holds E s L w' := by
  obtain ⟨s', h1, h2, h3, h4, -⟩ := lendAt k hk H
  refine (bhas_c hi hn h3 (hs.mono h1) h2).mono ?_
  rintro e w' ⟨rfl, H'⟩
  exact ⟨rfl, h4 H'⟩
theorem blist_p {E : World} {s : SH} {L : List HP} {w : World} {p b n x : Nat} (hn : n ≤ 300) (H : Holds E s (wordP n x b :: L) w) (hs : SetAt s p b n) (hT : Tz s) (hx0 : x < 2 ^ n) :
    Calls Tryd.prog 113 #[.pointer (some ⟨p, 0, none⟩)] w fun e w' => ∃ v, e = .returned v ∧ Holds E s (kI.Osl v (bitsL x n) :: wordP n x b :: L) w' := by
  obtain ⟨s', h1, h2, h3, -, h5⟩ := lendAt (L := wordP n x b :: L) 0 rfl H
  refine (blist_c hn h3 (hs.mono h1) h2 (hT.mono h1) hx0).mono ?_
  rintro e w' ⟨v, rfl, H'⟩
  exact ⟨v, rfl, (h5 H').swap⟩
/-! ### a struct that is owned -/
theorem pt_c {E : World} {s : SH} {L : List HP} {w : World} {b : Nat} {cs : Array Value} {t : TypeId} (i : Nat) (H : Holds E s L w) (h : L[i]? = some (pt b (.cells cs t (0, 0)))) (j : Nat) : w.cell? ⟨b, j, none⟩ = cs[j]? := by
  have := (H.front i h).at_pt
  simp [World.cell?, this]
theorem pt_f {E : World} {s : SH} {L : List HP} {w : World} {b : Nat} {cs : Array Value} {t : TypeId} (i : Nat) (H : Holds E s L w) (h : L[i]? = some (pt b (.cells cs t (0, 0)))) (j : Nat) : w.frozen? ⟨b, j, none⟩ = false := by
  have := (H.front i h).at_pt
  simp [World.frozen?, this]
theorem pt_set {E : World} {s : SH} {L : List HP} {w : World} {b : Nat} {cs : Array Value} {t : TypeId} (i : Nat) (H : Holds E s L w) (h : L[i]? = some (pt b (.cells cs t (0, 0)))) (j : Nat) (u : Value) : Holds E s (L.set i (pt b (.cells (cs.setIfInBounds j u) t (0, 0)))) (w.setCell ⟨b, j, none⟩ u) :=
  ((H.front i h).setCell j u).back i h
/-- A transaction as it is handed on. -/
abbrev tv (t : Txn) (A : Option Addr) (c : Nat) : Value := .agg #[.int .i64 t.proc, .int .i64 t.state, .int .i64 t.from_, .int .i64 t.to, .slice A t.ops.length c]
set_option maxHeartbeats 1000000 in
theorem done_c (t : Txn) (A : Option Addr) (c : Nat) (w : World) : Calls Tryd.prog 104 #[tv t A c] w fun e w' => e = .returned (.bool (don t)) ∧ Below w.heap.size w w' := by
  obtain ⟨pr, st, fr, to, ops⟩ := t
  unfold tv don
  by_cases h : st = 1
  · subst h
    go_enter Tryd.func104, Tryd.ntmps104
    go_wp2
    go_ret
    exact ⟨rfl, (Below.refl _ _).alloc (Nat.le_refl _) _⟩
  · have hd : (st == 1) = false := by simpa using h
    have hd2 : decide (st = 1) = false := by simpa using h
    go_enter Tryd.func104, Tryd.ntmps104
    go_wp2
    go_ret
    exact ⟨by simp [hd], (Below.refl _ _).alloc (Nat.le_refl _) _⟩
end Go.Proofs.YtemdmpgekegfhaaDoor
end

section
namespace Go.Proofs.YtemdmpgekegfhaaDoor
open Go.RowKit
set_option linter.all false
set_option maxRecDepth 10000

set_option maxHeartbeats 1000000 in
theorem ahead_c (t u : Txn) (A B : Option Addr) (c d : Nat) (w : World) : Calls Tryd.prog 107 #[tv t A c, tv u B d] w fun e w' => e = .returned (.bool (ahd t u)) ∧ Below w.heap.size w w' := by
  obtain ⟨pr, st, fr, to, ops⟩ := t
  obtain ⟨pr2, st2, fr2, to2, ops2⟩ := u
  unfold tv ahd
  have hb : ∀ (o1 o2 : Obj), Below w.heap.size w ((w.alloc o1).alloc o2) := fun o1 o2 => ((Below.refl _ _).alloc (Nat.le_refl _) _).alloc (by simp) _
  by_cases h : st = 1
  · subst h
    by_cases h0 : 0 ≤ to
    · have hd : decide (0 ≤ to) = true := decide_eq_true h0
      have hd1 : decide (to ≥ 0) = true := decide_eq_true h0
      go_enter Tryd.func107, Tryd.ntmps107
      go_wp2
      go_ret
      exact ⟨by simp [h0], hb _ _⟩
    · have hd : decide (0 ≤ to) = false := decide_eq_false h0
      have hd1 : decide (to ≥ 0) = false := decide_eq_false h0
      go_enter Tryd.func107, Tryd.ntmps107
      go_wp2
      go_ret
      exact ⟨by simp [h0], hb _ _⟩
  · have hd : (st == 1) = false := by simpa using h
    have hd2 : decide (st = 1) = false := by simpa using h
    go_enter Tryd.func107, Tryd.ntmps107
    go_wp2
    go_ret
    exact ⟨by simp [hd], hb _ _⟩
/-- A search as it lies in memory. -/
abbrev skC (A : Option Addr) (n c ps rm : Nat) (left budget taken : Int) : Array Value := #[.slice A n c, .pointer (some ⟨ps, 0, none⟩), .map (some rm), .int .i64 left, .int .i64 budget, .int .i64 taken]
abbrev skP (bx : Nat) (A : Option Addr) (n c ps rm : Nat) (left budget taken : Int) : HP := pt bx (.cells (skC A n c ps rm left budget taken) 171 (0, 0))
/-- The element n of the transactions, as it lies. -/
theorem txn_at {s : SH} {A : Option Addr} {n c : Nat} {l : List Txn} (h : kT.Sl s (.slice A n c) l) {i : Nat} (hi : i < l.length) : ∃ b off A4 c4, A = some ⟨b, off, none⟩ ∧ Cells s ⟨b, off + i * 5, none⟩ [.int .i64 (tn l i).proc, .int .i64 (tn l i).state, .int .i64 (tn l i).from_, .int .i64 (tn l i).to, .slice A4 (tn l i).ops.length c4] ∧ kOp.Sl s (.slice A4 (tn l i).ops.length c4) (tn l i).ops := by
  have e : l[i] = tn l i := by unfold tn; simp [hi]
  obtain ⟨b, off, A4, c4, h1, h2, -, -, -, -, h3⟩ := kT_el h (i := i) (x := tn l i) (r := l.drop (i + 1)) (by rw [← e]; exact List.drop_eq_getElem_cons hi)
  exact ⟨b, off, A4, c4, h1, h2, h3⟩
set_option maxHeartbeats 2000000 in
theorem leave_c {E : World} {s : SH} {L : List HP} {w : World} {bx c ps bw rm x : Nat} {A : Option Addr} {l : List Txn} {left budget taken v : Int} (hn : l.length ≤ 300) (hv : v < l.length) (hl : kT.Sl s (.slice A l.length c) l) (hs : SetAt s ps bw l.length) (hlr : -9000000000 ≤ left ∧ left ≤ 9000000000)
    (H : Holds E s (skP bx A l.length c ps rm left budget taken :: wordP l.length x bw :: L) w) :
    Calls Tryd.prog 139 #[.pointer (some ⟨bx, 0, none⟩), .int .i64 v] w fun e w' => e = .returned (.tuple #[]) ∧ Holds E s (skP bx A l.length c ps rm (popL l left v) budget taken :: wordP l.length (popX x v) bw :: L) w' := by
  by_cases h0 : v < 0
  · have hd : decide (v < 0) = true := decide_eq_true h0
    unfold popL popX
    rw [if_pos h0, if_pos h0]
    go_enter Tryd.func139, Tryd.ntmps139
    go_wp2
    exact ret0 rfl rfl ⟨rfl, H⟩
  · obtain ⟨k, rfl⟩ : ∃ k : Nat, v = k := ⟨v.toNat, by omega⟩
    have hk : k < l.length := by omega
    have hd : decide ((k : Int) < 0) = false := decide_eq_false h0
    have hH := Lib.hid H
    have eL : popL l left (k : Int) = left + okI (tn l k) := by unfold popL; rw [if_neg h0]; rfl
    have eX : popX x (k : Int) = dropB x k := by unfold popX; rw [if_neg h0]; rfl
    rw [eL, eX]
    obtain ⟨b, off, A4, c4, hA, hce, -⟩ := txn_at hl hk
    subst hA
    have c1 : w.cell? ⟨bx, 1, none⟩ = some (.pointer (some ⟨ps, 0, none⟩)) := pt_c 0 H rfl 1
    unfold okI
    generalize (tn l k).state = st at hce ⊢
    generalize l.length = n at *
    by_cases hst : st = 1
    · subst hst
      go_enter Tryd.func139, Tryd.ntmps139
      go_wp2_with (first
        | (go_at_call 169
           refine (bdrop_c (k := 1) hk hn H hs rfl).mono ?_
           rintro e w1 ⟨rfl, H1⟩
           have d0 : w1.cell? ⟨bx, 0, none⟩ = some (.slice (some ⟨b, off, none⟩) n c) := pt_c 0 H1 rfl 0
           have d3 : w1.cell? ⟨bx, 3, none⟩ = some (.int .i64 left) := pt_c 0 H1 rfl 3
           have f3 := pt_f 0 H1 rfl 3
           have ds := hce.cell' H1 1 _ rfl))
      exact end0 rfl rfl ⟨rfl, pt_set 0 H1 rfl 3 _⟩
    · have hd1 : (st == 1) = false := by simpa using hst
      have hd2 : decide (st = 1) = false := by simpa using hst
      rw [hd1, if_neg (by simp)]
      rw [Int.add_zero]
      go_enter Tryd.func139, Tryd.ntmps139
      go_wp2_with (first
        | (go_at_call 169
           refine (bdrop_c (k := 1) hk hn H hs rfl).mono ?_
           rintro e w1 ⟨rfl, H1⟩
           have d0 : w1.cell? ⟨bx, 0, none⟩ = some (.slice (some ⟨b, off, none⟩) n c) := pt_c 0 H1 rfl 0
           have ds := hce.cell' H1 1 _ rfl))
      exact end0 rfl rfl ⟨rfl, H1⟩
set_option maxHeartbeats 2000000 in
theorem enter_c {E : World} {s : SH} {L : List HP} {w : World} {bx c ps bw rm x k : Nat} {A : Option Addr} {l : List Txn} {left budget taken : Int} (hn : l.length ≤ 300) (hk : k < l.length) (hl : kT.Sl s (.slice A l.length c) l) (hs : SetAt s ps bw l.length) (hlr : -9000000000 ≤ left ∧ left ≤ 9000000000)
    (H : Holds E s (skP bx A l.length c ps rm left budget taken :: wordP l.length x bw :: L) w) :
    Calls Tryd.prog 141 #[.pointer (some ⟨bx, 0, none⟩), .int .i64 k] w fun e w' => e = .returned (.tuple #[]) ∧ Holds E s (skP bx A l.length c ps rm (left - okI (tn l k)) budget taken :: wordP l.length (x ||| 2 ^ k) bw :: L) w' := by
  obtain ⟨b, off, A4, c4, hA, hce, -⟩ := txn_at hl hk
  subst hA
  have c1 : w.cell? ⟨bx, 1, none⟩ = some (.pointer (some ⟨ps, 0, none⟩)) := pt_c 0 H rfl 1
  unfold okI
  generalize (tn l k).state = st at hce ⊢
  generalize l.length = n at *
  by_cases hst : st = 1
  · subst hst
    go_enter Tryd.func141, Tryd.ntmps141
    go_wp2_with (first
      | (go_at_call 110
         refine (badd_c (k := 1) hk hn H hs rfl).mono ?_
         rintro e w1 ⟨rfl, H1⟩
         have d0 : w1.cell? ⟨bx, 0, none⟩ = some (.slice (some ⟨b, off, none⟩) n c) := pt_c 0 H1 rfl 0
         have d3 : w1.cell? ⟨bx, 3, none⟩ = some (.int .i64 left) := pt_c 0 H1 rfl 3
         have f3 := pt_f 0 H1 rfl 3
         have ds := hce.cell' H1 1 _ rfl))
    exact end0 rfl rfl ⟨rfl, pt_set 0 H1 rfl 3 _⟩
  · have hd1 : (st == 1) = false := by simpa using hst
    have hd2 : decide (st = 1) = false := by simpa using hst
    rw [hd1, if_neg (by simp), Int.sub_zero]
    go_enter Tryd.func141, Tryd.ntmps141
    go_wp2_with (first
      | (go_at_call 110
         refine (badd_c (k := 1) hk hn H hs rfl).mono ?_
         rintro e w1 ⟨rfl, H1⟩
         have d0 : w1.cell? ⟨bx, 0, none⟩ = some (.slice (some ⟨b, off, none⟩) n c) := pt_c 0 H1 rfl 0
         have ds := hce.cell' H1 1 _ rfl))
    exact end0 rfl rfl ⟨rfl, H1⟩
end Go.Proofs.YtemdmpgekegfhaaDoor
end

section
namespace Go.Proofs.YtemdmpgekegfhaaDoor
open Go.RowKit
set_option linter.all false
set_option maxRecDepth 10000

theorem var_cells {E : World} {s : SH} {L : List HP} {w : World} {b : Nat} {c : List Value} {t : TypeId} (i : Nat) (H : Holds E s L w) (h : L[i]? = some (pt b (.cells c.toArray t (0, 0)))) : ∀ j u, c[j]? = some u → w.cell? ((⟨b, 0, none⟩ : Addr).add j) = some u := fun j u hj => by
  have := pt_c i H h j
  have e : (⟨b, 0, none⟩ : Addr).add j = ⟨b, j, none⟩ := by unfold Addr.add; split <;> simp_all
  rw [e, this]; simpa using hj
/-- Of the transactions ahead of k none stands in the way. -/
def mayTo (l : List Txn) (x n k : Nat) : Bool := (List.range k).all fun m => decide (m = n) || x.testBit m || !ahd (tn l m) (tn l n)
theorem mayTo_succ (l : List Txn) (x n k : Nat) : mayTo l x n (k + 1) = (mayTo l x n k && (decide (k = n) || x.testBit k || !ahd (tn l k) (tn l n))) := by
  unfold mayTo; rw [List.range_succ, List.all_append]; simp
theorem mayTo_more {l : List Txn} {x n k : Nat} (h : mayTo l x n (k + 1) = false) {j : Nat} (hj : k < j) : mayTo l x n j = false := by
  unfold mayTo at *
  rw [List.all_eq_false] at h ⊢
  obtain ⟨m, hm, hh⟩ := h
  exact ⟨m, List.mem_range.2 (by have := List.mem_range.1 hm; omega), hh⟩
theorem mayB_eq (l : List Txn) (x n : Nat) : mayB l x n = (don (tn l n) && !x.testBit n && mayTo l x n l.length) := rfl
set_option maxHeartbeats 4000000 in
theorem may_c {E : World} {s : SH} {L : List HP} {w : World} {bx c ps bw rm x n : Nat} {A : Option Addr} {l : List Txn} {left budget taken : Int} (hn : l.length ≤ 300) (hk : n < l.length) (hl : kT.Sl s (.slice A l.length c) l) (hs0 : SetAt s ps bw l.length)
    (H : Holds E s (skP bx A l.length c ps rm left budget taken :: wordP l.length x bw :: L) w) :
    Calls Tryd.prog 140 #[.pointer (some ⟨bx, 0, none⟩), .int .i64 n] w fun e w' => e = .returned (.bool (mayB l x n)) ∧ Holds E s (skP bx A l.length c ps rm left budget taken :: wordP l.length x bw :: L) w' := by
  obtain ⟨b, off, An, cn, hA, hcn, -⟩ := txn_at hl hk
  subst hA
  have c0 : w.cell? ⟨bx, 0, none⟩ = some (.slice (some ⟨b, off, none⟩) l.length c) := pt_c 0 H rfl 0
  have t0 : w.cell? ⟨b, off + n * 5, none⟩ = some (.int .i64 (tn l n).proc) := by simpa using hcn.cell' H 0 _ rfl
  have t1 := hcn.cell' H 1 _ rfl
  have t2 := hcn.cell' H 2 _ rfl
  have t3 := hcn.cell' H 3 _ rfl
  have t4 := hcn.cell' H 4 _ rfl
  rw [mayB_eq]
  have hd0 : (don (tn l n) = true) ∨ (don (tn l n) = false) := by cases don (tn l n) <;> simp
  have HL := Lib.hid hn
  rcases hd0 with hd | hd
  · rw [hd, Bool.true_and]
    have hb0 : (x.testBit n = true) ∨ (x.testBit n = false) := by cases x.testBit n <;> simp
    rcases hb0 with hb | hb
    · rw [hb, Bool.not_true, Bool.false_and]
      go_enter Tryd.func140, Tryd.ntmps140
      go_wp2_with (first
        | (go_at_call 104
           refine (done_c (tn l n) An cn _).mono ?_
           rintro e w1 ⟨rfl, hw1⟩
           have H1 := H.below hw1
           have d1 : w1.cell? ⟨bx, 1, none⟩ = some (.pointer (some ⟨ps, 0, none⟩)) := pt_c 0 H1 rfl 1
           clear H)
        | (go_at_call 115
           refine (bhas_p (k := 1) hk hn H1 hs0 rfl).mono ?_
           rintro e w2 ⟨rfl, H2⟩
           rw [hb]))
      exact ret1 rfl (rv_tmp rfl) rfl ⟨rfl, H2⟩
    · rw [hb, Bool.not_false, Bool.true_and]
      go_enter Tryd.func140, Tryd.ntmps140
      go_wp2_with (first
        | (go_at_call 104
           refine (done_c (tn l n) An cn _).mono ?_
           rintro e w1 ⟨rfl, hw1⟩
           have H1 := H.below hw1
           have d1 : w1.cell? ⟨bx, 1, none⟩ = some (.pointer (some ⟨ps, 0, none⟩)) := pt_c 0 H1 rfl 1
           clear H)
        | (go_at_call 115
           refine (bhas_p (k := 1) hk hn H1 hs0 rfl).mono ?_
           rintro e w2 ⟨rfl, H2⟩
           rw [hb]
           have d0 : w2.cell? ⟨bx, 0, none⟩ = some (.slice (some ⟨b, off, none⟩) l.length c) := pt_c 0 H2 rfl 0
           clear H1 d1 hw1 c0 t0 t1 t2 t3 t4))
      clear d0
      go_loopw [29] (fun i wr => ∃ m : Nat, m ≤ l.length ∧ i = .int .i64 m ∧ RowKit.Hid (mayTo l x n m = true) ∧ Holds E s (skP bx (some ⟨b, off, none⟩) l.length c ps rm left budget taken :: wordP l.length x bw :: L) wr) (fun i _ => l.length - (intOf i).toNat)
      case atStart => exact ⟨0, Nat.zero_le _, rfl, Lib.hid rfl, H2⟩
      case round =>
        clear H2
        obtain ⟨m, hm0, rfl, hmt, H⟩ := hrel
        by_cases hm : m < l.length
        · obtain ⟨b2, off2, Am, cm, hA2, hcm, -⟩ := txn_at hl hm
          cases hA2
          have t0 : wr.cell? ⟨b, off + m * 5, none⟩ = some (.int .i64 (tn l m).proc) := by simpa using hcm.cell' H 0 _ rfl
          have t1 := hcm.cell' H 1 _ rfl
          have t2 := hcm.cell' H 2 _ rfl
          have t3 := hcm.cell' H 3 _ rfl
          have t4 := hcm.cell' H 4 _ rfl
          go_wp2_with ((with_reducible refine OpG.list rfl ?_); first
            | (refine G_alloc 75 rfl (Tryd.zeroValue75 _) H ?_; clear H; intro bt w3 H3; simp only [Value.cells] at H3)
            | (refine G_setNi 0 (c := [.int .i64 (tn l m).proc, .int .i64 (tn l m).state, .int .i64 (tn l m).from_, .int .i64 (tn l m).to, .slice Am (tn l m).ops.length cm]) _ _ _ rfl (Tryd.sizeOf75 _) rfl rfl (by simp [Value.oneCell']) H3 rfl rfl ?_; clear H3; intro w4 H4; simp only [List.set_cons_succ, List.set_cons_zero] at H4))
          clear t0 t1 t2 t3 t4
          have H := H4.rot3
          clear H4
          simp only [Act.put]
          by_cases hmn : m = n
          · have hc1 : ((m : Int) != (n : Int)) = false := by simp [hmn]
            refine wp_draw_obO (k := 23) (sz := 58) (List.replicate 23 23) (fun _ => []) mixed (by simp) rfl (by kernel_rfl) (by kernel_rfl) (by kernel_rfl) H (by simp only [List.take_succ_cons, List.take_zero]; exact rfl) (by simp only [List.drop_succ_cons, List.drop_zero]; exact rfl)
              (fun y => by simp only [ov, Act.put, List.setIfInBounds_toArray, List.set_cons_succ, List.set_cons_zero, Nat.zero_add, Nat.reduceAdd]; exact rfl) ?_
            apply ObO.valw (V := .int .i64 (m : Int))
            · intro x; rfl
            · intro s' w' y Φ R hs H hG hΦ; refine wantG rfl ?_; refine O_mv rfl rfl ?_; exact hΦ _ _ (Sub.refl _) H
            apply ObO.valw (V := .int .i64 (n : Int))
            · intro x; rfl
            · intro s' w' y Φ R hs H hG hΦ; refine wantG rfl ?_; refine O_mv rfl rfl ?_; exact hΦ _ _ (Sub.refl _) H
            apply ObO.valw (V := .bool ((m : Int) != (n : Int)))
            · intro x; rfl
            · intro s' w' y Φ R hs H hG hΦ; simp only [List.nil_append, List.cons_append] at hG; have e0 : y 0 = _ := dh_get hG 0 rfl (by kernel_rfl); have e1 : y 1 = _ := dh_get hG 1 rfl (by kernel_rfl); simp only [e0, e1]; refine wantG rfl ?_; refine O_bin rfl rfl rfl eqg_int r_neq ?_; exact hΦ _ _ (Sub.refl _) H
            apply ObO.valw (V := .bool ((m : Int) != (n : Int)))
            · intro x; rfl
            · intro s' w' y Φ R hs H hG hΦ; simp only [List.nil_append, List.cons_append] at hG; have e2 : y 2 = _ := dh_get hG 2 rfl (by kernel_rfl); simp only [e2]; refine wantG rfl ?_; refine O_mv rfl rfl ?_; exact hΦ _ _ (Sub.refl _) H
            apply ObO.valw (V := undef)
            · intro x; rfl
            · intro s' w' y Φ R hs H hG hΦ; simp only [List.nil_append, List.cons_append] at hG; have e3 : y 3 = _ := dh_get hG 3 rfl (by kernel_rfl); simp only [e3]; refine wantU ((wanted_t rfl rfl rfl).trans hc1) ?_; exact hΦ _ _ (Sub.refl _) H
            apply ObO.valw (V := undef)
            · intro x; rfl
            · intro s' w' y Φ R hs H hG hΦ; simp only [List.nil_append, List.cons_append] at hG; have e3 : y 3 = _ := dh_get hG 3 rfl (by kernel_rfl); simp only [e3]; refine wantU ((wanted_t rfl rfl rfl).trans hc1) ?_; exact hΦ _ _ (Sub.refl _) H
            apply ObO.valw (V := undef)
            · intro x; rfl
            · intro s' w' y Φ R hs H hG hΦ; simp only [List.nil_append, List.cons_append] at hG; have e3 : y 3 = _ := dh_get hG 3 rfl (by kernel_rfl); simp only [e3]; refine wantU ((wanted_t rfl rfl rfl).trans hc1) ?_; exact hΦ _ _ (Sub.refl _) H
            apply ObO.valw (V := undef)
            · intro x; rfl
            · intro s' w' y Φ R hs H hG hΦ; simp only [List.nil_append, List.cons_append] at hG; have e3 : y 3 = _ := dh_get hG 3 rfl (by kernel_rfl); simp only [e3]; refine wantU ((wanted_t rfl rfl rfl).trans hc1) ?_; exact hΦ _ _ (Sub.refl _) H
            apply ObO.valw (V := undef)
            · intro x; rfl
            · intro s' w' y Φ R hs H hG hΦ; simp only [List.nil_append, List.cons_append] at hG; have e3 : y 3 = _ := dh_get hG 3 rfl (by kernel_rfl); simp only [e3]; refine wantU ((wanted_t rfl rfl rfl).trans hc1) ?_; exact hΦ _ _ (Sub.refl _) H
            apply ObO.valw (V := undef)
            · intro x; rfl
            · intro s' w' y Φ R hs H hG hΦ; simp only [List.nil_append, List.cons_append] at hG; have e3 : y 3 = _ := dh_get hG 3 rfl (by kernel_rfl); simp only [e3]; refine wantU ((wanted_t rfl rfl rfl).trans hc1) ?_; exact hΦ _ _ (Sub.refl _) H
            apply ObO.valw (V := undef)
            · intro x; rfl
            · intro s' w' y Φ R hs H hG hΦ; simp only [List.nil_append, List.cons_append] at hG; have e3 : y 3 = _ := dh_get hG 3 rfl (by kernel_rfl); simp only [e3]; refine wantU ((wanted_t rfl rfl rfl).trans hc1) ?_; exact hΦ _ _ (Sub.refl _) H
            apply ObO.valw (V := .bool false)
            · intro x; rfl
            · intro s' w' y Φ R hs H hG hΦ; simp only [List.nil_append, List.cons_append] at hG; have e3 : y 3 = _ := dh_get hG 3 rfl (by kernel_rfl); have e10 : y 10 = _ := dh_get hG 10 rfl (by kernel_rfl); simp only [e3, e10]; refine wantG rfl ?_; refine O_pickF rfl rfl hc1 rfl ?_; exact hΦ _ _ (Sub.refl _) H
            apply ObO.valw (V := .bool false)
            · intro x; rfl
            · intro s' w' y Φ R hs H hG hΦ; simp only [List.nil_append, List.cons_append] at hG; have e11 : y 11 = _ := dh_get hG 11 rfl (by kernel_rfl); simp only [e11]; refine wantG rfl ?_; refine O_mv rfl rfl ?_; exact hΦ _ _ (Sub.refl _) H
            apply ObO.valw (V := undef)
            · intro x; rfl
            · intro s' w' y Φ R hs H hG hΦ; simp only [List.nil_append, List.cons_append] at hG; have e12 : y 12 = _ := dh_get hG 12 rfl (by kernel_rfl); simp only [e12]; refine wantU (wanted_t rfl rfl rfl) ?_; exact hΦ _ _ (Sub.refl _) H
            apply ObO.valw (V := undef)
            · intro x; rfl
            · intro s' w' y Φ R hs H hG hΦ; simp only [List.nil_append, List.cons_append] at hG; have e12 : y 12 = _ := dh_get hG 12 rfl (by kernel_rfl); simp only [e12]; refine wantU (wanted_t rfl rfl rfl) ?_; exact hΦ _ _ (Sub.refl _) H
            apply ObO.valw (V := undef)
            · intro x; rfl
            · intro s' w' y Φ R hs H hG hΦ; simp only [List.nil_append, List.cons_append] at hG; have e12 : y 12 = _ := dh_get hG 12 rfl (by kernel_rfl); simp only [e12]; refine wantU (wanted_t rfl rfl rfl) ?_; exact hΦ _ _ (Sub.refl _) H
            apply ObO.valw (V := undef)
            · intro x; rfl
            · intro s' w' y Φ R hs H hG hΦ; simp only [List.nil_append, List.cons_append] at hG; have e12 : y 12 = _ := dh_get hG 12 rfl (by kernel_rfl); simp only [e12]; refine wantU (wanted_t rfl rfl rfl) ?_; exact hΦ _ _ (Sub.refl _) H
            apply ObO.valw (V := undef)
            · intro x; rfl
            · intro s' w' y Φ R hs H hG hΦ; simp only [List.nil_append, List.cons_append] at hG; have e12 : y 12 = _ := dh_get hG 12 rfl (by kernel_rfl); simp only [e12]; refine wantU (wanted_t rfl rfl rfl) ?_; exact hΦ _ _ (Sub.refl _) H
            apply ObO.valw (V := undef)
            · intro x; rfl
            · intro s' w' y Φ R hs H hG hΦ; simp only [List.nil_append, List.cons_append] at hG; have e12 : y 12 = _ := dh_get hG 12 rfl (by kernel_rfl); simp only [e12]; refine wantU (wanted_t rfl rfl rfl) ?_; exact hΦ _ _ (Sub.refl _) H
            apply ObO.valw (V := undef)
            · intro x; rfl
            · intro s' w' y Φ R hs H hG hΦ; simp only [List.nil_append, List.cons_append] at hG; have e12 : y 12 = _ := dh_get hG 12 rfl (by kernel_rfl); simp only [e12]; refine wantU (wanted_t rfl rfl rfl) ?_; exact hΦ _ _ (Sub.refl _) H
            apply ObO.valw (V := undef)
            · intro x; rfl
            · intro s' w' y Φ R hs H hG hΦ; simp only [List.nil_append, List.cons_append] at hG; have e12 : y 12 = _ := dh_get hG 12 rfl (by kernel_rfl); simp only [e12]; refine wantU (wanted_t rfl rfl rfl) ?_; exact hΦ _ _ (Sub.refl _) H
            apply ObO.valw (V := undef)
            · intro x; rfl
            · intro s' w' y Φ R hs H hG hΦ; simp only [List.nil_append, List.cons_append] at hG; have e12 : y 12 = _ := dh_get hG 12 rfl (by kernel_rfl); simp only [e12]; refine wantU (wanted_t rfl rfl rfl) ?_; exact hΦ _ _ (Sub.refl _) H
            apply ObO.valw (V := .bool false)
            · intro x; rfl
            · intro s' w' y Φ R hs H hG hΦ; simp only [List.nil_append, List.cons_append] at hG; have e12 : y 12 = _ := dh_get hG 12 rfl (by kernel_rfl); have e21 : y 21 = _ := dh_get hG 21 rfl (by kernel_rfl); simp only [e12, e21]; refine wantG rfl ?_; refine O_pickF rfl rfl rfl rfl ?_; exact hΦ _ _ (Sub.refl _) H
            clear H
            intro s3 w3 yy hs3 H hG
            replace H := (show Holds _ _ ([] ++ _) _ from H); rw [List.nil_append] at H
            simp only [List.nil_append, List.cons_append] at hG
            have e0 : yy 0 = _ := gh_get hG 0 rfl
            have e1 : yy 1 = _ := gh_get hG 1 rfl
            have e2 : yy 2 = _ := gh_get hG 2 rfl
            have e3 : yy 3 = _ := gh_get hG 3 rfl
            have e4 : yy 4 = _ := gh_get hG 4 rfl
            have e5 : yy 5 = _ := gh_get hG 5 rfl
            have e6 : yy 6 = _ := gh_get hG 6 rfl
            have e7 : yy 7 = _ := gh_get hG 7 rfl
            have e8 : yy 8 = _ := gh_get hG 8 rfl
            have e9 : yy 9 = _ := gh_get hG 9 rfl
            have e10 : yy 10 = _ := gh_get hG 10 rfl
            have e11 : yy 11 = _ := gh_get hG 11 rfl
            have e12 : yy 12 = _ := gh_get hG 12 rfl
            have e13 : yy 13 = _ := gh_get hG 13 rfl
            have e14 : yy 14 = _ := gh_get hG 14 rfl
            have e15 : yy 15 = _ := gh_get hG 15 rfl
            have e16 : yy 16 = _ := gh_get hG 16 rfl
            have e17 : yy 17 = _ := gh_get hG 17 rfl
            have e18 : yy 18 = _ := gh_get hG 18 rfl
            have e19 : yy 19 = _ := gh_get hG 19 rfl
            have e20 : yy 20 = _ := gh_get hG 20 rfl
            have e21 : yy 21 = _ := gh_get hG 21 rfl
            have e22 : yy 22 = _ := gh_get hG 22 rfl
            simp only [e0, e1, e2, e3, e4, e5, e6, e7, e8, e9, e10, e11, e12, e13, e14, e15, e16, e17, e18, e19, e20, e21, e22]
            clear hG e0 e1 e2 e3 e4 e5 e6 e7 e8 e9 e10 e11 e12 e13 e14 e15 e16 e17 e18 e19 e20 e21 e22
            replace H := H.forget hs3; clear hs3
            refine list_end ?_
            go_wp2
            go_roundw
            case rel => exact ⟨m + 1, by omega, by go_num, Lib.hid (by rw [mayTo_succ, hmt.out]; simp [hmn]), H.rot3'.drop⟩
            case measure => simp only [intOf]; omega
          · have hc1 : ((m : Int) != (n : Int)) = true := by simp; omega
            have hx0 : (x.testBit m = true) ∨ (x.testBit m = false) := by cases x.testBit m <;> simp
            rcases hx0 with hx | hx
            · have hc2 : (!(x.testBit m)) = false := by rw [hx]; rfl
              refine wp_draw_obO (k := 23) (sz := 58) (List.replicate 23 23) (fun _ => []) mixed (by simp) rfl (by kernel_rfl) (by kernel_rfl) (by kernel_rfl) H (by simp only [List.take_succ_cons, List.take_zero]; exact rfl) (by simp only [List.drop_succ_cons, List.drop_zero]; exact rfl)
                (fun y => by simp only [ov, Act.put, List.setIfInBounds_toArray, List.set_cons_succ, List.set_cons_zero, Nat.zero_add, Nat.reduceAdd]; exact rfl) ?_
              apply ObO.valw (V := .int .i64 (m : Int))
              · intro x; rfl
              · intro s' w' y Φ R hs H hG hΦ; refine wantG rfl ?_; refine O_mv rfl rfl ?_; exact hΦ _ _ (Sub.refl _) H
              apply ObO.valw (V := .int .i64 (n : Int))
              · intro x; rfl
              · intro s' w' y Φ R hs H hG hΦ; refine wantG rfl ?_; refine O_mv rfl rfl ?_; exact hΦ _ _ (Sub.refl _) H
              apply ObO.valw (V := .bool ((m : Int) != (n : Int)))
              · intro x; rfl
              · intro s' w' y Φ R hs H hG hΦ; simp only [List.nil_append, List.cons_append] at hG; have e0 : y 0 = _ := dh_get hG 0 rfl (by kernel_rfl); have e1 : y 1 = _ := dh_get hG 1 rfl (by kernel_rfl); simp only [e0, e1]; refine wantG rfl ?_; refine O_bin rfl rfl rfl eqg_int r_neq ?_; exact hΦ _ _ (Sub.refl _) H
              apply ObO.valw (V := .bool ((m : Int) != (n : Int)))
              · intro x; rfl
              · intro s' w' y Φ R hs H hG hΦ; simp only [List.nil_append, List.cons_append] at hG; have e2 : y 2 = _ := dh_get hG 2 rfl (by kernel_rfl); simp only [e2]; refine wantG rfl ?_; refine O_mv rfl rfl ?_; exact hΦ _ _ (Sub.refl _) H
              apply ObO.valw (V := .pointer (some ⟨bx, 0, none⟩))
              · intro x; rfl
              · intro s' w' y Φ R hs H hG hΦ; simp only [List.nil_append, List.cons_append] at hG; have e3 : y 3 = _ := dh_get hG 3 rfl (by kernel_rfl); simp only [e3]; refine wantK ((wanted_t rfl rfl rfl).trans hc1) ?_; refine O_mv rfl rfl ?_; exact hΦ _ _ (Sub.refl _) H
              apply ObO.valw (V := .pointer (some ⟨bx, 0, none⟩))
              · intro x; rfl
              · intro s' w' y Φ R hs H hG hΦ; simp only [List.nil_append, List.cons_append] at hG; have e3 : y 3 = _ := dh_get hG 3 rfl (by kernel_rfl); have e4 : y 4 = _ := dh_get hG 4 rfl (by kernel_rfl); simp only [e3, e4]; refine wantK ((wanted_t rfl rfl rfl).trans hc1) ?_; refine O_nil rfl rfl ?_; exact hΦ _ _ (Sub.refl _) H
              apply ObO.valw (V := .pointer (some ⟨bx, 1, none⟩))
              · intro x; rfl
              · intro s' w' y Φ R hs H hG hΦ; simp only [List.nil_append, List.cons_append] at hG; have e3 : y 3 = _ := dh_get hG 3 rfl (by kernel_rfl); have e5 : y 5 = _ := dh_get hG 5 rfl (by kernel_rfl); simp only [e3, e5]; refine wantK ((wanted_t rfl rfl rfl).trans hc1) ?_; refine O_fld rfl Tryd.underlying171 rfl (Tryd.sizeOf165 _) rfl ?_; exact hΦ _ _ (Sub.refl _) H
              apply ObO.valw (V := .pointer (some ⟨ps, 0, none⟩))
              · intro x; rfl
              · intro s' w' y Φ R hs H hG hΦ; simp only [List.nil_append, List.cons_append] at hG; have e3 : y 3 = _ := dh_get hG 3 rfl (by kernel_rfl); have e6 : y 6 = _ := dh_get hG 6 rfl (by kernel_rfl); simp only [e3, e6]; refine wantK ((wanted_t rfl rfl rfl).trans hc1) ?_; refine L_1 0 _ _ rfl (Tryd.isAgg165 _) rfl H rfl rfl ?_; exact hΦ _ _ (Sub.refl _) H
              apply ObO.valw (V := .int .i64 (m : Int))
              · intro x; rfl
              · intro s' w' y Φ R hs H hG hΦ; simp only [List.nil_append, List.cons_append] at hG; have e3 : y 3 = _ := dh_get hG 3 rfl (by kernel_rfl); simp only [e3]; refine wantK ((wanted_t rfl rfl rfl).trans hc1) ?_; refine O_mv rfl rfl ?_; exact hΦ _ _ (Sub.refl _) H
              apply ObO.valw (V := .bool (x.testBit m))
              · intro x; rfl
              · intro s' w' y Φ R hs H hG hΦ; simp only [List.nil_append, List.cons_append] at hG; have e3 : y 3 = _ := dh_get hG 3 rfl (by kernel_rfl); have e7 : y 7 = _ := dh_get hG 7 rfl (by kernel_rfl); have e8 : y 8 = _ := dh_get hG 8 rfl (by kernel_rfl); simp only [e3, e7, e8]; refine wantK ((wanted_t rfl rfl rfl).trans hc1) ?_; refine O_call2 rfl Tryd.func115 rfl rfl rfl rfl ?_; refine (bhas_p (k := 1) hm hn H (hs0.mono hs) rfl).mono ?_; rintro e w2 ⟨rfl, H⟩; exact ⟨_, rfl, hΦ _ _ (Sub.refl _) H⟩
              apply ObO.valw (V := .bool (!(x.testBit m)))
              · intro x; rfl
              · intro s' w' y Φ R hs H hG hΦ; simp only [List.nil_append, List.cons_append] at hG; have e3 : y 3 = _ := dh_get hG 3 rfl (by kernel_rfl); have e9 : y 9 = _ := dh_get hG 9 rfl (by kernel_rfl); simp only [e3, e9]; refine wantK ((wanted_t rfl rfl rfl).trans hc1) ?_; refine O_not rfl rfl ?_; exact hΦ _ _ (Sub.refl _) H
              apply ObO.valw (V := .bool (!(x.testBit m)))
              · intro x; rfl
              · intro s' w' y Φ R hs H hG hΦ; simp only [List.nil_append, List.cons_append] at hG; have e3 : y 3 = _ := dh_get hG 3 rfl (by kernel_rfl); have e10 : y 10 = _ := dh_get hG 10 rfl (by kernel_rfl); simp only [e3, e10]; refine wantG rfl ?_; refine O_pickT rfl rfl hc1 rfl ?_; exact hΦ _ _ (Sub.refl _) H
              apply ObO.valw (V := .bool (!(x.testBit m)))
              · intro x; rfl
              · intro s' w' y Φ R hs H hG hΦ; simp only [List.nil_append, List.cons_append] at hG; have e11 : y 11 = _ := dh_get hG 11 rfl (by kernel_rfl); simp only [e11]; refine wantG rfl ?_; refine O_mv rfl rfl ?_; exact hΦ _ _ (Sub.refl _) H
              apply ObO.valw (V := undef)
              · intro x; rfl
              · intro s' w' y Φ R hs H hG hΦ; simp only [List.nil_append, List.cons_append] at hG; have e12 : y 12 = _ := dh_get hG 12 rfl (by kernel_rfl); simp only [e12]; refine wantU ((wanted_t rfl rfl rfl).trans hc2) ?_; exact hΦ _ _ (Sub.refl _) H
              apply ObO.valw (V := undef)
              · intro x; rfl
              · intro s' w' y Φ R hs H hG hΦ; simp only [List.nil_append, List.cons_append] at hG; have e12 : y 12 = _ := dh_get hG 12 rfl (by kernel_rfl); simp only [e12]; refine wantU ((wanted_t rfl rfl rfl).trans hc2) ?_; exact hΦ _ _ (Sub.refl _) H
              apply ObO.valw (V := undef)
              · intro x; rfl
              · intro s' w' y Φ R hs H hG hΦ; simp only [List.nil_append, List.cons_append] at hG; have e12 : y 12 = _ := dh_get hG 12 rfl (by kernel_rfl); simp only [e12]; refine wantU ((wanted_t rfl rfl rfl).trans hc2) ?_; exact hΦ _ _ (Sub.refl _) H
              apply ObO.valw (V := undef)
              · intro x; rfl
              · intro s' w' y Φ R hs H hG hΦ; simp only [List.nil_append, List.cons_append] at hG; have e12 : y 12 = _ := dh_get hG 12 rfl (by kernel_rfl); simp only [e12]; refine wantU ((wanted_t rfl rfl rfl).trans hc2) ?_; exact hΦ _ _ (Sub.refl _) H
              apply ObO.valw (V := undef)
              · intro x; rfl
              · intro s' w' y Φ R hs H hG hΦ; simp only [List.nil_append, List.cons_append] at hG; have e12 : y 12 = _ := dh_get hG 12 rfl (by kernel_rfl); simp only [e12]; refine wantU ((wanted_t rfl rfl rfl).trans hc2) ?_; exact hΦ _ _ (Sub.refl _) H
              apply ObO.valw (V := undef)
              · intro x; rfl
              · intro s' w' y Φ R hs H hG hΦ; simp only [List.nil_append, List.cons_append] at hG; have e12 : y 12 = _ := dh_get hG 12 rfl (by kernel_rfl); simp only [e12]; refine wantU ((wanted_t rfl rfl rfl).trans hc2) ?_; exact hΦ _ _ (Sub.refl _) H
              apply ObO.valw (V := undef)
              · intro x; rfl
              · intro s' w' y Φ R hs H hG hΦ; simp only [List.nil_append, List.cons_append] at hG; have e12 : y 12 = _ := dh_get hG 12 rfl (by kernel_rfl); simp only [e12]; refine wantU ((wanted_t rfl rfl rfl).trans hc2) ?_; exact hΦ _ _ (Sub.refl _) H
              apply ObO.valw (V := undef)
              · intro x; rfl
              · intro s' w' y Φ R hs H hG hΦ; simp only [List.nil_append, List.cons_append] at hG; have e12 : y 12 = _ := dh_get hG 12 rfl (by kernel_rfl); simp only [e12]; refine wantU ((wanted_t rfl rfl rfl).trans hc2) ?_; exact hΦ _ _ (Sub.refl _) H
              apply ObO.valw (V := undef)
              · intro x; rfl
              · intro s' w' y Φ R hs H hG hΦ; simp only [List.nil_append, List.cons_append] at hG; have e12 : y 12 = _ := dh_get hG 12 rfl (by kernel_rfl); simp only [e12]; refine wantU ((wanted_t rfl rfl rfl).trans hc2) ?_; exact hΦ _ _ (Sub.refl _) H
              apply ObO.valw (V := .bool false)
              · intro x; rfl
              · intro s' w' y Φ R hs H hG hΦ; simp only [List.nil_append, List.cons_append] at hG; have e12 : y 12 = _ := dh_get hG 12 rfl (by kernel_rfl); have e21 : y 21 = _ := dh_get hG 21 rfl (by kernel_rfl); simp only [e12, e21]; refine wantG rfl ?_; refine O_pickF rfl rfl hc2 rfl ?_; exact hΦ _ _ (Sub.refl _) H
              clear H
              intro s3 w3 yy hs3 H hG
              replace H := (show Holds _ _ ([] ++ _) _ from H); rw [List.nil_append] at H
              simp only [List.nil_append, List.cons_append] at hG
              have e0 : yy 0 = _ := gh_get hG 0 rfl
              have e1 : yy 1 = _ := gh_get hG 1 rfl
              have e2 : yy 2 = _ := gh_get hG 2 rfl
              have e3 : yy 3 = _ := gh_get hG 3 rfl
              have e4 : yy 4 = _ := gh_get hG 4 rfl
              have e5 : yy 5 = _ := gh_get hG 5 rfl
              have e6 : yy 6 = _ := gh_get hG 6 rfl
              have e7 : yy 7 = _ := gh_get hG 7 rfl
              have e8 : yy 8 = _ := gh_get hG 8 rfl
              have e9 : yy 9 = _ := gh_get hG 9 rfl
              have e10 : yy 10 = _ := gh_get hG 10 rfl
              have e11 : yy 11 = _ := gh_get hG 11 rfl
              have e12 : yy 12 = _ := gh_get hG 12 rfl
              have e13 : yy 13 = _ := gh_get hG 13 rfl
              have e14 : yy 14 = _ := gh_get hG 14 rfl
              have e15 : yy 15 = _ := gh_get hG 15 rfl
              have e16 : yy 16 = _ := gh_get hG 16 rfl
              have e17 : yy 17 = _ := gh_get hG 17 rfl
              have e18 : yy 18 = _ := gh_get hG 18 rfl
              have e19 : yy 19 = _ := gh_get hG 19 rfl
              have e20 : yy 20 = _ := gh_get hG 20 rfl
              have e21 : yy 21 = _ := gh_get hG 21 rfl
              have e22 : yy 22 = _ := gh_get hG 22 rfl
              simp only [e0, e1, e2, e3, e4, e5, e6, e7, e8, e9, e10, e11, e12, e13, e14, e15, e16, e17, e18, e19, e20, e21, e22]
              clear hG e0 e1 e2 e3 e4 e5 e6 e7 e8 e9 e10 e11 e12 e13 e14 e15 e16 e17 e18 e19 e20 e21 e22
              replace H := H.forget hs3; clear hs3
              refine list_end ?_
              go_wp2
              go_roundw
              case rel => exact ⟨m + 1, by omega, by go_num, Lib.hid (by rw [mayTo_succ, hmt.out]; simp [hx]), H.rot3'.drop⟩
              case measure => simp only [intOf]; omega
            · have hc2 : (!(x.testBit m)) = true := by rw [hx]; rfl
              refine wp_draw_obO (k := 23) (sz := 58) (List.replicate 23 23) (fun _ => []) mixed (by simp) rfl (by kernel_rfl) (by kernel_rfl) (by kernel_rfl) H (by simp only [List.take_succ_cons, List.take_zero]; exact rfl) (by simp only [List.drop_succ_cons, List.drop_zero]; exact rfl)
                (fun y => by simp only [ov, Act.put, List.setIfInBounds_toArray, List.set_cons_succ, List.set_cons_zero, Nat.zero_add, Nat.reduceAdd]; exact rfl) ?_
              apply ObO.valw (V := .int .i64 (m : Int))
              · intro x; rfl
              · intro s' w' y Φ R hs H hG hΦ; refine wantG rfl ?_; refine O_mv rfl rfl ?_; exact hΦ _ _ (Sub.refl _) H
              apply ObO.valw (V := .int .i64 (n : Int))
              · intro x; rfl
              · intro s' w' y Φ R hs H hG hΦ; refine wantG rfl ?_; refine O_mv rfl rfl ?_; exact hΦ _ _ (Sub.refl _) H
              apply ObO.valw (V := .bool ((m : Int) != (n : Int)))
              · intro x; rfl
              · intro s' w' y Φ R hs H hG hΦ; simp only [List.nil_append, List.cons_append] at hG; have e0 : y 0 = _ := dh_get hG 0 rfl (by kernel_rfl); have e1 : y 1 = _ := dh_get hG 1 rfl (by kernel_rfl); simp only [e0, e1]; refine wantG rfl ?_; refine O_bin rfl rfl rfl eqg_int r_neq ?_; exact hΦ _ _ (Sub.refl _) H
              apply ObO.valw (V := .bool ((m : Int) != (n : Int)))
              · intro x; rfl
              · intro s' w' y Φ R hs H hG hΦ; simp only [List.nil_append, List.cons_append] at hG; have e2 : y 2 = _ := dh_get hG 2 rfl (by kernel_rfl); simp only [e2]; refine wantG rfl ?_; refine O_mv rfl rfl ?_; exact hΦ _ _ (Sub.refl _) H
              apply ObO.valw (V := .pointer (some ⟨bx, 0, none⟩))
              · intro x; rfl
              · intro s' w' y Φ R hs H hG hΦ; simp only [List.nil_append, List.cons_append] at hG; have e3 : y 3 = _ := dh_get hG 3 rfl (by kernel_rfl); simp only [e3]; refine wantK ((wanted_t rfl rfl rfl).trans hc1) ?_; refine O_mv rfl rfl ?_; exact hΦ _ _ (Sub.refl _) H
              apply ObO.valw (V := .pointer (some ⟨bx, 0, none⟩))
              · intro x; rfl
              · intro s' w' y Φ R hs H hG hΦ; simp only [List.nil_append, List.cons_append] at hG; have e3 : y 3 = _ := dh_get hG 3 rfl (by kernel_rfl); have e4 : y 4 = _ := dh_get hG 4 rfl (by kernel_rfl); simp only [e3, e4]; refine wantK ((wanted_t rfl rfl rfl).trans hc1) ?_; refine O_nil rfl rfl ?_; exact hΦ _ _ (Sub.refl _) H
              apply ObO.valw (V := .pointer (some ⟨bx, 1, none⟩))
              · intro x; rfl
              · intro s' w' y Φ R hs H hG hΦ; simp only [List.nil_append, List.cons_append] at hG; have e3 : y 3 = _ := dh_get hG 3 rfl (by kernel_rfl); have e5 : y 5 = _ := dh_get hG 5 rfl (by kernel_rfl); simp only [e3, e5]; refine wantK ((wanted_t rfl rfl rfl).trans hc1) ?_; refine O_fld rfl Tryd.underlying171 rfl (Tryd.sizeOf165 _) rfl ?_; exact hΦ _ _ (Sub.refl _) H
              apply ObO.valw (V := .pointer (some ⟨ps, 0, none⟩))
              · intro x; rfl
              · intro s' w' y Φ R hs H hG hΦ; simp only [List.nil_append, List.cons_append] at hG; have e3 : y 3 = _ := dh_get hG 3 rfl (by kernel_rfl); have e6 : y 6 = _ := dh_get hG 6 rfl (by kernel_rfl); simp only [e3, e6]; refine wantK ((wanted_t rfl rfl rfl).trans hc1) ?_; refine L_1 0 _ _ rfl (Tryd.isAgg165 _) rfl H rfl rfl ?_; exact hΦ _ _ (Sub.refl _) H
              apply ObO.valw (V := .int .i64 (m : Int))
              · intro x; rfl
              · intro s' w' y Φ R hs H hG hΦ; simp only [List.nil_append, List.cons_append] at hG; have e3 : y 3 = _ := dh_get hG 3 rfl (by kernel_rfl); simp only [e3]; refine wantK ((wanted_t rfl rfl rfl).trans hc1) ?_; refine O_mv rfl rfl ?_; exact hΦ _ _ (Sub.refl _) H
              apply ObO.valw (V := .bool (x.testBit m))
              · intro x; rfl
              · intro s' w' y Φ R hs H hG hΦ; simp only [List.nil_append, List.cons_append] at hG; have e3 : y 3 = _ := dh_get hG 3 rfl (by kernel_rfl); have e7 : y 7 = _ := dh_get hG 7 rfl (by kernel_rfl); have e8 : y 8 = _ := dh_get hG 8 rfl (by kernel_rfl); simp only [e3, e7, e8]; refine wantK ((wanted_t rfl rfl rfl).trans hc1) ?_; refine O_call2 rfl Tryd.func115 rfl rfl rfl rfl ?_; refine (bhas_p (k := 1) hm hn H (hs0.mono hs) rfl).mono ?_; rintro e w2 ⟨rfl, H⟩; exact ⟨_, rfl, hΦ _ _ (Sub.refl _) H⟩
              apply ObO.valw (V := .bool (!(x.testBit m)))
              · intro x; rfl
              · intro s' w' y Φ R hs H hG hΦ; simp only [List.nil_append, List.cons_append] at hG; have e3 : y 3 = _ := dh_get hG 3 rfl (by kernel_rfl); have e9 : y 9 = _ := dh_get hG 9 rfl (by kernel_rfl); simp only [e3, e9]; refine wantK ((wanted_t rfl rfl rfl).trans hc1) ?_; refine O_not rfl rfl ?_; exact hΦ _ _ (Sub.refl _) H
              apply ObO.valw (V := .bool (!(x.testBit m)))
              · intro x; rfl
              · intro s' w' y Φ R hs H hG hΦ; simp only [List.nil_append, List.cons_append] at hG; have e3 : y 3 = _ := dh_get hG 3 rfl (by kernel_rfl); have e10 : y 10 = _ := dh_get hG 10 rfl (by kernel_rfl); simp only [e3, e10]; refine wantG rfl ?_; refine O_pickT rfl rfl hc1 rfl ?_; exact hΦ _ _ (Sub.refl _) H
              apply ObO.valw (V := .bool (!(x.testBit m)))
              · intro x; rfl
              · intro s' w' y Φ R hs H hG hΦ; simp only [List.nil_append, List.cons_append] at hG; have e11 : y 11 = _ := dh_get hG 11 rfl (by kernel_rfl); simp only [e11]; refine wantG rfl ?_; refine O_mv rfl rfl ?_; exact hΦ _ _ (Sub.refl _) H
              apply ObO.valw (V := .agg #[.int .i64 (tn l m).proc, .int .i64 (tn l m).state, .int .i64 (tn l m).from_, .int .i64 (tn l m).to, .slice Am (tn l m).ops.length cm])
              · intro x; rfl
              · intro s' w' y Φ R hs H hG hΦ; simp only [List.nil_append, List.cons_append] at hG; have e12 : y 12 = _ := dh_get hG 12 rfl (by kernel_rfl); simp only [e12]; refine wantK ((wanted_t rfl rfl rfl).trans hc2) ?_; refine G_agg _ _ rfl (Tryd.isAgg75 _) (Tryd.sizeOf75 _) rfl (var_cells 2 H rfl) ?_; exact hΦ _ _ (Sub.refl _) H
              apply ObO.valw (V := .pointer (some ⟨bx, 0, none⟩))
              · intro x; rfl
              · intro s' w' y Φ R hs H hG hΦ; simp only [List.nil_append, List.cons_append] at hG; have e12 : y 12 = _ := dh_get hG 12 rfl (by kernel_rfl); simp only [e12]; refine wantK ((wanted_t rfl rfl rfl).trans hc2) ?_; refine O_mv rfl rfl ?_; exact hΦ _ _ (Sub.refl _) H
              apply ObO.valw (V := .pointer (some ⟨bx, 0, none⟩))
              · intro x; rfl
              · intro s' w' y Φ R hs H hG hΦ; simp only [List.nil_append, List.cons_append] at hG; have e12 : y 12 = _ := dh_get hG 12 rfl (by kernel_rfl); have e14 : y 14 = _ := dh_get hG 14 rfl (by kernel_rfl); simp only [e12, e14]; refine wantK ((wanted_t rfl rfl rfl).trans hc2) ?_; refine O_nil rfl rfl ?_; exact hΦ _ _ (Sub.refl _) H
              apply ObO.valw (V := .pointer (some ⟨bx, 0, none⟩))
              · intro x; rfl
              · intro s' w' y Φ R hs H hG hΦ; simp only [List.nil_append, List.cons_append] at hG; have e12 : y 12 = _ := dh_get hG 12 rfl (by kernel_rfl); have e15 : y 15 = _ := dh_get hG 15 rfl (by kernel_rfl); simp only [e12, e15]; refine wantK ((wanted_t rfl rfl rfl).trans hc2) ?_; refine O_fld rfl Tryd.underlying171 rfl (Tryd.sizeOf57 _) rfl ?_; exact hΦ _ _ (Sub.refl _) H
              apply ObO.valw (V := .slice (some ⟨b, off, none⟩) l.length c)
              · intro x; rfl
              · intro s' w' y Φ R hs H hG hΦ; simp only [List.nil_append, List.cons_append] at hG; have e12 : y 12 = _ := dh_get hG 12 rfl (by kernel_rfl); have e16 : y 16 = _ := dh_get hG 16 rfl (by kernel_rfl); simp only [e12, e16]; refine wantK ((wanted_t rfl rfl rfl).trans hc2) ?_; refine L_1 0 _ _ rfl (Tryd.isAgg57 _) rfl H rfl rfl ?_; exact hΦ _ _ (Sub.refl _) H
              apply ObO.valw (V := .int .i64 (n : Int))
              · intro x; rfl
              · intro s' w' y Φ R hs H hG hΦ; simp only [List.nil_append, List.cons_append] at hG; have e12 : y 12 = _ := dh_get hG 12 rfl (by kernel_rfl); simp only [e12]; refine wantK ((wanted_t rfl rfl rfl).trans hc2) ?_; refine O_mv rfl rfl ?_; exact hΦ _ _ (Sub.refl _) H
              apply ObO.valw (V := .pointer (some ⟨b, off + n * 5, none⟩))
              · intro x; rfl
              · intro s' w' y Φ R hs H hG hΦ; simp only [List.nil_append, List.cons_append] at hG; have e12 : y 12 = _ := dh_get hG 12 rfl (by kernel_rfl); have e17 : y 17 = _ := dh_get hG 17 rfl (by kernel_rfl); have e18 : y 18 = _ := dh_get hG 18 rfl (by kernel_rfl); simp only [e12, e17, e18]; refine wantK ((wanted_t rfl rfl rfl).trans hc2) ?_; refine O_ix rfl Tryd.underlying57 (Tryd.sizeOf75 _) rfl rfl rfl hk ?_; exact hΦ _ _ (Sub.refl _) H
              apply ObO.valw (V := .agg #[.int .i64 (tn l n).proc, .int .i64 (tn l n).state, .int .i64 (tn l n).from_, .int .i64 (tn l n).to, .slice An (tn l n).ops.length cn])
              · intro x; rfl
              · intro s' w' y Φ R hs H hG hΦ; simp only [List.nil_append, List.cons_append] at hG; have e12 : y 12 = _ := dh_get hG 12 rfl (by kernel_rfl); have e19 : y 19 = _ := dh_get hG 19 rfl (by kernel_rfl); simp only [e12, e19]; refine wantK ((wanted_t rfl rfl rfl).trans hc2) ?_; refine G_sN _ _ rfl (Tryd.isAgg75 _) rfl H (hcn.mono hs) (Tryd.sizeOf75 _) ?_; exact hΦ _ _ (Sub.refl _) H
              apply ObO.valw (V := .bool (ahd (tn l m) (tn l n)))
              · intro x; rfl
              · intro s' w' y Φ R hs H hG hΦ; simp only [List.nil_append, List.cons_append] at hG; have e12 : y 12 = _ := dh_get hG 12 rfl (by kernel_rfl); have e13 : y 13 = _ := dh_get hG 13 rfl (by kernel_rfl); have e20 : y 20 = _ := dh_get hG 20 rfl (by kernel_rfl); simp only [e12, e13, e20]; refine wantK ((wanted_t rfl rfl rfl).trans hc2) ?_; refine O_call2 rfl Tryd.func107 rfl rfl rfl rfl ?_; refine (ahead_c (tn l m) (tn l n) _ _ _ _ _).mono ?_; rintro e w2 ⟨rfl, hb⟩; exact ⟨_, rfl, hΦ _ _ (Sub.refl _) (H.below hb)⟩
              apply ObO.valw (V := .bool (ahd (tn l m) (tn l n)))
              · intro x; rfl
              · intro s' w' y Φ R hs H hG hΦ; simp only [List.nil_append, List.cons_append] at hG; have e12 : y 12 = _ := dh_get hG 12 rfl (by kernel_rfl); have e21 : y 21 = _ := dh_get hG 21 rfl (by kernel_rfl); simp only [e12, e21]; refine wantG rfl ?_; refine O_pickT rfl rfl hc2 rfl ?_; exact hΦ _ _ (Sub.refl _) H
              clear H
              intro s3 w3 yy hs3 H hG
              replace H := (show Holds _ _ ([] ++ _) _ from H); rw [List.nil_append] at H
              simp only [List.nil_append, List.cons_append] at hG
              have e0 : yy 0 = _ := gh_get hG 0 rfl
              have e1 : yy 1 = _ := gh_get hG 1 rfl
              have e2 : yy 2 = _ := gh_get hG 2 rfl
              have e3 : yy 3 = _ := gh_get hG 3 rfl
              have e4 : yy 4 = _ := gh_get hG 4 rfl
              have e5 : yy 5 = _ := gh_get hG 5 rfl
              have e6 : yy 6 = _ := gh_get hG 6 rfl
              have e7 : yy 7 = _ := gh_get hG 7 rfl
              have e8 : yy 8 = _ := gh_get hG 8 rfl
              have e9 : yy 9 = _ := gh_get hG 9 rfl
              have e10 : yy 10 = _ := gh_get hG 10 rfl
              have e11 : yy 11 = _ := gh_get hG 11 rfl
              have e12 : yy 12 = _ := gh_get hG 12 rfl
              have e13 : yy 13 = _ := gh_get hG 13 rfl
              have e14 : yy 14 = _ := gh_get hG 14 rfl
              have e15 : yy 15 = _ := gh_get hG 15 rfl
              have e16 : yy 16 = _ := gh_get hG 16 rfl
              have e17 : yy 17 = _ := gh_get hG 17 rfl
              have e18 : yy 18 = _ := gh_get hG 18 rfl
              have e19 : yy 19 = _ := gh_get hG 19 rfl
              have e20 : yy 20 = _ := gh_get hG 20 rfl
              have e21 : yy 21 = _ := gh_get hG 21 rfl
              have e22 : yy 22 = _ := gh_get hG 22 rfl
              simp only [e0, e1, e2, e3, e4, e5, e6, e7, e8, e9, e10, e11, e12, e13, e14, e15, e16, e17, e18, e19, e20, e21, e22]
              clear hG e0 e1 e2 e3 e4 e5 e6 e7 e8 e9 e10 e11 e12 e13 e14 e15 e16 e17 e18 e19 e20 e21 e22
              replace H := H.forget hs3; clear hs3
              refine list_end ?_
              have ha0 : (ahd (tn l m) (tn l n) = true) ∨ (ahd (tn l m) (tn l n) = false) := by cases ahd (tn l m) (tn l n) <;> simp
              rcases ha0 with ha | ha
              · rw [ha]
                go_wp2
                have hfin : mayTo l x n l.length = false := by
                  have : mayTo l x n (m + 1) = false := by rw [mayTo_succ, ha, hx]; simp [hmn]
                  rcases Nat.lt_or_ge (m + 1) l.length with h | h
                  · exact mayTo_more this (by omega)
                  · have : m + 1 = l.length := by omega
                    rw [← this]; assumption
                rw [hfin]
                exact ret1 rfl (rv_tmp rfl) rfl ⟨rfl, H.rot3'.drop⟩
              · rw [ha]
                go_wp2
                go_roundw
                case rel => exact ⟨m + 1, by omega, by go_num, Lib.hid (by rw [mayTo_succ, hmt.out, ha]; simp), H.rot3'.drop⟩
                case measure => simp only [intOf]; omega
        · have hml : m = l.length := by omega
          subst hml
          go_wp2
          exact ret1 rfl (rv_tmp rfl) rfl ⟨by simp [hmt.out], H⟩
  · rw [hd, Bool.false_and, Bool.false_and]
    go_enter Tryd.func140, Tryd.ntmps140
    go_wp2_with (go_at_call 104; refine (done_c (tn l n) An cn _).mono ?_; rintro e w1 ⟨rfl, hw1⟩; rw [hd])
    exact ret1 rfl (rv_tmp rfl) rfl ⟨rfl, H.below hw1⟩
end Go.Proofs.YtemdmpgekegfhaaDoor
end

section
namespace Go.Proofs.YtemdmpgekegfhaaDoor
open Go.RowKit
set_option linter.all false
set_option maxRecDepth 10000

def kY : Kin UInt8 := Kin.sc (fun c => Value.int .u8 (c.toNat : Int)) (fun _ => True) 1 5 (fun _ => rfl)
theorem kY_at : kY.At Tryd.prog 145 := ⟨Tryd.underlying145, by decide, _, _, Tryd.type5, rfl, rfl, rfl, rfl⟩
def kb (M : List Nat) : List UInt8 := M.flatMap fun i => [UInt8.ofNat (i % 256), UInt8.ofNat (i / 256 % 256)]
theorem kb_step {M : List Nat} {t : Nat} (h : t < M.length) : kb (M.take (t + 1)) = kb (M.take t) ++ [UInt8.ofNat (M[t] % 256), UInt8.ofNat (M[t] / 256 % 256)] := by
  unfold kb; rw [List.take_succ_eq_append_getElem h, List.flatMap_append]; simp
theorem kb_len (M : List Nat) : (kb M).length = 2 * M.length := by
  unfold kb
  induction M with
  | nil => rfl
  | cons x r ih => rw [List.flatMap_cons, List.length_append, ih]; simp; omega
/-- A state that lies in memory that stays. -/
def StS (s : SH) (p : Nat) (m : MSt) : Prop := ∃ r1 r2, MapKO kcS kI s r1 m.lists ∧ MapKF kcS vcI s r2 m.regs ∧ Cells s ⟨p, 0, none⟩ [.map (some r1), .map (some r2)]
theorem StS.mono {s t : SH} (hs : Sub s t) {p : Nat} {m : MSt} (h : StS s p m) : StS t p m := let ⟨r1, r2, h1, h2, h3⟩ := h; ⟨r1, r2, h1.mono hs, h2.mono hs, h3.mono hs⟩
theorem text_size {m : MSt} {t : ByteArray} (h : model_State_Text_f m = some t) : t.size ≤ 10000000000000 := by
  unfold model_State_Text_f at h
  split at h
  · rename_i hc
    have h := Option.some.inj h
    rw [← h, ← byL_len, byL_ba]; exact hc.1
  · cases h
theorem ba_app (a b : List UInt8) : ba a ++ ba b = ba (a ++ b) := ByteArray.mk_append_mk a b
theorem ba_size (a : List UInt8) : (ba a).size = a.length := by rw [← byL_len, byL_ba]
theorem conv_own {E : World} {s s0 : SH} {L : List HP} {w : World} {v : Value} {xs : List UInt8} (i : Nat) (H : Holds E s L w) (hi : L[i]? = some ((kY.sh s0).Osl v xs)) : (convert 145 9 v).run Tryd.prog w = .ok (.string (ba xs)) w := by
  obtain ⟨A, cap, rfl, h1, h2, h3⟩ := (H.front i hi).len
  cases A with
  | none =>
    have e := h3 rfl
    subst e
    show (convert _ _ (.slice none 0 cap)).run _ w = _
    rw [Lib.run_convert_nil_bytes w _ _ _ _ Tryd.underlying145 Tryd.underlying5 Tryd.underlying9]
    rfl
  | some a =>
    have hb : ∃ b, a = ⟨b, 0, none⟩ ∨ xs = [] := by
      by_cases hx : xs = []
      · exact ⟨0, .inr hx⟩
      · obtain ⟨b, e⟩ := own_addr i H hi hx
        exact ⟨b, .inl (Option.some.inj e)⟩
    refine run_convert_bytes_back w _ _ _ a cap xs Tryd.underlying145 Tryd.underlying5 Tryd.underlying9 (fun j hj => ?_)
    obtain ⟨b, rfl | hx⟩ := hb
    · obtain ⟨cs, hK, hr⟩ := Kin.Osl.readAt (H.front i hi) j hj
      obtain ⟨rfl, -⟩ := hK
      have := hr 0 _ rfl
      have e : kY.sz = 1 := rfl
      have e2 : ((⟨b, j * kY.sz, none⟩ : Addr).add 0) = (⟨b, 0, none⟩ : Addr).add j := by
        rw [e, Nat.mul_one]; unfold Addr.add; simp
      rw [e2] at this; exact this
    · subst hx; cases hj
theorem O_cv {P : Program} {o : Oper} {a : Act} {w : World} {Φ : Value → World → Prop} {src dst : TypeId} {x : Operand} {v V : Value} (ho : o.op = .convert src dst x) (hx : a.eval x = v) (hr : (convert src dst v).run P w = .ok V w) (h : Φ V w) : OpG P o a w Φ := by
  unfold OpG execOp
  simp only [ho, hx, hr, Sem.run_bind, Sem.run_pure, Result.andThen_ok, Oper.gives]
  exact h
theorem r_cat {P : Program} {w : World} {t : TypeId} {a b c : ByteArray} (h : a.size + b.size ≤ 9223372036854775807) (e : a ++ b = c) : (binOp .add t (.string a) (.string b)).run P w = .ok (.string c) w := by
  rw [binOp_string_add, run_string_add_sum w a b h, e]
set_option maxHeartbeats 4000000 in
theorem key_c {E : World} {s : SH} {L : List HP} {w : World} {bx c ps bw rm x p : Nat} {A : Option Addr} {l : List Txn} {left budget taken : Int} {m : MSt} {key : ByteArray} (hn : l.length ≤ 300) (hs0 : SetAt s ps bw l.length) (hT : Tz s) (hP : Pw s) (hx : x < 2 ^ l.length) (hS : StS s p m) (hm : keyT x l.length m = some key)
    (H : Holds E s (skP bx A l.length c ps rm left budget taken :: wordP l.length x bw :: L) w) :
    Calls Tryd.prog 142 #[.pointer (some ⟨bx, 0, none⟩), .pointer (some ⟨p, 0, none⟩)] w fun e w' => e = .returned (.string key) ∧ Holds E s (skP bx A l.length c ps rm left budget taken :: wordP l.length x bw :: L) w' := by
  have hM : bitsL x l.length = ((List.range l.length).filter fun j => x.testBit j).map fun j : Nat => (j : Int) := rfl
  have hlt : ∀ i ∈ (List.range l.length).filter (fun j => x.testBit j), i < 300 := fun i hi => by have := List.mem_range.1 (List.mem_filter.1 hi).1; omega
  have hml : ((List.range l.length).filter fun j => x.testBit j).length ≤ 300 := by
    have := List.length_filter_le (fun j => x.testBit j) (List.range l.length)
    rw [List.length_range] at this; omega
  have hkb : keyB x l.length = kb ((List.range l.length).filter fun j => x.testBit j) := rfl
  obtain ⟨t, ht, hkey⟩ : ∃ t, model_State_Text_f m = some t ∧ key = ba (keyB x l.length ++ 124 :: byL t) := by
    unfold keyT at hm
    cases h : model_State_Text_f m with
    | none => rw [h] at hm; cases hm
    | some t => rw [h] at hm; exact ⟨t, rfl, (Option.some.inj hm).symm⟩
  rw [hkb] at hkey
  generalize (List.range l.length).filter (fun j => x.testBit j) = M at hM hlt hml hkey
  have HKEY := Lib.hid hkey
  have HTX := Lib.hid ht
  have HM := Lib.hid hM
  have HLT := Lib.hid hlt
  clear hkey ht hM hkb hm hlt
  have c1 : w.cell? ⟨bx, 1, none⟩ = some (.pointer (some ⟨ps, 0, none⟩)) := pt_c 0 H rfl 1
  go_enter Tryd.func142, Tryd.ntmps142
  go_wp2_with (go_at_call 113; refine (blist_p (L := skP bx A l.length c ps rm left budget taken :: L) hn H.swap hs0 hT hx).mono ?_; clear H c1; rintro e w1 ⟨v, rfl, H5⟩; obtain ⟨s1, hs1, H6, hsl⟩ := Kin.Osl.fr H5; clear H5; rw [HM.out] at hsl; obtain ⟨A1, cap1, rfl, -⟩ := id hsl; rw [List.length_map]; have HSL := Lib.hid hsl; clear hsl)
  have H7 := H6.swap
  clear H6
  have H : Holds E s1 ((kY.sh s1).Osl (.slice none 0 0) (kb (M.take 0)) :: skP bx A l.length c ps rm left budget taken :: wordP l.length x bw :: L) w1 := Kin.Osl.nil H7
  clear H7
  go_loopw [5, 14] (fun vb i wr => ∃ k : Nat, k ≤ M.length ∧ i = .int .i64 k ∧ Holds E s1 ((kY.sh s1).Osl vb (kb (M.take k)) :: skP bx A l.length c ps rm left budget taken :: wordP l.length x bw :: L) wr) (fun _ i _ => M.length - (intOf i).toNat)
  case atStart => exact ⟨0, Nat.zero_le _, rfl, H⟩
  case round =>
    clear H
    obtain ⟨k, hk, rfl, H⟩ := hrel
    by_cases hlt : k < M.length
    · obtain ⟨b, off, cs, rfl, hK, hC⟩ := HSL.out.elem k (by simpa using hlt)
      obtain ⟨rfl, -⟩ := hK
      have ce : wr.cell? ⟨b, off + k, none⟩ = some (.int .i64 ((M[k] : Nat) : Int)) := by
        have h := hC.cell' H 0 _ rfl
        have e : kI.sz = 1 := rfl
        rw [e, Nat.mul_one, Nat.add_zero, List.getElem_map] at h
        exact h
      clear hC
      have hq := HLT.out _ (List.getElem_mem hlt)
      have hst := kb_step hlt
      have hkl := kb_len (M.take k)
      rw [List.length_take] at hkl
      generalize M[k] = q at ce hq hst
      have HST := Lib.hid hst
      clear hst
      have hrow : RowV kY s1 [UInt8.ofNat (q % 256), UInt8.ofNat (q / 256 % 256)] [.int .u8 ((q : Int) % 256), .int .u8 ((q : Int) / 256)] := by
        have e1 : ((q : Int) % 256) = ((UInt8.ofNat (q % 256)).toNat : Int) := by rw [UInt8.toNat_ofNat']; omega
        have e2 : ((q : Int) / 256) = ((UInt8.ofNat (q / 256 % 256)).toNat : Int) := by rw [UInt8.toNat_ofNat']; omega
        rw [e1, e2]
        exact ⟨⟨rfl, trivial⟩, ⟨rfl, trivial⟩, trivial⟩
      have HROW := Lib.hid hrow
      clear hrow
      go_wp2_with ((with_reducible refine OpG.list rfl ?_); first
        | (refine SL_n (d := kY) (s0 := s1) 2 rfl [.int .u8 ((q : Int) % 256), .int .u8 ((q : Int) / 256)] ?hp Tryd.underlying145 Tryd.sizeOf5 Tryd.zeroValue5 rfl [UInt8.ofNat (q % 256), UInt8.ofNat (q / 256 % 256)] HROW.out rfl ?h1 ?h2 ?h3 H ?_; (case hp => (simp only [List.map_toArray, List.map_cons, List.map_nil]; rfl)); (case h1 => omega); (case h2 => show 2 * 1 ≤ 16777216; omega); (case h3 => show 2 * 1 ≤ 140737488355328; omega); clear H; intro b2 w2 H2)
        | (refine G_appendO kY_at _ _ rfl H2.swap rfl rfl ?hb ?_; (case hb => (show ((kb (M.take k)).length + 2) * 1 ≤ 140737488355328; omega)); clear H2; intro v3 w3 H3))
      have H4 := H3.swap.drop
      rw [← HST.out] at H4
      clear H3
      go_roundw
      case rel => exact ⟨k + 1, by omega, by go_num, H4⟩
      case measure => simp only [intOf]; omega
    · have hkl : k = M.length := by omega
      subst hkl
      rw [List.take_length] at H
      obtain ⟨r1, r2, g1, g2, g3⟩ := hS.mono hs1
      have hts := text_size HTX.out
      have hkl2 := kb_len M
      go_wp2
      refine wp_draw_obO (k := 7) (sz := 33) (List.replicate 7 7) (fun _ => []) mixed (by simp) rfl (by kernel_rfl) (by kernel_rfl) (by kernel_rfl) H (by simp only [List.take_succ_cons, List.take_zero]; exact rfl) (by simp only [List.drop_succ_cons, List.drop_zero]; exact rfl)
        (fun y => by simp only [ov, Act.put, List.setIfInBounds_toArray, List.set_cons_succ, List.set_cons_zero, Nat.zero_add, Nat.reduceAdd]; exact rfl) ?_
      apply ObO.valw (V := u5)
      · intro x; rfl
      · intro s' w' y Φ R hs H hG hΦ; refine wantG rfl ?_; refine O_mv rfl rfl ?_; exact hΦ _ _ (Sub.refl _) H
      apply ObO.valw (V := .string (ba (kb M)))
      · intro x; rfl
      · intro s' w' y Φ R hs H hG hΦ; simp only [List.nil_append, List.cons_append] at hG; have e0 : y 0 = _ := dh_get hG 0 rfl (by kernel_rfl); simp only [e0]; refine wantG rfl ?_; refine O_cv rfl rfl (conv_own 0 H rfl) ?_; exact hΦ _ _ (Sub.refl _) H
      apply ObO.valw (V := .string (ba (kb M ++ [124])))
      · intro x; rfl
      · intro s' w' y Φ R hs H hG hΦ; simp only [List.nil_append, List.cons_append] at hG; have e1 : y 1 = _ := dh_get hG 1 rfl (by kernel_rfl); simp only [e1]; refine wantG rfl ?_; refine O_bin rfl rfl rfl eqg_str (r_cat (by rw [ba_size]; show _ + 1 ≤ _; omega) (ba_app (kb M) [124])) ?_; exact hΦ _ _ (Sub.refl _) H
      apply ObO.valw (V := .pointer (some ⟨p, 0, none⟩))
      · intro x; rfl
      · intro s' w' y Φ R hs H hG hΦ; refine wantG rfl ?_; refine O_mv rfl rfl ?_; exact hΦ _ _ (Sub.refl _) H
      apply ObO.valw (V := .string t)
      · intro x; rfl
      · intro s' w' y Φ R hs H hG hΦ; simp only [List.nil_append, List.cons_append] at hG; have e3 : y 3 = _ := dh_get hG 3 rfl (by kernel_rfl); simp only [e3]; refine wantG rfl ?_; refine O_call1 rfl Tryd.func39 rfl rfl rfl ?_; refine (model_State_Text_w (a0 := m) ((hP.mono hs1).mono hs) (g1.mono hs) (g2.mono hs) (g3.mono hs) HTX.out H).mono ?_; rintro e w2 ⟨rfl, H⟩; exact ⟨_, rfl, hΦ _ _ (Sub.refl _) H⟩
      apply ObO.valw (V := .string (ba (kb M ++ 124 :: byL t)))
      · intro x; rfl
      · intro s' w' y Φ R hs H hG hΦ; simp only [List.nil_append, List.cons_append] at hG; have e2 : y 2 = _ := dh_get hG 2 rfl (by kernel_rfl); have e4 : y 4 = _ := dh_get hG 4 rfl (by kernel_rfl); simp only [e2, e4]; refine wantG rfl ?_; refine O_bin rfl rfl rfl eqg_str (r_cat (by rw [ba_size, List.length_append]; show _ + 1 + _ ≤ _; omega) (show ba (kb M ++ [124]) ++ ba (byL t) = ba (kb M ++ 124 :: byL t) by rw [ba_app, List.append_assoc]; rfl)) ?_; exact hΦ _ _ (Sub.refl _) H
      apply ObO.valw (V := .string (ba (kb M ++ 124 :: byL t)))
      · intro x; rfl
      · intro s' w' y Φ R hs H hG hΦ; simp only [List.nil_append, List.cons_append] at hG; have e5 : y 5 = _ := dh_get hG 5 rfl (by kernel_rfl); simp only [e5]; refine wantG rfl ?_; refine O_as rfl rfl ?_; exact hΦ _ _ (Sub.refl _) H
      clear H
      intro s3 w3 yy hs3 H hG
      replace H := (show Holds _ _ ([] ++ _) _ from H); rw [List.nil_append] at H
      simp only [List.nil_append, List.cons_append] at hG
      have e0 : yy 0 = _ := gh_get hG 0 rfl
      have e1 : yy 1 = _ := gh_get hG 1 rfl
      have e2 : yy 2 = _ := gh_get hG 2 rfl
      have e3 : yy 3 = _ := gh_get hG 3 rfl
      have e4 : yy 4 = _ := gh_get hG 4 rfl
      have e5 : yy 5 = _ := gh_get hG 5 rfl
      have e6 : yy 6 = _ := gh_get hG 6 rfl
      simp only [e0, e1, e2, e3, e4, e5, e6]
      clear hG e0 e1 e2 e3 e4 e5 e6
      replace H := H.forget hs3; clear hs3
      refine list_end ?_
      go_wp2
      refine ret1 rfl (rv_tmp rfl) rfl ⟨?_, (H.drop).forget hs1⟩
      simp [HKEY.out]
end Go.Proofs.YtemdmpgekegfhaaDoor
end

section
namespace Go.Proofs.YtemdmpgekegfhaaDoor
open Go.RowKit
set_option linter.all false
set_option maxRecDepth 10000

def kFr : Kin Fr where
  sz := 3
  by_ := 24
  e := 209
  K := fun s f cs => ∃ p, cs = [.int .i64 f.last, .int .i64 (f.next : Int), .pointer (some ⟨p, 0, none⟩)] ∧ StS s p f.st
  M := fun _ _ _ => False
  szpos := by decide
  len := fun ⟨p, h, _⟩ => by rw [h]; rfl
  one := fun ⟨p, h, _⟩ u hu => by
    rw [h] at hu
    simp only [List.mem_cons, List.not_mem_nil, or_false] at hu
    rcases hu with rfl | rfl | rfl <;> rfl
  mono := fun hs ⟨p, h, k⟩ => ⟨p, h, k.mono hs⟩
  lenM := fun h => h.elim
  oneM := fun h => h.elim
  fr := fun {E s x cs L w} H => by
    obtain ⟨h, ⟨h1, h2, hf, _⟩, _⟩ := H.ex
    exact hf.elim
theorem kFr_at : kFr.At Tryd.prog 210 := ⟨Tryd.underlying210, by decide, _, _, Tryd.type209, rfl, rfl, rfl, rfl⟩
theorem fr_c {E : World} {s s0 : SH} {L : List HP} {w : World} {b n cap k : Nat} {xs : List Fr} {f : Fr} (i : Nat) (H : Holds E s L w) (hi : L[i]? = some ((kFr.sh s0).Osl (.slice (some ⟨b, 0, none⟩) n cap) xs)) (hk : xs[k]? = some f) :
    ∃ p, w.cell? ⟨b, k * 3, none⟩ = some (.int .i64 f.last) ∧ w.cell? ⟨b, k * 3 + 1, none⟩ = some (.int .i64 (f.next : Int)) ∧ w.cell? ⟨b, k * 3 + 2, none⟩ = some (.pointer (some ⟨p, 0, none⟩)) ∧ StS s0 p f.st := by
  obtain ⟨hlt, he⟩ := List.getElem?_eq_some_iff.1 hk
  obtain ⟨cs, ⟨p, rfl, hS⟩, hr⟩ := Kin.Osl.readAt (H.front i hi) k hlt
  have e : ∀ j, ((⟨b, k * kFr.sz, none⟩ : Addr).add j) = ⟨b, k * 3 + j, none⟩ := fun j => by
    have : kFr.sz = 3 := rfl
    rw [this]; unfold Addr.add; split <;> simp_all
  have h0 := hr 0 _ rfl
  have h1 := hr 1 _ rfl
  have h2 := hr 2 _ rfl
  rw [e] at h0 h1 h2
  rw [he] at h0 h1 hS
  exact ⟨p, h0, h1, h2, hS⟩
/-- A slice that is owned is cut off; its elements stay. -/
theorem osl_take {α : Type} {d : Kin α} {E : World} {s s0 : SH} {L : List HP} {w : World} {A : Option Addr} {n cap k : Nat} {xs : List α} (hk : k ≤ xs.length) (H : Holds E s ((d.sh s0).Osl (.slice A n cap) xs :: L) w) : Holds E s ((d.sh s0).Osl (.slice A k cap) (xs.take k) :: L) w := by
  by_cases hx : xs = []
  · subst hx
    obtain ⟨A', cap', e, -⟩ := H.len
    cases e
    have : k = 0 := by simpa using hk
    subst this
    exact H
  · obtain ⟨b', cap', cur, ⟨e, k1, k2, k3, k4⟩, hrow, H1⟩ := Kin.Osl.openS H hx
    cases e
    have hm := Nat.mul_le_mul_right d.by_ hk
    have h := Kin.Osl.shutS (d := d) (s0 := s0) (xs := xs.take k) H1 (by rw [List.length_take]; omega) k2 k3 (by rw [List.length_take, Nat.min_eq_left hk]; omega) (by
      have h2 := hrow.take k
      rw [List.take_take, Nat.min_eq_left (Nat.mul_le_mul_right _ hk)] at h2
      rw [List.length_take, Nat.min_eq_left hk]; exact h2)
    rw [List.length_take, Nat.min_eq_left hk] at h
    exact h
/-- One cell of an element of a slice that is owned is written, as the machine does it. -/
theorem own_setF {α : Type} {d : Kin α} {E : World} {s s0 : SH} {L : List HP} {w : World} {b n cp k f : Nat} {v : Value} {x0 x' : α} {xs r : List α} (i : Nat) (hf : f < d.sz) (H : Holds E s L w) (hi : L[i]? = some ((d.sh s0).Osl (.slice (some ⟨b, 0, none⟩) n cp) xs)) (hd : xs.drop k = x0 :: r) (hK : ∀ cs, d.K s0 x0 cs → d.K s0 x' (cs.set f v)) :
    w.frozen? ⟨b, k * d.sz + f, none⟩ = false ∧ Holds E s (L.set i ((d.sh s0).Osl (.slice (some ⟨b, 0, none⟩) n cp) (setI xs (k : Int) x'))) (w.setCell ⟨b, k * d.sz + f, none⟩ v) := by
  have hk : k < xs.length := Classical.byContradiction fun hn => by rw [List.drop_of_length_le (by omega)] at hd; cases hd
  have hxk : xs[k] = x0 := by rw [List.drop_eq_getElem_cons hk] at hd; exact (List.cons.inj hd).1
  obtain ⟨b', cap, cur, ⟨e, k1, k2, k3, k4⟩, hrow, H1⟩ := Kin.Osl.openS (H.front i hi) (fun e => by rw [e] at hk; simp at hk)
  cases e
  have hm : (k + 1) * d.sz ≤ xs.length * d.sz := Nat.mul_le_mul_right _ hk
  have hm2 : xs.length * d.sz ≤ cp * d.sz := Nat.mul_le_mul_right _ k1
  have hs : (k + 1) * d.sz = k * d.sz + d.sz := Nat.succ_mul _ _
  refine ⟨by have := H1.at_pt; simp [World.frozen?, this], Holds.back i hi ?_⟩
  have H' := H1.setCell (k * d.sz + f) v
  unfold setI
  rw [Int.toNat_natCast]
  rw [show xs.length = (xs.set k x').length from (List.length_set ..).symm]
  refine Kin.Osl.shutS H' (by rw [List.length_set]; exact k1) k2 (by simpa using k3) (by rw [List.length_set]; exact k4) ?_
  have e2 : (cur.setIfInBounds (k * d.sz + f) v).toList.take ((xs.set k x').length * d.sz) = (cur.toList.take (xs.length * d.sz)).set (k * d.sz + f) v := by
    rw [Array.toList_setIfInBounds, List.length_set, List.take_set]
  rw [e2]
  obtain ⟨c, hc, hg⟩ := hrow.get k hk
  rw [hxk] at hc
  exact row_put k hk hrow hg (d.len hc) hf (hK c hc)
/-- A state that is let be: its memory stays. -/
theorem st_freeze {E : World} {s : SH} {L : List HP} {w : World} {b r1 r2 : Nat} {t : TypeId} {m : MSt} (H : Holds E s (pt b (.cells #[.map (some r1), .map (some r2)] t (0, 0)) :: mpO kcS kI s r1 m.lists :: mpF kcS vcI r2 m.regs :: L) w) : ∃ s', Sub s s' ∧ StS s' b m ∧ Holds E s' L w := by
  obtain ⟨s1, h1, h2, H1, -, -⟩ := lendAt (L := pt b (.cells #[.map (some r1), .map (some r2)] t (0, 0)) :: mpO kcS kI s r1 m.lists :: mpF kcS vcI r2 m.regs :: L) 0 rfl H
  obtain ⟨s2, k1, k2, H2, -, -⟩ := lendMapO (L := mpO kcS kI s r1 m.lists :: mpF kcS vcI r2 m.regs :: L) 0 rfl h1 H1
  obtain ⟨s3, l1, l2, H3, -, -⟩ := lendMapF (L := mpF kcS vcI r2 m.regs :: L) 0 rfl H2
  refine ⟨s3, (h1.trans k1).trans l1, ⟨r1, r2, k2.mono l1, l2, rfl, _, _, _, (k1.trans l1) _ _ h2, fun j u hj => ?_⟩, H3⟩
  simpa using hj
/-- Jumps back to one label, with what holds at each. -/
theorem wp_scopeN {P : Program} {Q : Exit → Act → World → Prop} {a0 : Act} {w0 : World} {c rest : Code} (l : Nat) (hf : findLabel c l = some rest) (m : List (Option Nat)) (hw : wfM m 0 = true) (J : Nat → (Nat → Value) → World → Prop)
    (first : c.wp P (Exit.jump l (fun a' w' => (eqM m a0.tmps.toList a'.tmps.toList ∧ a'.defers = a0.defers) ∧ ∃ n, J n (fun t => a'.tmps.getD t undef) w') Q) a0 w0)
    (pass : ∀ n f w, J n f w → rest.wp P (Exit.jump l (fun a' w' => (eqM m a0.tmps.toList a'.tmps.toList ∧ a'.defers = a0.defers) ∧ ∃ n', n' < n ∧ J n' (fun t => a'.tmps.getD t undef) w') Q) (ovm a0 m f) w) : (Code.scope c).wp P Q a0 w0 := by
  refine wp_scope_jumps l (fun a w => ovm a0 m (fun t => a.tmps.getD t undef) = a ∧ ∃ n, J n (fun t => a.tmps.getD t undef) w) (fun a w => least0 fun n => J n (fun t => a.tmps.getD t undef) w) hf ?_ ?_
  · refine wp_mono first ?_
    intro e a' w' h
    cases e <;> first | exact h | exact ⟨h.1, ovm_eq hw h.2.1.1 h.2.1.2, h.2.2⟩
  · rintro a w ⟨ha, hJ⟩
    have hr := pass _ _ w (least0_sat (p := fun n => J n (fun t => a.tmps.getD t undef) w) hJ)
    rw [ha] at hr
    refine wp_mono hr ?_
    intro e a' w' h
    cases e <;> first
      | exact h
      | exact ⟨h.1, ⟨ovm_eq hw h.2.1.1 h.2.1.2, let ⟨n', _, k⟩ := h.2.2; ⟨n', k⟩⟩, let ⟨n', hlt, k⟩ := h.2.2; Nat.lt_of_le_of_lt (least0_le (p := fun n => J n (fun t => a'.tmps.getD t undef) w') k) hlt⟩
/-- The same where the label stands behind some code: that code, and the rest from the label on, each once. -/
theorem wp_scopeL {P : Program} {Q : Exit → Act → World → Prop} {a0 : Act} {w0 : World} {r1 rest : Code} (l : Nat) (hf : findLabel (.seq r1 (.seq (.label l) rest)) l = some (.seq .skip rest)) (m : List (Option Nat)) (hw : wfM m 0 = true) (J : Nat → (Nat → Value) → World → Prop)
    (first : r1.wp P (Exit.then (fun a' w' => (eqM m a0.tmps.toList a'.tmps.toList ∧ a'.defers = a0.defers) ∧ ∃ n, J n (fun t => a'.tmps.getD t undef) w') (Exit.jump l (fun a' w' => (eqM m a0.tmps.toList a'.tmps.toList ∧ a'.defers = a0.defers) ∧ ∃ n, J n (fun t => a'.tmps.getD t undef) w') Q)) a0 w0)
    (pass : ∀ n f w, J n f w → rest.wp P (Exit.jump l (fun a' w' => (eqM m a0.tmps.toList a'.tmps.toList ∧ a'.defers = a0.defers) ∧ ∃ n', n' < n ∧ J n' (fun t => a'.tmps.getD t undef) w') Q) (ovm a0 m f) w) : (Code.scope (.seq r1 (.seq (.label l) rest))).wp P Q a0 w0 := by
  refine wp_scopeN l hf m hw J (wp_seq (wp_mono first ?_)) (fun n f w hJ => wp_seq (wp_skip (pass n f w hJ)))
  intro e a' w' h
  cases e <;> try exact h
  obtain ⟨h1, n, hJ⟩ := h
  refine wp_seq (wp_label ?_)
  have hr := pass n _ w' hJ
  rw [ovm_eq hw h1.1 h1.2] at hr
  show rest.wp P _ a' w'
  refine wp_mono hr ?_
  intro e2 a2 w2 h2
  cases e2 <;> first | exact h2 | exact ⟨h2.1, h2.2.1, let ⟨n', _, k⟩ := h2.2.2; ⟨n', k⟩⟩
end Go.Proofs.YtemdmpgekegfhaaDoor
end

section
namespace Go.Proofs.YtemdmpgekegfhaaDoor
open Go.RowKit
set_option linter.all false
set_option maxRecDepth 10000

/-- What lies there at the label: the beginning on the stack, what was met, what is left. -/
def RunAt (E : World) (s : SH) (L : List HP) (l : List Txn) (A : Option Addr) (bx c ps bw rm : Nat) (budget : Int) (R : Int × List Int × Int) (all_ : Bool) (n : Nat) (v : Value) (w : World) : Prop :=
  ∃ (s' : SH) (stk : List Fr) (x : Nat) (met : ByteArray → Option Bool) (left taken : Int), Sub s s' ∧ (stk = [] ∨ ∃ o, Stk l stk o ∧ (∀ i, x.testBit i = decide (i ∈ o)) ∧ left = leftO l o ∧ (all_ = false → leftO l o ≠ 0)) ∧ 0 ≤ taken ∧ taken ≤ budget ∧
    (if all_ = true ∧ left = 0 then some (1, ordF stk, taken) else srun l budget n stk x met left taken) = some R ∧ (all_ = true → stk ≠ []) ∧
    Holds E s' (skP bx A l.length c ps rm left budget taken :: wordP l.length x bw :: (kFr.sh s').Osl v stk.reverse :: mpF kcS vcB rm met :: L) w
theorem rowM_pure {α : Type} {d : Kin α} {s : SH} (hp : ∀ x cs h, d.M x cs h → d.K s x cs ∧ emp h) : ∀ {xs : List α} {cs : List Value} {h : SH}, d.RowM xs cs h → (d.sh s).RowM xs cs h
  | [], _, _, k => k
  | x :: xs, _, _, ⟨c, r, e, k⟩ => ⟨c, r, e, star_mono (fun h a => hp _ _ h a) (fun h a => rowM_pure hp a) k⟩
theorem osl_shut {α : Type} {d : Kin α} {s : SH} (hp : ∀ x cs h, d.M x cs h → d.K s x cs ∧ emp h) {v : Value} {xs : List α} (h : SH) (k : d.Osl v xs h) : (d.sh s).Osl v xs h := by
  rcases k with k | ⟨b, cap, cur, h1, k⟩
  · exact .inl k
  · exact .inr ⟨b, cap, cur, h1, star_mono (fun _ a => a) (fun h a => rowM_pure hp a) k⟩
theorem stk_few {l : List Txn} {stk : List Fr} {o : List Nat} (h : Stk l stk o) : stk.length = o.length + 1 ∧ o.length ≤ l.length := by
  refine ⟨?_, (cnt_zero h.nodup h.mem_lt).2⟩
  induction h with
  | base => rfl
  | push _ _ _ _ _ ih => rw [List.length_cons, ih, List.length_cons]
theorem leftO_le (l : List Txn) (o : List Nat) : leftO l o ≤ l.length := by
  unfold leftO
  have := List.length_filter_le (fun n => (tn l n).state == 1 && !decide (n ∈ o)) (List.range l.length)
  rw [List.length_range] at this
  omega
theorem stk_last {l : List Txn} {f : Fr} {r : List Fr} {o : List Nat} (h : Stk l (f :: r) o) : -1 ≤ f.last ∧ f.last < l.length := by
  cases h with
  | base => exact ⟨by show (-1 : Int) ≤ -1; omega, by show (-1 : Int) < _; omega⟩
  | push _ h2 _ _ _ => exact ⟨by show (-1 : Int) ≤ (_ : Nat); omega, by show ((_ : Nat) : Int) < _; omega⟩
theorem kI_shut {E : World} {s s0 : SH} {L : List HP} {w : World} {v : Value} {xs : List Int} (H : Holds E s (kI.Osl v xs :: L) w) : Holds E s ((kI.sh s0).Osl v xs :: L) w := H.map fun h k => osl_shut (fun x cs h a => a) h k

def cL : Code → Code
  | .seq a _ => a
  | c => c
def cR : Code → Code
  | .seq _ b => b
  | c => c
def cIn : Code → Code
  | .block _ c => c
  | .loop c => c
  | .scope c => c
  | c => c
noncomputable def runX : Code := cR (cR (cIn (cR (Tryd.f98.body.getD .skip))))
noncomputable def runLP : Code := cIn (cIn (cL (cR runX)))
noncomputable def runB3 : Code := cIn (cR runLP)
noncomputable def runS2 : Code := cR (cR (cR (cR (cR runB3))))
noncomputable def runS2b : Code := cR runS2
noncomputable def runS3 : Code := cR (cR runS2b)
noncomputable def runS4 : Code := cR runS3
abbrev runMask : List (Option Nat) := [none, none, none, none, none, some 5, some 6, some 7, some 8, some 9, some 10, some 11, some 12, some 13, some 14, some 15, some 16, some 17, some 18, some 19, some 20, some 21, some 22, some 23, some 24, some 25, some 26, some 27, some 28, some 29, some 30, some 31, some 32, some 33, some 34, some 35, some 36, some 37, some 38, some 39, some 40, some 41, some 42, some 43, some 44, some 45, some 46, some 47, some 48, some 49, some 50, some 51, some 52, some 53, some 54, some 55, some 56, some 57, some 58, some 59, some 60, some 61, some 62, some 63, some 64, some 65, some 66, some 67, some 68, some 69, some 70, some 71, some 72, some 73, some 74, some 75, some 76, some 77, some 78, some 79, some 80, some 81, some 82, some 83, some 84, some 85, some 86, some 87, some 88, some 89, some 90, some 91, some 92, some 93, some 94, some 95, some 96, some 97, some 98, some 99, some 100, some 101, some 102, some 103, some 104, some 105, some 106, some 107, some 108, some 109, some 110, some 111, some 112, some 113, some 114, some 115, some 116, some 117, some 118, some 119, some 120, some 121, some 122, some 123, some 124, some 125, some 126, some 127, some 128, some 129, some 130, some 131, some 132, some 133, some 134, some 135, some 136, some 137, some 138, some 139, some 140, some 141, some 142, some 143, some 144, some 145, some 146, some 147, some 148, some 149, some 150, some 151, some 152, some 153, some 154, some 155, some 156, some 157]
abbrev runAct (bx : Nat) : Act := ⟨#[.pointer (some ⟨bx, 0, none⟩), undef, .int .i64 0, .slice none 0 0, .int .i64 0, undef, undef, undef, undef, undef, undef, undef, undef, undef, undef, undef, undef, undef, undef, undef, undef, undef, undef, undef, undef, undef, undef, undef, undef, undef, undef, undef, undef, undef, undef, undef, undef, undef, undef, undef, undef, undef, undef, undef, undef, undef, undef, undef, undef, undef, undef, undef, undef, undef, undef, undef, undef, undef, undef, undef, undef, undef, undef, undef, undef, undef, undef, undef, undef, undef, undef, undef, undef, undef, undef, undef, undef, undef, undef, undef, undef, undef, undef, undef, undef, undef, undef, undef, undef, undef, undef, undef, undef, undef, undef, undef, undef, undef, undef, undef, undef, undef, undef, undef, undef, undef, undef, undef, undef, undef, undef, undef, undef, undef, undef, undef, undef, undef, undef, undef, undef, undef, undef, undef, undef, undef, undef, undef, undef, undef, undef, undef, undef, undef, undef, undef, undef, undef, undef, undef, undef, undef, undef, undef, undef, undef, undef, undef, undef, undef, undef, undef, undef, undef, undef, undef, undef, undef], []⟩
def runFr (bx : Nat) (a : Act) : Prop := eqM runMask (runAct bx).tmps.toList a.tmps.toList ∧ a.defers = (runAct bx).defers
theorem to_ovm {P : Program} {C : Code} {Q : Exit → Act → World → Prop} {a : Act} {w : World} (a0 : Act) (m : List (Option Nat)) (hw : wfM m 0 = true) (h : eqM m a0.tmps.toList a.tmps.toList) (hd : a.defers = a0.defers) (H : C.wp P Q (ovm a0 m fun t => a.tmps.getD t undef) w) : C.wp P Q a w := by
  rw [ovm_eq hw h hd] at H; exact H
end Go.Proofs.YtemdmpgekegfhaaDoor
end

section
namespace Go.Proofs.YtemdmpgekegfhaaDoor
open Go.RowKit
set_option linter.all false
set_option maxRecDepth 10000

set_option maxHeartbeats 4000000 in
theorem run_s2 {E : World} {s s2 : SH} {L : List HP} {w : World} {bx c ps bw rm n2 k x cap : Nat} {A : Option Addr} {bs : Nat} {l : List Txn} {budget left taken : Int} {R : Int × List Int × Int} {fr : Fr} {r : List Fr} {met : ByteArray → Option Bool} {f : Nat → Value} {Q : Exit → Act → World → Prop}
    (hb : 0 ≤ budget ∧ budget ≤ 200000) (ht0 : 0 ≤ taken) (ht1 : taken ≤ budget) (hs2 : Sub s s2)
    (f5 : f 5 = .slice (some ⟨bs, 0, none⟩) (r.length + 1) cap) (f9 : f 9 = .pointer (some ⟨bs, r.length * 3, none⟩)) (f10 : f 10 = .int .i64 (k : Int))
    (H : Holds E s2 (skP bx A l.length c ps rm left budget taken :: wordP l.length x bw :: (kFr.sh s2).Osl (.slice (some ⟨bs, 0, none⟩) (r.length + 1) cap) (fr :: r).reverse :: mpF kcS vcB rm met :: L) w)
    (hQr : taken = budget → ∀ (a : Act) (w' : World), a.tmps.getD 2 undef = .int .i64 3 → a.tmps.getD 3 undef = .slice none 0 0 → a.tmps.getD 4 undef = .int .i64 taken → a.tmps.size = 158 → a.defers = [] → Holds E s2 L w' → Q .ret a w')
    (hQ3 : taken ≠ budget → ∀ (g : Nat → Value) (w' : World) (b0 t1 t2 : Nat), g 5 = f 5 → g 10 = f 10 → g 11 = .pointer (some ⟨b0, 0, none⟩) →
      Holds E s2 (pt b0 (.cells #[.map (some t1), .map (some t2)] 91 (0, 0)) :: mpO kcS kI s2 t1 fr.st.lists :: mpF kcS vcI t2 fr.st.regs :: skP bx A l.length c ps rm left budget (taken + 1) :: wordP l.length x bw :: (kFr.sh s2).Osl (.slice (some ⟨bs, 0, none⟩) (r.length + 1) cap) (fr :: r).reverse :: mpF kcS vcB rm met :: L) w' →
      runS3.wp Tryd.prog Q (ovm (runAct bx) runMask g) w') :
    runS2.wp Tryd.prog Q (ovm (runAct bx) runMask f) w := by
  have HQr := Lib.hid hQr
  have HQ3 := Lib.hid hQ3
  clear hQr hQ3
  have e5 := Lib.hid f5
  have e10 := Lib.hid f10
  show (Code.seq (cL runS2) (Code.seq (cL runS2b) (Code.seq (cL (cR runS2b)) runS3))).wp _ _ _ _
  dsimp only [runS2b, runS2, runB3, runLP, runX, cR, cL, cIn, Tryd.f98, Option.getD]
  simp only [ovm, mixM]
  rw [f5, f9, f10]
  clear f5 f9 f10
  have c4 : w.cell? ⟨bx, 4, none⟩ = some (.int .i64 budget) := pt_c 0 H rfl 4
  have c5 : w.cell? ⟨bx, 5, none⟩ = some (.int .i64 taken) := pt_c 0 H rfl 5
  by_cases htk : taken = budget
  · have hd3 : (taken == budget) = true := by simp [htk]
    have hd4 : decide (taken = budget) = true := by simp [htk]
    have HTK := Lib.hid htk
    clear htk
    go_wp2
    go_region
    have H6 := H.drew
    clear c4 c5
    generalize w.drew = w6 at H6 ⊢
    have c5 : w6.cell? ⟨bx, 5, none⟩ = some (.int .i64 taken) := pt_c 0 H6 rfl 5
    go_wp2
    go_region
    have H7 := H6.drew
    clear c5
    go_wp2
    exact HQr.out HTK.out _ _ rfl rfl rfl rfl rfl H7.drop.drop.drop.drop
  · have hd3 : (taken == budget) = false := by simp [htk]
    have hd4 : decide (taken = budget) = false := by simp [htk]
    have HTK := Lib.hid htk
    clear htk
    go_wp2
    go_region
    have H6 := H.drew
    clear c4 c5 hd3 hd4
    generalize w.drew = w6 at H6 ⊢
    have c5 : w6.cell? ⟨bx, 5, none⟩ = some (.int .i64 taken) := pt_c 0 H6 rfl 5
    have z5 := pt_f 0 H6 rfl 5
    have H7 : Holds E s2 (skP bx A l.length c ps rm left budget (taken + 1) :: wordP l.length x bw :: (kFr.sh s2).Osl (.slice (some ⟨bs, 0, none⟩) (r.length + 1) cap) (fr :: r).reverse :: mpF kcS vcB rm met :: L) (w6.setCell ⟨bx, 5, none⟩ (.int .i64 (taken + 1))) := pt_set 0 H6 rfl 5 _
    clear H6
    obtain ⟨p3, -, -, q2, hSt3⟩ := fr_c (k := r.length) (f := fr) 2 H7 rfl (by simp)
    obtain ⟨r1, r2, g1, g2, g3⟩ := hSt3
    go_wp2_with (go_at_call 41; refine (model_State_Copy_w (a0 := fr.st) g1 g2 g3 H7).mono ?_; clear H7 q2 c5 z5; rintro e w7 ⟨b0, t1, t2, rfl, H8⟩)
    refine to_ovm (runAct bx) runMask rfl ⟨rfl, rfl, rfl, rfl, rfl, rfl⟩ rfl ?_
    refine HQ3.out HTK.out _ _ b0 t1 t2 ?_ ?_ ?_ H8
    · exact e5.out.symm
    · exact e10.out.symm
    · rfl
end Go.Proofs.YtemdmpgekegfhaaDoor
end

section
namespace Go.Proofs.YtemdmpgekegfhaaDoor
open Go.RowKit
set_option linter.all false
set_option maxRecDepth 10000

set_option maxHeartbeats 4000000 in
theorem run_s3 {E : World} {s s2 : SH} {L L0 : List HP} {w : World} {bx c ps rm k b0 t1 t2 : Nat} {A : Option Addr} {l : List Txn} {budget left taken : Int} {m m' : MSt} {q : Bool} {f : Nat → Value} {Q : Exit → Act → World → Prop}
    (hk : k < l.length) (hl : kT.Sl s2 (.slice A l.length c) l) (f10 : f 10 = .int .i64 (k : Int)) (f11 : f 11 = .pointer (some ⟨b0, 0, none⟩))
    (hA : model_State_Apply_f m (tn l k).ops ((tn l k).state == 3) = some (q, m'))
    (H : Holds E s2 (pt b0 (.cells #[.map (some t1), .map (some t2)] 91 (0, 0)) :: mpO kcS kI s2 t1 m.lists :: mpF kcS vcI t2 m.regs :: skP bx A l.length c ps rm left budget taken :: L) w)
    (hQ3 : q = false → ∀ (a : Act) (w' : World), runFr bx a → a.tmps.getD 5 undef = f 5 → Holds E s2 (skP bx A l.length c ps rm left budget taken :: L) w' → Q (.exit 3) a w')
    (hQ4 : q = true → ∀ (g : Nat → Value) (w' : World) (u1 u2 : Nat), g 5 = f 5 → g 10 = f 10 → g 11 = f 11 →
      Holds E s2 (pt b0 (.cells #[.map (some u1), .map (some u2)] 91 (0, 0)) :: mpO kcS kI s2 u1 m'.lists :: mpF kcS vcI u2 m'.regs :: skP bx A l.length c ps rm left budget taken :: L) w' → runS4.wp Tryd.prog Q (ovm (runAct bx) runMask g) w') :
    runS3.wp Tryd.prog Q (ovm (runAct bx) runMask f) w := by
  have HQ3 := Lib.hid hQ3
  have HQ4 := Lib.hid hQ4
  have HA := Lib.hid hA
  clear hQ3 hQ4 hA
  have e10 := Lib.hid f10
  have e11 := Lib.hid f11
  show (Code.seq (cL runS3) runS4).wp _ _ _ _
  dsimp only [runS3, runS2b, runS2, runB3, runLP, runX, cR, cL, cIn, Tryd.f98, Option.getD]
  simp only [ovm, mixM]
  rw [f10, f11]
  clear f10 f11
  obtain ⟨b, off, An, cn, hAe, hcn, hops⟩ := txn_at hl hk
  subst hAe
  have c0 : w.cell? ⟨bx, 0, none⟩ = some (.slice (some ⟨b, off, none⟩) l.length c) := pt_c 3 H rfl 0
  have h1 := hcn.cell' H 1 _ rfl
  have h4 := hcn.cell' H 4 _ rfl
  go_wp2
  go_still_tail 18, (by kernel_rfl)
  change wpList _ _ _ _ _ w.drew
  have H2 := H.drew
  clear H
  generalize w.drew = w2 at H2 ⊢
  clear c0 h1 h4
  cases q with
  | true =>
    go_wp2_with (go_at_call 42; refine (model_State_Apply_w (a0 := m) hops HA.out H2).mono ?_; clear H2; rintro e w3 ⟨u1, u2, rfl, H3⟩)
    refine to_ovm (runAct bx) runMask rfl ⟨rfl, rfl, rfl, rfl, rfl, rfl⟩ rfl ?_
    refine HQ4.out (by trivial) _ _ u1 u2 ?_ ?_ ?_ H3
    · rfl
    · exact e10.out.symm
    · exact e11.out.symm
  | false =>
    go_wp2_with (go_at_call 42; refine (model_State_Apply_w (a0 := m) hops HA.out H2).mono ?_; clear H2; rintro e w3 ⟨u1, u2, rfl, H3⟩)
    exact HQ3.out (by trivial) _ _ ⟨⟨rfl, rfl, rfl, rfl, rfl, rfl⟩, rfl⟩ rfl H3.drop.drop.drop
end Go.Proofs.YtemdmpgekegfhaaDoor
end

section
namespace Go.Proofs.YtemdmpgekegfhaaDoor
open Go.RowKit
set_option linter.all false
set_option maxRecDepth 10000

theorem pop_push {l : List Txn} {x k : Nat} {left : Int} (hx : x.testBit k = false) : popX (x ||| 2 ^ k) (k : Int) = x ∧ popL l (left - okI (tn l k)) (k : Int) = left := by
  unfold popX popL
  rw [if_neg (by omega), if_neg (by omega), Int.toNat_natCast]
  refine ⟨?_, by omega⟩
  apply Nat.eq_of_testBit_eq
  intro i
  rw [dropB_bit, Nat.testBit_or, Nat.testBit_two_pow]
  by_cases e : i = k
  · subst e; simp [hx]
  · have : ¬ k = i := fun h => e h.symm
    simp [e, this]
theorem key_size {x n : Nat} {m : MSt} {key : ByteArray} (hn : n ≤ 300) (h : keyT x n m = some key) : key.size ≤ maxLen := by
  unfold keyT at h
  cases ht : model_State_Text_f m with
  | none => rw [ht] at h; cases h
  | some t =>
    rw [ht] at h
    have h := Option.some.inj h
    have h1 := text_size ht
    have h2 : (keyB x n).length ≤ 2 * n := by
      have e : keyB x n = kb ((List.range n).filter fun j => x.testBit j) := rfl
      rw [e, kb_len]
      have := List.length_filter_le (fun j => x.testBit j) (List.range n)
      rw [List.length_range] at this; omega
    rw [← h, ba_size, List.length_append, List.length_cons, byL_len]
    unfold maxLen; omega
set_option maxHeartbeats 4000000 in
theorem run_s4 {E : World} {s2 : SH} {L : List HP} {w : World} {bx c ps bw rm k b0 u1 u2 x : Nat} {A : Option Addr} {v : Value} {l : List Txn} {budget left taken : Int} {m : MSt} {stk : List Fr} {met : ByteArray → Option Bool} {key : ByteArray} {f : Nat → Value} {Q : Exit → Act → World → Prop}
    (hn : l.length ≤ 300) (hk : k < l.length) (hl : kT.Sl s2 (.slice A l.length c) l) (hs0 : SetAt s2 ps bw l.length) (hT : Tz s2) (hP : Pw s2) (hx : x < 2 ^ l.length) (hxk : x.testBit k = false) (hlr : -1000 ≤ left ∧ left ≤ 1000) (hsl : stk.length ≤ 301)
    (hK : keyT (x ||| 2 ^ k) l.length m = some key) (f5 : f 5 = v) (f10 : f 10 = .int .i64 (k : Int)) (f11 : f 11 = .pointer (some ⟨b0, 0, none⟩))
    (H : Holds E s2 (pt b0 (.cells #[.map (some u1), .map (some u2)] 91 (0, 0)) :: mpO kcS kI s2 u1 m.lists :: mpF kcS vcI u2 m.regs :: skP bx A l.length c ps rm left budget taken :: wordP l.length x bw :: (kFr.sh s2).Osl v stk.reverse :: mpF kcS vcB rm met :: L) w)
    (hQ3 : (met key).getD false = true → ∀ (a : Act) (w' : World) (s3 : SH), Sub s2 s3 → runFr bx a → a.tmps.getD 5 undef = v → Holds E s3 (skP bx A l.length c ps rm left budget taken :: wordP l.length x bw :: (kFr.sh s3).Osl v stk.reverse :: mpF kcS vcB rm met :: L) w' → Q (.exit 3) a w')
    (hQg : (met key).getD false = false → ∀ (a : Act) (w' : World) (s3 : SH) (v' : Value), Sub s2 s3 → runFr bx a → a.tmps.getD 5 undef = v' → Holds E s3 (skP bx A l.length c ps rm (left - okI (tn l k)) budget taken :: wordP l.length (x ||| 2 ^ k) bw :: (kFr.sh s3).Osl v' ((⟨(k : Int), 0, m⟩ : Fr) :: stk).reverse :: mpF kcS vcB rm (fset met key true) :: L) w' → Q (.goto 0) a w') :
    runS4.wp Tryd.prog Q (ovm (runAct bx) runMask f) w := by
  have HQ3 := Lib.hid hQ3
  have HQg := Lib.hid hQg
  have HKT := Lib.hid hK
  have HKS := Lib.hid (key_size hn hK)
  have HPP := Lib.hid (pop_push (l := l) (left := left) hxk)
  clear hQ3 hQg hK hxk
  obtain ⟨s3, hs3, hSt, H1⟩ := st_freeze H
  clear H
  have H2 := (H1.rot3'.map fun h q => Kin.Osl.sh_mono hs3 h q).rot3
  clear H1
  have HST := Lib.hid hSt
  have HRW := Lib.hid (show RowV kFr s3 [(⟨(k : Int), 0, m⟩ : Fr)] [.agg #[.int .i64 (k : Int), .int .i64 0, .pointer (some ⟨b0, 0, none⟩)]] from ⟨⟨b0, rfl, hSt⟩, trivial⟩)
  clear hSt
  have hx2 : x ||| 2 ^ k < 2 ^ l.length := Nat.or_lt_two_pow hx (Nat.pow_lt_pow_right (by decide) hk)
  have HX2 := Lib.hid hx2
  clear hx2 hx
  have hok : 0 ≤ okI (tn l k) ∧ okI (tn l k) ≤ 1 := by unfold okI; split <;> omega
  dsimp only [runS4, runS3, runS2b, runS2, runB3, runLP, runX, cR, cL, cIn, Tryd.f98, Option.getD]
  simp only [ovm, mixM]
  rw [f5, f10, f11]
  clear f5 f10 f11
  by_cases hme : (met key).getD false = true
  · have HME := Lib.hid hme
    clear hme
    go_wp2_with (first
      | (go_at_call 141; refine (enter_c hn hk (hl.mono hs3) (hs0.mono hs3) (by omega) H2).mono ?_; clear H2; rintro e w2 ⟨rfl, H3⟩)
      | (go_at_call 142; refine (key_c hn (hs0.mono hs3) (hT.mono hs3) (hP.mono hs3) HX2.out HST.out HKT.out H3).mono ?_; clear H3; rintro e w3 ⟨rfl, H4⟩; have c2 : w3.cell? ⟨bx, 2, none⟩ = some (.map (some rm)) := pt_c 0 H4 rfl 2)
      | ((with_reducible refine OpG.list rfl ?_); refine F_get mk_S 3 169 _ _ rfl Tryd.underlying169 (k := key) HKS.out rfl rfl H4 rfl (z := false) (Tryd.zeroValue4 _) ?_; rw [HME.out]; simp only [vcB])
      | (go_at_call 139; refine (leave_c hn (by omega) (hl.mono hs3) (hs0.mono hs3) (by omega) H4).mono ?_; clear H4 c2; rintro e w5 ⟨rfl, H5⟩; rw [HPP.out.1, HPP.out.2] at H5))
    exact HQ3.out HME.out _ _ s3 hs3 ⟨⟨rfl, rfl, rfl, rfl, rfl, rfl⟩, rfl⟩ rfl H5
  · have hme2 : (met key).getD false = false := by simpa using hme
    have HME := Lib.hid hme2
    clear hme hme2
    go_wp2_with (first
      | (go_at_call 141; refine (enter_c hn hk (hl.mono hs3) (hs0.mono hs3) (by omega) H2).mono ?_; clear H2; rintro e w2 ⟨rfl, H3⟩)
      | (go_at_call 142; refine (key_c hn (hs0.mono hs3) (hT.mono hs3) (hP.mono hs3) HX2.out HST.out HKT.out H3).mono ?_; clear H3; rintro e w3 ⟨rfl, H4⟩; have c2 : w3.cell? ⟨bx, 2, none⟩ = some (.map (some rm)) := pt_c 0 H4 rfl 2)
      | ((with_reducible refine OpG.list rfl ?_); first
        | (refine F_get mk_S 3 169 _ _ rfl Tryd.underlying169 (k := key) HKS.out rfl rfl H4 rfl (z := false) (Tryd.zeroValue4 _) ?_; rw [HME.out]; simp only [vcB])
        | (refine F_put mk_S 3 169 _ _ _ rfl Tryd.underlying169 (k := key) (v := true) HKS.out trivial rfl rfl rfl H4 rfl ?_; clear H4 c2; intro w5 H5; simp only [List.set_cons_succ, List.set_cons_zero] at H5)
        | (refine SL_n (d := kFr) (s0 := s3) 1 rfl [.agg #[.int .i64 (k : Int), .int .i64 0, .pointer (some ⟨b0, 0, none⟩)]] ?hp Tryd.underlying210 Tryd.sizeOf209 Tryd.zeroValue209 rfl [(⟨(k : Int), 0, m⟩ : Fr)] HRW.out rfl ?h1 ?h2 ?h3 H5 ?_; (case hp => (simp only [List.map_toArray, List.map_cons, List.map_nil]; rfl)); (case h1 => omega); (case h2 => show 1 * 3 ≤ 16777216; omega); (case h3 => show 1 * 24 ≤ 140737488355328; omega); clear H5; intro b2 w6 H6)
        | (refine G_appendO kFr_at _ _ rfl (H6.front 3 rfl) rfl rfl ?hb ?_; (case hb => (rw [List.length_reverse]; show (stk.length + 1) * 24 ≤ 140737488355328; omega)); clear H6; intro v3 w7 H7)))
    refine wp_goto ?_
    have H8 := (H7.swap.drop).rot3
    exact HQg.out HME.out _ _ s3 v3 hs3 ⟨⟨rfl, rfl, rfl, rfl, rfl, rfl⟩, rfl⟩ rfl (by rw [List.reverse_cons]; exact H8)
end Go.Proofs.YtemdmpgekegfhaaDoor
end

section
namespace Go.Proofs.YtemdmpgekegfhaaDoor
open Go.RowKit
set_option linter.all false
set_option maxRecDepth 10000

set_option maxHeartbeats 8000000 in
theorem run_s1 {E : World} {s2 : SH} {L : List HP} {w : World} {bx c ps bw rm bs cap x : Nat} {A : Option Addr} {l : List Txn} {budget left taken : Int} {fr : Fr} {r : List Fr} {met : ByteArray → Option Bool} {f : Nat → Value} {Q : Exit → Act → World → Prop}
    (hn : l.length ≤ 300) (hl : kT.Sl s2 (.slice A l.length c) l) (hs0 : SetAt s2 ps bw l.length) (hx : x < 2 ^ l.length) (hrl : r.length ≤ 300) (hcap : r.length ≤ cap)
    (hlast : -1 ≤ fr.last ∧ fr.last < l.length) (hnx : fr.next ≤ l.length) (hlr : 0 ≤ left ∧ left ≤ 300)
    (f5 : f 5 = .slice (some ⟨bs, 0, none⟩) (r.length + 1) cap)
    (H : Holds E s2 (skP bx A l.length c ps rm left budget taken :: wordP l.length x bw :: (kFr.sh s2).Osl (.slice (some ⟨bs, 0, none⟩) (r.length + 1) cap) (fr :: r).reverse :: mpF kcS vcB rm met :: L) w)
    (hQp : fr.next = l.length → ∀ (a : Act) (w' : World), runFr bx a → a.tmps.getD 5 undef = .slice (some ⟨bs, 0, none⟩) r.length cap → Holds E s2 (skP bx A l.length c ps rm (popL l left fr.last) budget taken :: wordP l.length (popX x fr.last) bw :: (kFr.sh s2).Osl (.slice (some ⟨bs, 0, none⟩) r.length cap) r.reverse :: mpF kcS vcB rm met :: L) w' → Q (.exit 3) a w')
    (hQn : fr.next ≠ l.length → mayB l x fr.next = false → ∀ (a : Act) (w' : World), runFr bx a → a.tmps.getD 5 undef = .slice (some ⟨bs, 0, none⟩) (r.length + 1) cap → Holds E s2 (skP bx A l.length c ps rm left budget taken :: wordP l.length x bw :: (kFr.sh s2).Osl (.slice (some ⟨bs, 0, none⟩) (r.length + 1) cap) ((⟨fr.last, fr.next + 1, fr.st⟩ : Fr) :: r).reverse :: mpF kcS vcB rm met :: L) w' → Q (.exit 3) a w')
    (hQ2 : fr.next ≠ l.length → mayB l x fr.next = true → ∀ (g : Nat → Value) (w' : World), g 5 = .slice (some ⟨bs, 0, none⟩) (r.length + 1) cap → g 9 = .pointer (some ⟨bs, r.length * 3, none⟩) → g 10 = .int .i64 (fr.next : Int) → Holds E s2 (skP bx A l.length c ps rm left budget taken :: wordP l.length x bw :: (kFr.sh s2).Osl (.slice (some ⟨bs, 0, none⟩) (r.length + 1) cap) ((⟨fr.last, fr.next + 1, fr.st⟩ : Fr) :: r).reverse :: mpF kcS vcB rm met :: L) w' → runS2.wp Tryd.prog Q (ovm (runAct bx) runMask g) w') :
    runB3.wp Tryd.prog Q (ovm (runAct bx) runMask f) w := by
  have HQp := Lib.hid hQp
  have HQn := Lib.hid hQn
  have HQ2 := Lib.hid hQ2
  clear hQp hQn hQ2
  show (Code.seq (cL runB3) (Code.seq (cL (cR runB3)) (Code.seq (cL (cR (cR runB3))) (Code.seq (cL (cR (cR (cR runB3)))) (Code.seq (cL (cR (cR (cR (cR runB3))))) runS2))))).wp _ _ _ _
  dsimp only [runB3, runLP, runX, cR, cL, cIn, Tryd.f98, Option.getD]
  simp only [ovm, mixM]
  rw [f5]
  clear f5
  obtain ⟨p, q0, q1, q2, hSt⟩ := fr_c (k := r.length) (f := fr) 2 H rfl (by simp)
  clear hSt
  have c0 : w.cell? ⟨bx, 0, none⟩ = some (.slice A l.length c) := pt_c 0 H rfl 0
  have HREV := Lib.hid (show (fr :: r).reverse.take r.length = r.reverse by simp)
  have HDROP := Lib.hid (show (fr :: r).reverse.drop r.length = fr :: [] by simp)
  have HSET := Lib.hid (show ∀ g : Fr, setI (fr :: r).reverse (r.length : Int) g = (g :: r).reverse from fun g => by unfold setI; simp)
  have HKK := Lib.hid (show ∀ cs, kFr.K s2 fr cs → kFr.K s2 ⟨fr.last, fr.next + 1, fr.st⟩ (cs.set 1 (.int .i64 ((fr.next : Int) + 1))) from fun cs ⟨p, e, h⟩ => ⟨p, by rw [e]; rfl, h⟩)
  by_cases hfn : fr.next = l.length
  · have hd : ((fr.next : Int) == (l.length : Int)) = true := by simp [hfn]
    have hd2 : decide ((fr.next : Int) = (l.length : Int)) = true := by simp [hfn]
    have HFN := Lib.hid hfn
    clear hfn
    go_wp2
    go_region
    replace H := H.drew
    clear c0 q0 q1 q2
    generalize w.drew = w3 at H ⊢
    obtain ⟨p2, q0, -, -, -⟩ := fr_c (k := r.length) (f := fr) 2 H rfl (by simp)
    go_wp2_with (first
      | (go_at_call 139
         refine (leave_c hn hlast.2 hl hs0 (by omega) H).mono ?_
         clear H q0
         rintro e w4 ⟨rfl, H1⟩)
      | ((with_reducible refine OpG.list rfl ?_); refine G_slice_hN kFr_at _ _ rfl rfl rfl hcap ?_))
    have H2 := (osl_take (k := r.length) (by simp) H1.rot3').rot3
    rw [HREV.out] at H2
    exact HQp.out HFN.out _ _ ⟨⟨rfl, rfl, rfl, rfl, rfl, rfl⟩, rfl⟩ rfl H2
  · have hd : ((fr.next : Int) == (l.length : Int)) = false := by simp; omega
    have hd2 : decide ((fr.next : Int) = (l.length : Int)) = false := by simp; omega
    have hlt : fr.next < l.length := by omega
    have HFN := Lib.hid hfn
    clear hfn
    go_wp2
    go_region
    replace H := H.drew
    clear c0 q0 q1 q2
    generalize w.drew = w3 at H ⊢
    obtain ⟨p2, q0, q1, q2, -⟩ := fr_c (k := r.length) (f := fr) 2 H rfl (by simp)
    obtain ⟨fz, H4⟩ := own_setF (d := kFr) (k := r.length) (f := 1) (v := .int .i64 ((fr.next : Int) + 1)) (x' := ⟨fr.last, fr.next + 1, fr.st⟩) 2 (by decide) H rfl HDROP.out HKK.out
    rw [HSET.out] at H4
    simp only [List.set_cons_succ, List.set_cons_zero, show kFr.sz = 3 from rfl] at fz H4
    clear H
    have hmay0 : mayB l x fr.next = false ∨ mayB l x fr.next = true := by cases mayB l x fr.next <;> simp
    rcases hmay0 with hmay | hmay
    · have HMAY := Lib.hid hmay
      clear hmay
      go_wp2_with (go_at_call 140; refine (may_c hn hlt hl hs0 H4).mono ?_; clear H4 fz q0 q1 q2; rintro e w5 ⟨rfl, H5⟩; rw [HMAY.out])
      exact HQn.out HFN.out HMAY.out _ _ ⟨⟨rfl, rfl, rfl, rfl, rfl, rfl⟩, rfl⟩ rfl H5
    · have HMAY := Lib.hid hmay
      clear hmay
      go_wp2_with (go_at_call 140; refine (may_c hn hlt hl hs0 H4).mono ?_; clear H4 fz q0 q1 q2; rintro e w5 ⟨rfl, H5⟩; rw [HMAY.out])
      refine to_ovm (runAct bx) runMask rfl ⟨rfl, rfl, rfl, rfl, rfl, rfl⟩ rfl ?_
      exact HQ2.out HFN.out HMAY.out _ _ rfl rfl rfl H5
end Go.Proofs.YtemdmpgekegfhaaDoor
end

section
namespace Go.Proofs.YtemdmpgekegfhaaDoor
open Go.RowKit
set_option linter.all false
set_option maxRecDepth 10000

theorem fr_sl {s : SH} {A : Option Addr} {n cap k : Nat} {xs : List Fr} {f : Fr} (h : kFr.Sl s (.slice A n cap) xs) (hk : xs[k]? = some f) :
    ∃ b off p, A = some ⟨b, off, none⟩ ∧ Cells s ⟨b, off + k * 3, none⟩ [.int .i64 f.last, .int .i64 (f.next : Int), .pointer (some ⟨p, 0, none⟩)] := by
  obtain ⟨hlt, he⟩ := List.getElem?_eq_some_iff.1 hk
  obtain ⟨⟨b, off, sp⟩, cp, cs, e1, hrow, hc⟩ := Kin.Sl.cells h (fun e => by rw [e] at hlt; simp at hlt)
  cases e1
  obtain ⟨c, ⟨p, hc1, -⟩, hg⟩ := hrow.get k hlt
  obtain ⟨hsp, cur, e, fr, h1, h2⟩ := hc
  cases hsp
  refine ⟨b, off, p, rfl, rfl, cur, e, fr, h1, fun j u hj => ?_⟩
  rw [he] at hc1
  rw [← hc1] at hj
  have := h2 _ u (hg j u hj)
  rw [← Nat.add_assoc] at this; exact this
set_option maxHeartbeats 4000000 in
theorem run_yes {E : World} {s s2 : SH} {L : List HP} {w : World} {bx c ps bw rm x n1 cap : Nat} {A A1 : Option Addr} {l : List Txn} {budget taken : Int} {stk : List Fr} {met : ByteArray → Option Bool} {f : Nat → Value} {Q : Exit → Act → World → Prop}
    (hsl : stk.length ≤ 301) (hne : stk ≠ []) (hlast : ∀ g ∈ stk, -1 ≤ g.last ∧ g.last ≤ 300) (f5 : f 5 = .slice A1 stk.length cap)
    (H : Holds E s2 (skP bx A l.length c ps rm 0 budget taken :: wordP l.length x bw :: (kFr.sh s2).Osl (.slice A1 stk.length cap) stk.reverse :: mpF kcS vcB rm met :: L) w)
    (hQ : ∀ (a : Act) (w' : World) (v : Value) (s3 : SH), Sub s2 s3 → a.tmps.getD 2 undef = .int .i64 1 → a.tmps.getD 3 undef = v → a.tmps.getD 4 undef = .int .i64 taken → a.tmps.size = 158 → a.defers = [] → Holds E s3 (kI.Osl v (ordF stk) :: L) w' → Q .ret a w') :
    runX.wp Tryd.prog Q (ovm (runAct bx) runMask f) w := by
  have HQ := Lib.hid hQ
  clear hQ
  dsimp only [runX, cR, cL, cIn, Tryd.f98, Option.getD]
  simp only [ovm, mixM]
  rw [f5]
  clear f5
  obtain ⟨s3, hs3, H1, hS⟩ := Kin.Osl.fr H.rot3'
  have hS := Kin.Sl.unsh hs3 hS
  clear H
  have hpos : 1 ≤ stk.length := Nat.pos_of_ne_zero fun e => hne (List.eq_nil_of_length_eq_zero e)
  have hS2 := hS.drop 1 hpos
  have hl2 : (stk.reverse.drop 1).length = stk.length - 1 := by simp
  have hmap : ordF stk = (stk.reverse.drop 1).map (·.last) := by unfold ordF; rw [List.drop_one]
  have hla : ∀ g ∈ stk.reverse.drop 1, -1 ≤ g.last ∧ g.last ≤ 300 := fun g hg => hlast g (List.mem_reverse.1 (List.mem_of_mem_drop hg))
  have HMAP := Lib.hid hmap
  have HLA := Lib.hid hla
  clear hmap hla hlast hne hS
  obtain ⟨A2, n2, c2, hA2⟩ : ∃ A2 n2 c2, Value.slice (dropA A1 cap 1 kFr.sz) (stk.length - 1) (cap - 1) = .slice A2 n2 c2 := ⟨_, _, _, rfl⟩
  have hn2 : n2 = stk.length - 1 := by cases hA2; rfl
  rw [hA2] at hS2
  have HA2 := Lib.hid hA2
  have hn3 : n2 ≤ 300 := by omega
  have hl3 : (stk.reverse.drop 1).length = n2 := by omega
  clear hA2 hl2 hn2
  generalize stk.reverse.drop 1 = tl at hS2 HMAP HLA hl3
  have HL3 := Lib.hid hl3
  clear hl3
  have c3 : w.cell? ⟨bx, 3, none⟩ = some (.int .i64 0) := pt_c 0 H1 rfl 3
  go_wp2_with ((with_reducible refine OpG.list rfl ?_); refine G_slice_lN (l := 1) kFr_at _ _ rfl rfl rfl hpos ?_; rw [HA2.out])
  clear c3
  refine wp_loopN runMask rfl (by simp) (fun n f w => ∃ (k : Nat) (v : Value), n2 - k = n ∧ k ≤ n2 ∧ f 6 = v ∧ f 22 = .slice A2 n2 c2 ∧ f 23 = .int .i64 n2 ∧ f 24 = .int .i64 k ∧ Holds E s3 (kI.Osl v ((tl.take k).map (·.last)) :: skP bx A l.length c ps rm 0 budget taken :: wordP l.length x bw :: mpF kcS vcB rm met :: L) w) ?_ ?_
  · exact ⟨_, 0, _, rfl, Nat.zero_le _, rfl, rfl, rfl, rfl, Kin.Osl.nil H1⟩
  · clear H1
    intro n f1 w1 hJ
    obtain ⟨k, v, hnk, hk, f6, f22, f23, f24, H⟩ := hJ
    simp only [ovm, mixM]
    rw [f6, f22, f23, f24]
    have HNK := Lib.hid hnk
    clear f6 f22 f23 f24 hnk
    by_cases hlt : k < n2
    · have hdec : decide ((k : Int) < (n2 : Int)) = true := decide_eq_true (by omega)
      obtain ⟨g, hg⟩ : ∃ g, tl[k]? = some g := ⟨_, List.getElem?_eq_getElem (by rw [HL3.out]; exact hlt)⟩
      have hgl := HLA.out g (List.mem_of_getElem? hg)
      have E2 := Lib.hid (show (tl.take k).map (·.last) ++ [g.last] = (tl.take (k + 1)).map (·.last) by
        rw [List.take_add_one, hg, List.map_append]; rfl)
      have hlen : ((tl.take k).map (·.last)).length = k := by rw [List.length_map, List.length_take, HL3.out]; omega
      obtain ⟨b, off, p, rfl, hce⟩ := fr_sl hS2 hg
      have h0 : w1.cell? ⟨b, off + k * 3, none⟩ = some (.int .i64 g.last) := by simpa using hce.cell' H 0 _ rfl
      have h1 := hce.cell' H 1 _ rfl
      have h2 := hce.cell' H 2 _ rfl
      have HLEN := Lib.hid hlen
      clear hg hlen hce
      go_wp2_with ((with_reducible refine OpG.list rfl ?_); first
        | (refine G_alloc 209 rfl (Tryd.zeroValue209 _) H ?_; clear H; intro bt w3 H3; simp only [Value.cells] at H3)
        | (refine G_setNi 0 (c := [.int .i64 g.last, .int .i64 (g.next : Int), .pointer (some ⟨p, 0, none⟩)]) _ _ _ rfl (Tryd.sizeOf209 _) rfl rfl (by simp [Value.oneCell']) H3 rfl rfl ?_; clear H3; intro w4 H4; simp only [List.set_cons_succ, List.set_cons_zero] at H4; have q0 : w4.cell? ⟨bt, 0, none⟩ = some (.int .i64 g.last) := pt_c 0 H4 rfl 0)
        | (refine G_slice1 (v := Value.int .i64 g.last) rfl rfl Tryd.underlying27 Tryd.sizeOf3 Tryd.zeroValue3 rfl rfl (by decide) (by decide) (H4.drop) ?_; clear H4 q0; intro g2 w5 H5; replace H5 := (H5.mkEmp.map (A' := kI.M g.last [.int .i64 g.last]) fun _ h => ⟨⟨rfl, by constructor <;> omega⟩, h⟩).rot3)
        | (refine G_append1 kI_at _ _ rfl H5 rfl rfl ?_ ?_; (case refine_1 => show (_ + 1) * 8 ≤ _; rw [HLEN.out]; omega); clear H5; intro v5 w6 H6; rw [E2.out] at H6))
      refine ⟨⟨rfl, rfl, rfl, rfl, rfl, rfl⟩, n2 - (k + 1), (by have := HNK.out; omega), k + 1, rfl, hlt, (by simp), ?_⟩
      rw [← List.map_take]; exact H6
    · have hdec : decide ((k : Int) < (n2 : Int)) = false := decide_eq_false (by omega)
      have e1 : (tl.take k).map (·.last) = ordF stk := by rw [HMAP.out, List.take_of_length_le (by rw [HL3.out]; omega)]
      rw [e1] at H
      clear e1
      have c5 : w1.cell? ⟨bx, 5, none⟩ = some (.int .i64 taken) := pt_c 1 H rfl 5
      go_wp2
      go_region
      replace H := H.drew
      clear c5
      go_wp2
      exact HQ.out _ _ _ s3 hs3 rfl rfl rfl rfl rfl ((H.swap.drop).swap.drop.swap.drop)
end Go.Proofs.YtemdmpgekegfhaaDoor
end

section
namespace Go.Proofs.YtemdmpgekegfhaaDoor
open Go.RowKit
set_option linter.all false
set_option maxRecDepth 10000

theorem eqM_tr : ∀ {m : List (Option Nat)} {us us' vs : List Value}, eqM m us us' → eqM m us vs → eqM m us' vs
  | [], _, _, _, h, k => by simp only [eqM] at h k ⊢; rw [← h, k]
  | some _ :: m, _ :: us, _ :: us', _ :: vs, h, k => by
    simp only [eqM] at h k ⊢; exact eqM_tr h k
  | none :: m, _ :: us, _ :: us', _ :: vs, h, k => by
    simp only [eqM] at h k ⊢; exact ⟨h.1.symm.trans k.1, eqM_tr h.2 k.2⟩
  | some _ :: _, [], _, _, h, _ => by simp [eqM] at h
  | some _ :: _, _ :: _, [], _, h, _ => by simp [eqM] at h
  | some _ :: _, _ :: _, _ :: _, [], _, k => by simp [eqM] at k
  | none :: _, [], _, _, h, _ => by simp [eqM] at h
  | none :: _, _ :: _, [], _, h, _ => by simp [eqM] at h
  | none :: _, _ :: _, _ :: _, [], _, k => by simp [eqM] at k
theorem stk_lasts {l : List Txn} (hn : l.length ≤ 300) {stk : List Fr} {o : List Nat} (h : Stk l stk o) : ∀ g ∈ stk, -1 ≤ g.last ∧ g.last ≤ 300 := by
  induction h with
  | base k _ =>
    intro g hg
    rw [List.mem_singleton] at hg
    subst hg
    exact ⟨by show (-1 : Int) ≤ -1; omega, by show (-1 : Int) ≤ 300; omega⟩
  | push _ h2 _ _ _ ih =>
    intro g hg
    rcases List.mem_cons.1 hg with rfl | hg
    · exact ⟨by show (-1 : Int) ≤ (_ : Nat); omega, by show ((_ : Nat) : Int) ≤ 300; omega⟩
    · exact ih g hg
set_option maxHeartbeats 8000000 in
theorem run_pass {E : World} {s : SH} {L : List HP} {w : World} {bx c ps bw rm n : Nat} {A : Option Addr} {l : List Txn} {budget : Int} {R : Int × List Int × Int} {f : Nat → Value} {Q : Exit → Act → World → Prop}
    (hn : l.length ≤ 300) (hl : kT.Sl s (.slice A l.length c) l) (hs0 : SetAt s ps bw l.length) (hT : Tz s) (hP : Pw s) (hb : 0 ≤ budget ∧ budget ≤ 200000)
    (hJ : RunAt E s L l A bx c ps bw rm budget R true n (f 5) w)
    (hQr : ∀ (a : Act) (w' : World) (s' : SH) (v : Value), Sub s s' → a.tmps.getD 2 undef = .int .i64 R.1 → a.tmps.getD 3 undef = v → a.tmps.getD 4 undef = .int .i64 R.2.2 → a.tmps.size = 158 → a.defers = [] → Holds E s' ((kI.sh s).Osl v R.2.1 :: L) w' → Q .ret a w')
    (hQg : ∀ (a : Act) (w' : World) (n' : Nat), n' < n → runFr bx a → RunAt E s L l A bx c ps bw rm budget R true n' (a.tmps.getD 5 undef) w' → Q (.goto 0) a w') :
    runX.wp Tryd.prog Q (ovm (runAct bx) runMask f) w := by
  have HQr := Lib.hid hQr
  have HQg := Lib.hid hQg
  clear hQr hQg
  obtain ⟨s', stk, x, met, left2, taken, hs', hI, ht0, ht1, heq, hne, HH⟩ := hJ
  generalize hf5 : f 5 = v at HH
  obtain ⟨A1, cap1, rfl⟩ : ∃ A1 cap1, v = .slice A1 stk.length cap1 := by
    obtain ⟨A1, cap1, e, -⟩ := (HH.front 2 rfl).len
    exact ⟨A1, cap1, by rw [e]; simp⟩
  by_cases h0 : left2 = 0
  · subst h0
    rw [if_pos ⟨rfl, rfl⟩] at heq
    have hR := Option.some.inj heq
    obtain ⟨o, hS⟩ : ∃ o, Stk l stk o := by
      rcases hI with h | ⟨o, h1, -⟩
      · exact absurd h (hne rfl)
      · exact ⟨o, h1⟩
    have hfew := stk_few hS
    refine run_yes (n1 := 0) (s := s) (by omega) (hne rfl) (stk_lasts hn hS) hf5 HH ?_
    intro a w' v s3 h3 e2 e3 e4 e5 e6 H5
    refine HQr.out a w' s3 v (hs'.trans h3) ?_ e3 ?_ e5 e6 ?_
    · rw [← hR]; exact e2
    · rw [← hR]; exact e4
    · rw [← hR]; exact kI_shut H5
  · have hd : (left2 == 0) = false := by simpa using h0
    have hd2 : decide (left2 = 0) = false := by simpa using h0
    have c3 : w.cell? ⟨bx, 3, none⟩ = some (.int .i64 left2) := pt_c 0 HH rfl 3
    show (Code.seq (cL runX) (Code.seq (Code.block 2 (Code.loop runLP)) (cR (cR runX)))).wp _ _ _ _
    dsimp only [runX, cR, cL, cIn, Tryd.f98, Option.getD]
    simp only [ovm, mixM]
    rw [hf5]
    have HEQ0 := Lib.hid (show srun l budget n stk x met left2 taken = some R by rw [if_neg (fun k => h0 k.2)] at heq; exact heq)
    have HI0 := Lib.hid hI
    have HN0 := Lib.hid h0
    clear heq hI h0 hne hf5
    go_wp2
    refine wp_loopN runMask rfl (by simp) (fun n' f w => n' ≤ n ∧ RunAt E s L l A bx c ps bw rm budget R false n' (f 5) w) ?_ ?_
    · refine ⟨n, Nat.le_refl _, s', stk, x, met, left2, taken, hs', ?_, ht0, ht1, ?_, fun h => (by cases h), HH⟩
      · rcases HI0.out with h | ⟨o, h1, h2, h3, -⟩
        · exact .inl h
        · exact .inr ⟨o, h1, h2, h3, fun _ => by rw [← h3]; exact HN0.out⟩
      · rw [if_neg (fun k => by cases k.1)]; exact HEQ0.out
    · clear HH HEQ0 HI0 HN0 hs' ht0 ht1 hd hd2 c3
      intro n2 f2 w2 hJ
      obtain ⟨hn2, s2, stk3, x3, met3, left3, taken3, hs2, hI, ht0, ht1, heq, -, H⟩ := hJ
      rw [if_neg (fun k => by cases k.1)] at heq
      cases n2 with
      | zero => cases heq
      | succ n2 =>
      have hInv : Inv l stk3 x3 left3 := by
        rcases hI with h | ⟨o, h1, h2, h3, h4⟩
        · exact .inl h
        · exact .inr ⟨o, h1, h2, h3, h4 rfl⟩
      clear hI
      have hlt2 : n2 < n2 + 1 := Nat.lt_succ_self _
      have hle2 : n2 ≤ n := Nat.le_of_succ_le hn2
      have hlt3 : n2 < n := hn2
      show (Code.seq (cL runLP) (Code.block 3 runB3)).wp _ _ _ _
      dsimp only [runLP, runX, cR, cL, cIn, Tryd.f98, Option.getD]
      simp only [ovm, mixM]
      generalize f2 5 = v at H
      cases stk3 with
      | nil =>
        obtain ⟨A2, cap2, rfl⟩ : ∃ A2 cap2, v = .slice A2 0 cap2 := by
          obtain ⟨A2, cap2, e, -⟩ := (H.front 2 rfl).len
          exact ⟨A2, cap2, by rw [e]; simp⟩
        simp only [srun] at heq
        have hR := Lib.hid (Option.some.inj heq)
        clear heq hInv
        go_wp2
        have c5 : w2.cell? ⟨bx, 5, none⟩ = some (.int .i64 taken3) := pt_c 0 H rfl 5
        go_region
        replace H := H.drew
        clear c5
        go_wp2
        refine HQr.out _ _ s2 (.slice none 0 0) hs2 ?_ rfl ?_ rfl rfl ?_
        · rw [← hR.out]; rfl
        · rw [← hR.out]; rfl
        · rw [← hR.out]; exact Kin.Osl.nil H.drop.drop.drop.drop
      | cons fr r =>
        obtain ⟨o, hS, hx, hleft, hne⟩ : ∃ o, Stk l (fr :: r) o ∧ (∀ i, x3.testBit i = decide (i ∈ o)) ∧ left3 = leftO l o ∧ leftO l o ≠ 0 := by
          rcases hInv with h | h
          · cases h
          · exact h
        obtain ⟨A2, cap2, rfl, hcap⟩ : ∃ A2 cap2, v = .slice A2 (r.length + 1) cap2 ∧ r.length ≤ cap2 := by
          obtain ⟨A2, cap2, e, hh, -⟩ := (H.front 2 rfl).len
          exact ⟨A2, cap2, by rw [e]; simp, by simp at hh; omega⟩
        obtain ⟨bs, rfl⟩ := own_addr 2 H rfl (by simp)
        have hfew := stk_few hS
        have hrl : r.length ≤ 300 := by have := hfew.1; have := hfew.2; rw [List.length_cons] at *; omega
        have hlast := stk_last hS
        have hnx := hS.le
        have hlr : 0 ≤ left3 ∧ left3 ≤ 300 := by have := leftO_le l o; have := leftO_nonneg l o; omega
        have hx3 : x3 < 2 ^ l.length := by rw [mask_eq hx]; exact mask_lt hS.mem_lt
        have HEQ := Lib.hid heq
        have HS := Lib.hid hS
        have HX := Lib.hid hx
        have HIV := Lib.hid hInv
        have HLF := Lib.hid hleft
        have HNE := Lib.hid hne
        have HX3 := Lib.hid hx3
        clear heq hS hx hInv hleft hne hfew hx3
        go_wp2
        refine to_ovm (runAct bx) runMask rfl ⟨rfl, rfl, rfl, rfl, rfl, rfl⟩ rfl ?_
        refine run_s1 hn (hl.mono hs2) (hs0.mono hs2) HX3.out hrl hcap hlast hnx hlr rfl H ?_ ?_ ?_
        · intro hfn a w' hfr e5 H2
          have hev := HEQ.out
          simp only [srun] at hev
          rw [if_pos hfn] at hev
          show (eqM runMask _ _ ∧ _) ∧ ∃ n', n' < n2 + 1 ∧ n' ≤ n ∧ RunAt E s L l A bx c ps bw rm budget R false n' (a.tmps.getD 5 undef) w'
          refine ⟨⟨eqM_tr ?_ hfr.1, hfr.2⟩, n2, hlt2, hle2, ?_⟩
          · exact ⟨rfl, rfl, rfl, rfl, rfl, rfl⟩
          rw [e5]
          refine ⟨s2, r, _, met3, _, taken3, hs2, ?_, ht0, ht1, ?_, fun h => (by cases h), H2⟩
          · rcases inv_pop HIV.out with h | ⟨o', h1, h2, h3, h4⟩
            · exact .inl h
            · exact .inr ⟨o', h1, h2, h3, fun _ => h4⟩
          · rw [if_neg (fun k => by cases k.1)]; exact hev
        · intro hfn hmay a w' hfr e5 H2
          have hev := HEQ.out
          simp only [srun] at hev
          rw [if_neg hfn, if_pos hmay] at hev
          show (eqM runMask _ _ ∧ _) ∧ ∃ n', n' < n2 + 1 ∧ n' ≤ n ∧ RunAt E s L l A bx c ps bw rm budget R false n' (a.tmps.getD 5 undef) w'
          refine ⟨⟨eqM_tr ?_ hfr.1, hfr.2⟩, n2, hlt2, hle2, ?_⟩
          · exact ⟨rfl, rfl, rfl, rfl, rfl, rfl⟩
          rw [e5]
          refine ⟨s2, ⟨fr.last, fr.next + 1, fr.st⟩ :: r, x3, met3, left3, taken3, hs2, ?_, ht0, ht1, ?_, fun h => (by cases h), H2⟩
          · exact .inr ⟨o, HS.out.next (Nat.lt_of_le_of_ne hnx hfn), HX.out, HLF.out, fun _ => HNE.out⟩
          · rw [if_neg (fun k => by cases k.1)]; exact hev
        · intro hfn hmay g w' g5 g9 g10 H2
          have hev := HEQ.out
          simp only [srun] at hev
          rw [if_neg hfn, if_neg (by rw [hmay]; simp)] at hev
          have hlt : fr.next < l.length := Nat.lt_of_le_of_ne hnx hfn
          have hmo := (mayB_iff HX.out).1 hmay
          refine run_s2 (R := R) (n2 := n2) (fr := ⟨fr.last, fr.next + 1, fr.st⟩) hb ht0 ht1 hs2 g5 g9 g10 H2 ?_ ?_
          · intro htk a w' e2 e3 e4 e5 e6 H3
            rw [if_pos htk] at hev
            have hR := Option.some.inj hev
            show Q .ret _ _
            refine HQr.out a w' s2 (.slice none 0 0) hs2 ?_ e3 ?_ e5 e6 ?_
            · rw [← hR]; exact e2
            · rw [← hR]; exact e4
            · rw [← hR]; exact Kin.Osl.nil H3
          · intro htk g' w' b0 t1 t2 k5 k10 k11 H3
            rw [if_neg htk] at hev
            cases hA : model_State_Apply_f fr.st (tn l fr.next).ops ((tn l fr.next).state == 3) with
            | none => rw [hA] at hev; cases hev
            | some qm =>
            obtain ⟨q, m'⟩ := qm
            rw [hA] at hev
            simp only [Option.bind_some] at hev
            refine run_s3 (s := s) (L0 := []) hlt (hl.mono hs2) (k10.trans g10) k11 hA H3 ?_ ?_
            · intro hq a w' hfr e5 H4
              rw [if_pos hq] at hev
              show (eqM runMask _ _ ∧ _) ∧ ∃ n', n' < n2 + 1 ∧ n' ≤ n ∧ RunAt E s L l A bx c ps bw rm budget R false n' (a.tmps.getD 5 undef) w'
              refine ⟨⟨eqM_tr ?_ hfr.1, hfr.2⟩, n2, hlt2, hle2, ?_⟩
              · exact ⟨rfl, rfl, rfl, rfl, rfl, rfl⟩
              rw [e5, k5, g5]
              refine ⟨s2, ⟨fr.last, fr.next + 1, fr.st⟩ :: r, x3, met3, left3, taken3 + 1, hs2, ?_, by omega, by omega, ?_, fun h => (by cases h), H4⟩
              · exact .inr ⟨o, HS.out.next hlt, HX.out, HLF.out, fun _ => HNE.out⟩
              · rw [if_neg (fun k => by cases k.1)]; exact hev
            · intro hq g2 w' u1 u2 j5 j10 j11 H4
              subst hq
              rw [if_neg (by simp)] at hev
              cases hK : keyT (x3 ||| 2 ^ fr.next) l.length m' with
              | none => rw [hK] at hev; cases hev
              | some key =>
              rw [hK] at hev
              simp only [Option.bind_some] at hev
              have hxk : x3.testBit fr.next = false := by rw [HX.out]; exact decide_eq_false hmo.2.1
              refine run_s4 (stk := ⟨fr.last, fr.next + 1, fr.st⟩ :: r) hn hlt (hl.mono hs2) (hs0.mono hs2) (hT.mono hs2) (hP.mono hs2) HX3.out hxk ⟨by omega, by omega⟩ (by rw [List.length_cons]; omega) hK ((j5.trans k5).trans g5) ((j10.trans k10).trans g10) (j11.trans k11) H4 ?_ ?_
              · intro hme a w' s3 hs3 hfr e5 H5
                rw [if_pos hme] at hev
                show (eqM runMask _ _ ∧ _) ∧ ∃ n', n' < n2 + 1 ∧ n' ≤ n ∧ RunAt E s L l A bx c ps bw rm budget R false n' (a.tmps.getD 5 undef) w'
                refine ⟨⟨eqM_tr ?_ hfr.1, hfr.2⟩, n2, hlt2, hle2, ?_⟩
                · exact ⟨rfl, rfl, rfl, rfl, rfl, rfl⟩
                rw [e5]
                refine ⟨s3, ⟨fr.last, fr.next + 1, fr.st⟩ :: r, x3, met3, left3, taken3 + 1, hs2.trans hs3, ?_, by omega, by omega, ?_, fun h => (by cases h), H5⟩
                · exact .inr ⟨o, HS.out.next hlt, HX.out, HLF.out, fun _ => HNE.out⟩
                · rw [if_neg (fun k => by cases k.1)]; exact hev
              · intro hme a w' s3 v' hs3 hfr e5 H5
                rw [if_neg (by rw [hme]; simp)] at hev
                show Q (.goto 0) _ _
                refine HQg.out a w' n2 hlt3 hfr ?_
                rw [e5]
                refine ⟨s3, ⟨(fr.next : Int), 0, m'⟩ :: ⟨fr.last, fr.next + 1, fr.st⟩ :: r, x3 ||| 2 ^ fr.next, fset met3 key true, left3 - okI (tn l fr.next), taken3 + 1, hs2.trans hs3, ?_, by omega, by omega, ?_, fun _ => by simp, H5⟩
                · obtain ⟨o', h1, h2, h3⟩ := push_inv HIV.out hfn (by rw [hmay]; simp) hA
                  exact .inr ⟨o', h1, h2, h3, fun h => by cases h⟩
                · by_cases h6 : left3 - okI (tn l fr.next) = 0
                  · rw [if_pos h6] at hev; rw [if_pos ⟨rfl, h6⟩]; exact hev
                  · rw [if_neg h6] at hev; rw [if_neg (fun k => h6 k.2)]; exact hev
set_option maxHeartbeats 8000000 in
theorem run_c {E : World} {s : SH} {L : List HP} {w : World} {bx c ps bw rm fuel : Nat} {A : Option Addr} {l : List Txn} {budget left : Int} {R : Int × List Int × Int} (hn : l.length ≤ 300) (hl : kT.Sl s (.slice A l.length c) l) (hs0 : SetAt s ps bw l.length) (hT : Tz s) (hP : Pw s) (hb : 0 ≤ budget ∧ budget ≤ 200000) (hleft : left = okN l)
    (hm : (if left = 0 then some (1, [], 0) else srun l budget fuel [⟨-1, 0, model_New_f⟩] 0 fnil left 0) = some R)
    (H : Holds E s (skP bx A l.length c ps rm left budget 0 :: wordP l.length 0 bw :: mpF kcS vcB rm fnil :: L) w) :
    Calls Tryd.prog 98 #[.pointer (some ⟨bx, 0, none⟩)] w fun e w' => ∃ v, e = .returned (.tuple #[.int .i64 R.1, v, .int .i64 R.2.2]) ∧ Holds E s ((kI.sh s).Osl v R.2.1 :: L) w' := by
  have HM := Lib.hid hm
  have HLE := Lib.hid hleft
  clear hm hleft
  go_enter Tryd.func98, Tryd.ntmps98
  go_wp2
  refine wp_scopeL 0 rfl runMask rfl (fun n f w => RunAt E s L l A bx c ps bw rm budget R true n (f 5) w) ?_ ?_
  · go_wp2_with (first
      | (go_at_call 46
         refine (model_New_w H).mono ?_
         clear H
         rintro e w1 ⟨b0, q1, q2, rfl, H1⟩
         obtain ⟨s1, hs1, hSt, H2⟩ := st_freeze (m := model_New_f) H1
         clear H1
         have HRW := Lib.hid (show RowV kFr s1 [(⟨-1, 0, model_New_f⟩ : Fr)] [.agg #[.int .i64 (-1), .int .i64 0, .pointer (some ⟨b0, 0, none⟩)]] from ⟨⟨b0, rfl, hSt⟩, trivial⟩)
         clear hSt)
      | ((with_reducible refine OpG.list rfl ?_); (refine SL_n (d := kFr) (s0 := s1) 1 rfl [.agg #[.int .i64 (-1), .int .i64 0, .pointer (some ⟨b0, 0, none⟩)]] ?hp Tryd.underlying210 Tryd.sizeOf209 Tryd.zeroValue209 rfl [(⟨-1, 0, model_New_f⟩ : Fr)] HRW.out rfl ?h1 ?h2 ?h3 H2 ?_; (case hp => (simp only [List.map_toArray, List.map_cons, List.map_nil]; rfl)); (case h1 => omega); (case h2 => show 1 * 3 ≤ 16777216; omega); (case h3 => show 1 * 24 ≤ 140737488355328; omega); clear H2; intro b2 w2 H3)))
    refine ⟨⟨⟨rfl, rfl, rfl, rfl, rfl, rfl⟩, trivial⟩, fuel, s1, [⟨-1, 0, model_New_f⟩], 0, fnil, left, 0, hs1, .inr ⟨[], .base 0 (Nat.zero_le _), fun i => by simp, HLE.out.trans (okN_eq l), fun h => by cases h⟩, Int.le_refl _, hb.1, ?_, fun _ => by simp, H3.rot3⟩
    have h := HM.out
    by_cases h0 : left = 0
    · rw [if_pos h0] at h; rw [if_pos ⟨rfl, h0⟩]; exact h
    · rw [if_neg h0] at h; rw [if_neg (fun k => h0 k.2)]; exact h
  · intro n f w1 hJ
    clear HM HLE H
    refine run_pass hn hl hs0 hT hP hb hJ ?_ ?_
    · intro a w' s' v hs' e2 e3 e4 e5 e6 H5
      unfold Exit.jump
      refine ret3 rfl (rv_tmp e2) (rv_tmp e3) (rv_tmp e4) e6 ⟨v, rfl, ?_⟩
      exact H5.forget hs'
    · intro a w' n' hn' hfr hR
      exact ⟨rfl, ⟨hfr.1, hfr.2⟩, n', hn', hR⟩
end Go.Proofs.YtemdmpgekegfhaaDoor
end

section
namespace Go.Proofs.YtemdmpgekegfhaaDoor
open Go.RowKit
set_option linter.all false
set_option maxRecDepth 10000

set_option maxHeartbeats 2000000 in
theorem bnewB_c {E : World} {s : SH} {L : List HP} {w : World} {n : Nat} (hn : n ≤ 4096) (H : Holds E s L w) :
    Calls Tryd.prog 97 #[.int .i64 n] w fun e w' => ∃ p b s', e = .returned (.tuple #[.pointer (some ⟨p, 0, none⟩), .int .i64 0]) ∧ Sub s s' ∧ SetAt s' p b n ∧ Holds E s' (wordP n 0 b :: L) w' := by
  have hm : ((n : Int) + 63) / 64 = (mw n : Nat) := by unfold mw; omega
  have hm2 : mw n ≤ 65 := by unfold mw; omega
  have hk : ∀ i z, Tryd.prog.info? 217 = some i → i.zero = some z → z.cells = #[Value.int .u64 0] := fun i z hi hz => by
    rw [show Tryd.prog.info? 217 = some Tryd.t217 from Tryd.type217] at hi; cases hi; cases hz; rfl
  go_enter Tryd.func97, Tryd.ntmps97
  go_wp2_with ((with_reducible refine OpG.list rfl ?_); first
    | (refine G_make1 kU_at _ _ rfl (mw n) (by simp only [← hm]; rfl) (by simp only [← hm]; rfl) (.int .u64 0) rfl hk ?_ H ?_; (case refine_1 => show mw n * 8 ≤ _; omega); clear H; intro b w2 H)
    | (refine G_box 207 (v := Value.agg #[_, _, _]) _ rfl rfl H ?_; clear H; intro p w3 H))
  rw [wordsC_zero] at H
  obtain ⟨s1, h1, f1, H⟩ := H.freeze
  exact ret2 rfl (rv_tmp rfl) (rv_tmp rfl) rfl ⟨p, b, s1, rfl, h1, f1, H⟩
theorem bnewX_c {w : World} {n : Nat} (hn : 4096 < n) :
    Calls Tryd.prog 97 #[.int .i64 n] w fun e w' => e = .returned (.tuple #[.pointer none, .int .i64 1]) ∧ w' = w := by
  have hd : decide ((n : Int) < 0) = false := decide_eq_false (by omega)
  have hd2 : decide ((n : Int) > 4096) = true := decide_eq_true (by omega)
  go_enter Tryd.func97, Tryd.ntmps97
  go_wp2
  exact ret2 rfl (rv_tmp rfl) (rv_tmp rfl) rfl ⟨rfl, rfl⟩
theorem okN_take {l : List Txn} {k : Nat} (hk : k < l.length) : okN (l.take (k + 1)) = okN (l.take k) + okI (tn l k) := by
  have e : tn l k = l[k] := by unfold tn; simp [hk]
  unfold okN
  rw [List.take_add_one, List.getElem?_eq_getElem hk, List.filter_append, List.length_append, e]
  unfold okI
  by_cases h : (l[k].state == 1) = true
  · rw [if_pos h]; simp [h]
  · rw [if_neg h]; simp [h]
theorem okN_le (l : List Txn) : 0 ≤ okN l ∧ okN l ≤ l.length := by
  unfold okN
  have := List.length_filter_le (fun t : Txn => t.state == 1) l
  omega
theorem clamp (n : Int) : (if (200000 : Int) < (if (0 : Int) > n then 0 else n) then 200000 else (if (0 : Int) > n then 0 else n)) = min (max n 0) 200000 := by
  split <;> split <;> omega
set_option maxHeartbeats 4000000 in
theorem Search_c {E : World} {s : SH} {L : List HP} {w : World} {c fuel : Nat} {A : Option Addr} {l : List Txn} {steps : Int} {R : Int × List Int × Int} (hl : kT.Sl s (.slice A l.length c) l) (hT : Tz s) (hP : Pw s)
    (hm : search_f fuel l steps = some R) (H : Holds E s L w) :
    Calls Tryd.prog 48 #[.slice A l.length c, .int .i64 steps] w fun e w' => ∃ v s', e = .returned (.tuple #[.int .i64 R.1, v, .int .i64 R.2.2]) ∧ Sub s s' ∧ Holds E s' ((kI.sh s').Osl v R.2.1 :: L) w' := by
  by_cases hbig : 300 < l.length
  · unfold search_f at hm
    rw [if_pos hbig] at hm
    have hR := Lib.hid (Option.some.inj hm)
    have hd : decide ((l.length : Int) > 300) = true := decide_eq_true (by omega)
    clear hm
    by_cases h4 : l.length ≤ 4096
    · have hb := bnewB_c h4 H
      clear hbig h4 H
      generalize l.length = n at *
      go_enter Tryd.func48, Tryd.ntmps48
      go_wp2_with (go_at_call 97; refine hb.mono ?_; clear hb; rintro e w1 ⟨p, b, s1, rfl, hs1, hset, H1⟩)
      refine ret3 rfl (rv_tmp rfl) (rv_tmp rfl) (rv_tmp rfl) rfl ⟨.slice none 0 0, s1, ?_, hs1, ?_⟩
      · rw [← hR.out]; rfl
      · rw [← hR.out]; exact Kin.Osl.nil H1.drop
    · have hb := bnewX_c (w := w) (n := l.length) (by omega)
      clear hbig h4
      generalize l.length = n at *
      go_enter Tryd.func48, Tryd.ntmps48
      go_wp2_with (go_at_call 97; refine hb.mono ?_; clear hb; rintro e w1 ⟨rfl, rfl⟩)
      refine ret3 rfl (rv_tmp rfl) (rv_tmp rfl) (rv_tmp rfl) rfl ⟨.slice none 0 0, s, ?_, Sub.refl s, ?_⟩
      · rw [← hR.out]; rfl
      · rw [← hR.out]; exact Kin.Osl.nil H
  · have hn : l.length ≤ 300 := by omega
    unfold search_f at hm
    rw [if_neg hbig] at hm
    have HM := Lib.hid hm
    have hd : decide ((l.length : Int) > 300) = false := decide_eq_false (by omega)
    clear hm hbig
    have HC := Lib.hid (clamp steps)
    have hbud : 0 ≤ min (max steps 0) 200000 ∧ min (max steps 0) 200000 ≤ 200000 := by omega
    generalize hbe : min (max steps 0) 200000 = budget at HC HM hbud
    clear hbe
    have hb := bnewB_c (n := l.length) (by omega) H
    clear H
    go_enter Tryd.func48, Tryd.ntmps48
    go_wp2_with (first
      | (go_at_call 97; refine hb.mono ?_; clear hb; rintro e w1 ⟨ps, bw, s1, rfl, hs1, hset, H1⟩)
      | ((with_reducible refine OpG.list rfl ?_); first
        | (refine F_make (K := kcS) (V := vcB) 169 rfl H1 ?_; clear H1; intro rm w2 H2)
        | (refine O_max rfl rfl rfl ?_)
        | (refine O_min rfl rfl rfl ?_; rw [HC.out])
        | (refine G_box 171 (v := Value.agg #[_, _, _, _, _, _]) _ rfl rfl H2 ?_; clear H2; intro bx w3 H3; simp only [Value.cells] at H3)))
    all_goals
      clear HC
      go_loopw [35] (fun i wr => ∃ k : Nat, k ≤ l.length ∧ i = .int .i64 k ∧ Holds E s1 (skP bx A l.length c ps rm (okN (l.take k)) budget 0 :: mpF kcS vcB rm fnil :: wordP l.length 0 bw :: L) wr) (fun i _ => l.length - (intOf i).toNat)
      case atStart => exact ⟨0, Nat.zero_le _, rfl, H3⟩
      case round =>
        clear H3
        obtain ⟨k, hk0, rfl, H⟩ := hrel
        by_cases hk : k < l.length
        · obtain ⟨b, off, Ak, ck, hA, hcm, -⟩ := txn_at (hl.mono hs1) hk
          subst hA
          have t0 : wr.cell? ⟨b, off + k * 5, none⟩ = some (.int .i64 (tn l k).proc) := by simpa using hcm.cell' H 0 _ rfl
          have t1 := hcm.cell' H 1 _ rfl
          have t2 := hcm.cell' H 2 _ rfl
          have t3 := hcm.cell' H 3 _ rfl
          have t4 := hcm.cell' H 4 _ rfl
          have hok := okN_le (l.take k)
          have hlt : (l.take k).length ≤ 300 := by rw [List.length_take]; omega
          have HT := Lib.hid (okN_take hk)
          generalize okN (l.take k) = q at hok H HT
          have hq : 0 ≤ q ∧ q ≤ 300 := by omega
          clear hok hlt hcm
          by_cases hs : (tn l k).state = 1
          · have hd1 : ((tn l k).state == 1) = true := by simp [hs]
            have hd2 : decide ((tn l k).state = 1) = true := by simp [hs]
            have HOK := Lib.hid (show okI (tn l k) = 1 by unfold okI; rw [if_pos hd1])
            clear hs
            go_wp2_with ((with_reducible refine OpG.list rfl ?_); first
              | (refine G_alloc 75 rfl (Tryd.zeroValue75 _) H ?_; clear H; intro bt w3 H3; simp only [Value.cells] at H3)
              | (refine G_setNi 0 (c := [.int .i64 (tn l k).proc, .int .i64 (tn l k).state, .int .i64 (tn l k).from_, .int .i64 (tn l k).to, .slice Ak (tn l k).ops.length ck]) _ _ _ rfl (Tryd.sizeOf75 _) rfl rfl (by simp [Value.oneCell']) H3 rfl rfl ?_; clear H3 t0 t1 t2 t3 t4; intro w4 H4; simp only [List.set_cons_succ, List.set_cons_zero] at H4; have q1 : w4.cell? ⟨bt, 1, none⟩ = some (.int .i64 (tn l k).state) := pt_c 0 H4 rfl 1; have c3 : w4.cell? ⟨bx, 3, none⟩ = some (.int .i64 q) := pt_c 1 H4 rfl 3; have z3 := pt_f 1 H4 rfl 3))
            have H5 := pt_set 1 H4 rfl 3 (.int .i64 (q + 1))
            refine ⟨⟨k + 1, hk, rfl, ?_⟩, ?_⟩
            · rw [HT.out, HOK.out]; exact H5.drop
            · simp only [intOf, Int.toNat_natCast]; omega
          · have hd1 : ((tn l k).state == 1) = false := by simp [hs]
            have hd2 : decide ((tn l k).state = 1) = false := by simp [hs]
            have HOK := Lib.hid (show okI (tn l k) = 0 by unfold okI; rw [if_neg (by rw [hd1]; simp)])
            clear hs
            go_wp2_with ((with_reducible refine OpG.list rfl ?_); first
              | (refine G_alloc 75 rfl (Tryd.zeroValue75 _) H ?_; clear H; intro bt w3 H3; simp only [Value.cells] at H3)
              | (refine G_setNi 0 (c := [.int .i64 (tn l k).proc, .int .i64 (tn l k).state, .int .i64 (tn l k).from_, .int .i64 (tn l k).to, .slice Ak (tn l k).ops.length ck]) _ _ _ rfl (Tryd.sizeOf75 _) rfl rfl (by simp [Value.oneCell']) H3 rfl rfl ?_; clear H3 t0 t1 t2 t3 t4; intro w4 H4; simp only [List.set_cons_succ, List.set_cons_zero] at H4; have q1 : w4.cell? ⟨bt, 1, none⟩ = some (.int .i64 (tn l k).state) := pt_c 0 H4 rfl 1))
            refine ⟨⟨k + 1, hk, rfl, ?_⟩, ?_⟩
            · rw [HT.out, HOK.out, Int.add_zero]; exact H4.drop
            · simp only [intOf, Int.toNat_natCast]; omega
        · have hk1 : k = l.length := by omega
          subst hk1
          rw [List.take_length] at H
          have hok := okN_le l
          have hdec : decide ((l.length : Int) < (l.length : Int)) = false := by simp
          have H6 := H.rot3'.swap
          clear H hk hok
          go_wp2_with (go_at_call 98; refine (run_c hn (hl.mono hs1) hset (hT.mono hs1) (hP.mono hs1) hbud rfl HM.out H6).mono ?_; clear H6; rintro e w7 ⟨v, rfl, H7⟩)
          exact ret3 rfl (rv_tmp rfl) (rv_tmp rfl) (rv_tmp rfl) rfl ⟨v, s1, rfl, hs1, H7⟩
end Go.Proofs.YtemdmpgekegfhaaDoor
end
