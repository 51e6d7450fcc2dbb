/- What histories may be: the program's and the document's answers. -/
import Derived.Test.YtemdmpgekegfhaaPai5
import Derived.Test.YtemdmpgekegfhaaPq
namespace Go.Proofs.Ytemdmpgekegfhaa
open Go.RowKit
set_option linter.all false
set_option maxRecDepth 10000

/-! ### keys -/
def letB (c : Int) : Bool := decide (c ≥ 97) && decide (c ≤ 122)
def okb (c : Int) : Bool := letB c || (decide (c ≥ 48) && decide (c ≤ 57))
def bts (s : ByteArray) : List Int := s.data.toList.map fun b => (b.toNat : Int)
theorem bts_len (s : ByteArray) : (bts s).length = s.size := by unfold bts; rw [List.length_map, Array.length_toList]; rfl
theorem btI_at {s : ByteArray} {k : Nat} (h : k < (bts s).length) : btI s (k : Int) = some (bts s)[k] := by
  unfold btI
  rw [if_pos (Int.natCast_nonneg k)]
  have : (s.data.toList[(k : Int).toNat]?).map (fun c => (c.toNat : Int)) = (bts s)[k]? := by unfold bts; rw [List.getElem?_map]; rfl
  rw [this, List.getElem?_eq_getElem h]
theorem isKeyA_l (s : ByteArray) : ∀ (r k : Nat), k + r = s.size → histtext_isKey_l4 s k r = some (if ((bts s).drop k).all okb = true then .inr () else .inl false)
  | 0, k, h => by
    rw [List.drop_of_length_le (by rw [bts_len]; omega)]; rfl
  | r + 1, k, h => by
    have hk : k < (bts s).length := by rw [bts_len]; omega
    unfold histtext_isKey_l4
    rw [btI_at hk, List.drop_eq_getElem_cons hk, List.all_cons, isKeyA_l s r (k + 1) (by omega)]
    simp only [Option.bind_some]
    generalize (bts s)[k] = c
    generalize ((bts s).drop (k + 1)).all okb = b
    unfold okb letB
    repeat' split
    all_goals first | rfl | (exfalso; simp_all; omega) | (exfalso; simp_all)
theorem isKeyB_l (s : ByteArray) (hs : s.size ≤ 140737488351232) : ∀ (n f k : Nat), k + n = s.size → n < f → assayerref01_IsWord_l4 s f (k : Int) = some (if ((bts s).drop k).all okb = true then .inr () else .inl false)
  | _, 0, _, _, h => by omega
  | 0, f + 1, k, h, _ => by
    unfold assayerref01_IsWord_l4
    rw [List.drop_of_length_le (by rw [bts_len]; omega), if_neg (by simp; omega)]; rfl
  | n + 1, f + 1, k, h, hf => by
    have hk : k < (bts s).length := by rw [bts_len]; omega
    unfold assayerref01_IsWord_l4
    rw [if_pos (by simp; omega), btI_at hk, wrap_small (by omega) (by omega), show ((k : Int) + 1) = ((k + 1 : Nat) : Int) from rfl, isKeyB_l s hs n f (k + 1) (by omega) (by omega), List.drop_eq_getElem_cons hk, List.all_cons]
    simp only [Option.bind_some]
    generalize (bts s)[k] = c
    generalize ((bts s).drop (k + 1)).all okb = b
    unfold okb letB assayerref01_letter_f assayerref01_digit_f
    repeat' split
    all_goals first | rfl | (exfalso; simp_all; omega) | (exfalso; simp_all)
theorem bts_head {s : ByteArray} (hk : 0 < (bts s).length) : ∃ c t, bts s = c :: t ∧ btI s 0 = some c := by
  have hb := btI_at hk
  rw [show ((0 : Nat) : Int) = 0 from rfl] at hb
  cases hc : bts s with
  | nil => rw [hc] at hk; simp at hk
  | cons c t => exact ⟨c, t, rfl, by rw [hb]; simp [hc]⟩
def isK (s : ByteArray) : Bool := decide (1 ≤ s.size) && decide (s.size ≤ 6) && (match bts s with | c :: _ => letB c | [] => false) && (bts s).all okb
theorem isKeyA (s : ByteArray) : histtext_isKey_f s = some (isK s) := by
  unfold histtext_isKey_f isK
  by_cases h : 1 ≤ s.size ∧ s.size ≤ 6
  · rw [if_neg (by simp; omega)]
    have hk : 0 < (bts s).length := by rw [bts_len]; omega
    obtain ⟨c, t, hc, hb⟩ := bts_head hk
    rw [hb, isKeyA_l s _ 0 (by simp), List.drop_zero, hc]
    simp only [Option.bind_some]
    · unfold letB
      generalize (c :: t).all okb = b
      have h1 : decide (1 ≤ s.size) = true := decide_eq_true h.1
      have h2 : decide (s.size ≤ 6) = true := decide_eq_true h.2
      rw [h1, h2]
      by_cases c1 : c < 97
      · simp [c1]; omega
      · by_cases c2 : c > 122
        · simp [c1, c2]; omega
        · have c3 : (decide (c ≥ 97) && decide (c ≤ 122)) = true := by simp; omega
          rw [if_neg (by simp; omega), if_neg (by simp; omega), c3]
          cases b <;> rfl
  · rw [if_pos (by simp; omega)]
    have : (decide (1 ≤ s.size) && decide (s.size ≤ 6)) = false := by
      rw [Bool.and_eq_false_iff, decide_eq_false_iff_not, decide_eq_false_iff_not]; omega
    rw [this]; rfl
theorem isKeyB (s : ByteArray) (hs : s.size ≤ 140737488351232) {fuel : Nat} (hf : 140737488351233 < fuel) : assayerref02_IsKey_f fuel s = some (isK s) := by
  unfold assayerref02_IsKey_f assayerref01_IsWord_f isK
  rw [key_eq]
  by_cases h : s = ByteArray.mk #[]
  · subst h; rfl
  · have hsz : s.size ≠ 0 := fun e => h (by
      apply ByteArray.ext
      apply Array.ext'
      have : s.data.toList.length = 0 := by rw [Array.length_toList]; exact e
      exact List.eq_nil_of_length_eq_zero this)
    have hk : 0 < (bts s).length := by rw [bts_len]; omega
    obtain ⟨c, t, hc, hb⟩ := bts_head hk
    have hl := isKeyB_l s hs s.size fuel 0 (by simp) (by omega)
    rw [show ((0 : Nat) : Int) = 0 from rfl] at hl
    rw [if_neg (by simp [h]), hb, hl, List.drop_zero, hc]
    simp only [Option.bind_some]
    · have h1 : decide (1 ≤ s.size) = true := decide_eq_true (by omega)
      have h2 : decide ((s.size : Int) ≤ 6) = decide (s.size ≤ 6) := by congr 1; simp; omega
      rw [h1, h2]
      unfold assayerref01_letter_f
      rw [show (decide (c ≥ 97) && decide (c ≤ 122)) = letB c from rfl]
      cases letB c <;> cases ((c :: t).all okb) <;> cases decide (s.size ≤ 6) <;> rfl
/-! ### operations, events, histories -/
def canK (o : Op') : Bool := if (o.kind == 1) = true then ((((o.list.length : Int) == 0) && (!o.has)) && (!o.isNil)) else (if (o.kind == 3) = true then ((((o.list.length : Int) == 0) && (!o.has)) && (!o.isNil)) else (if (o.kind == 2) = true then ((((o.value == 0) && (!o.isNil)) && (decide ((o.list.length : Int) ≤ 40))) && (o.has || ((o.list.length : Int) == 0))) else (if (o.kind == 4) = true then ((((o.list.length : Int) == 0) && (o.has || (!o.isNil))) && ((o.value == 0) || (o.has && (!o.isNil)))) else false)))
def canO (o : Op') : Bool := isK o.key && canK o
theorem canOA (o : Op') : histtext_CanOp_f o = some (canO o) := by
  unfold histtext_CanOp_f canO canK
  rw [isKeyA]
  simp only [Option.bind_some]
  cases isK o.key
  · rfl
  · simp only [Bool.not_true, Bool.false_eq_true, if_false, Bool.true_and]
    repeat' split
    all_goals rfl
theorem canOB (o : Op') (hs : o.key.size ≤ 140737488351232) {fuel : Nat} (hf : 140737488351233 < fuel) : assayerref02_MayOp_f fuel o = some (canO o) := by
  unfold assayerref02_MayOp_f canO canK
  rw [isKeyB _ hs hf]
  simp only [Option.bind_some]
  cases isK o.key
  · rfl
  · simp only [Bool.not_true, Bool.false_eq_true, if_false, Bool.true_and]
    repeat' split
    all_goals first | rfl | (congr 1; cases (o.value == 0) <;> cases o.isNil <;> cases o.has <;> cases ((o.list.length : Int) == 0) <;> cases decide ((o.list.length : Int) ≤ 40) <;> rfl)
def badE (e : Ev) : Bool := (((((decide (e.kind < 1)) || (decide (e.kind > 4))) || (decide (e.proc < 0))) || (decide (e.proc > 99))) || (decide ((e.ops.length : Int) < 1))) || (decide ((e.ops.length : Int) > 8))
def canE (e : Ev) : Bool := !badE e && e.ops.all canO
theorem opsA_l : ∀ (r : List Op') (k : Nat), ∃ j : Nat, slices_IndexFunc_Op_histtext_Can_1_l2 k r = some (if r.all canO = true then .inr () else .inl (j : Int))
  | [], k => ⟨0, rfl⟩
  | x :: r, k => by
    unfold slices_IndexFunc_Op_histtext_Can_1_l2 histtext_Can_1_f
    rw [canOA]
    simp only [Option.bind_some]
    by_cases h : canO x = true
    · obtain ⟨j, hj⟩ := opsA_l r (k + 1)
      exact ⟨j, by simp [h, hj]⟩
    · exact ⟨k, by simp [h]⟩
theorem opsA (l : List Op') : slices_ContainsFunc_Op_histtext_Can_1_f l = some (!l.all canO) := by
  unfold slices_ContainsFunc_Op_histtext_Can_1_f slices_IndexFunc_Op_histtext_Can_1_f
  obtain ⟨j, hj⟩ := opsA_l l 0
  rw [hj]
  cases l.all canO
  · simp
  · rfl
theorem evA (e : Ev) : histtext_Can_2_f e = some (!canE e) := by
  unfold histtext_Can_2_f canE
  rw [opsA]
  show (if badE e = true then _ else _) = _
  cases badE e
  · simp
  · rfl
theorem evsA_l : ∀ (r : List Ev) (k : Nat), ∃ j : Nat, slices_IndexFunc_Event_histtext_Can_2_l2 k r = some (if r.all canE = true then .inr () else .inl (j : Int))
  | [], k => ⟨0, rfl⟩
  | x :: r, k => by
    unfold slices_IndexFunc_Event_histtext_Can_2_l2
    rw [evA]
    simp only [Option.bind_some]
    by_cases h : canE x = true
    · obtain ⟨j, hj⟩ := evsA_l r (k + 1)
      exact ⟨j, by simp [h, hj]⟩
    · exact ⟨k, by simp [h]⟩
def canH (l : List Ev) : Bool := decide ((l.length : Int) ≤ 300) && l.all canE
theorem canA (l : List Ev) : histtext_Can_f l = some (canH l) := by
  unfold histtext_Can_f slices_ContainsFunc_Event_histtext_Can_2_f slices_IndexFunc_Event_histtext_Can_2_f canH
  obtain ⟨j, hj⟩ := evsA_l l 0
  rw [hj]
  cases decide ((l.length : Int) ≤ 300)
  · rfl
  · cases l.all canE
    · simp
    · rfl
def KeysOk (l : List Ev) : Prop := ∀ e ∈ l, ∀ o ∈ e.ops, o.key.size ≤ 140737488351232
theorem opsB_l {fuel : Nat} (hf : 140737488351233 < fuel) : ∀ (r : List Op') (k : Nat), (∀ o ∈ r, o.key.size ≤ 140737488351232) → assayerref02_Can_l9 fuel k r = some (if r.all canO = true then .inr () else .inl false)
  | [], k, _ => rfl
  | x :: r, k, h => by
    unfold assayerref02_Can_l9
    rw [canOB x (h x (by simp)) hf]
    simp only [Option.bind_some]
    by_cases hx : canO x = true
    · simp [hx, opsB_l hf r (k + 1) fun o ho => h o (List.mem_cons_of_mem _ ho)]
    · simp [hx]
theorem evsB_l {fuel : Nat} (hf : 140737488351233 < fuel) : ∀ (r : List Ev) (k : Nat), KeysOk r → assayerref02_Can_l4 fuel k r = some (if r.all canE = true then .inr () else .inl false)
  | [], k, _ => rfl
  | x :: r, k, h => by
    unfold assayerref02_Can_l4
    rw [opsB_l hf x.ops 0 (h x (by simp)), evsB_l hf r (k + 1) fun e he => h e (List.mem_cons_of_mem _ he)]
    show (if badE x = true then _ else _) = _
    by_cases h1 : badE x = true
    · simp [canE, h1]
    · by_cases h2 : x.ops.all canO = true
      · simp only [h2, if_true, Option.bind_some, if_neg h1, List.all_cons, canE]; simp [h1]
      · simp only [h2, if_neg h1, Option.bind_some, List.all_cons, canE]; simp
theorem canB (l : List Ev) (hk : KeysOk l) {fuel : Nat} (hf : 140737488351233 < fuel) : assayerref02_Can_f fuel l = some (canH l) := by
  unfold assayerref02_Can_f canH
  by_cases h : (l.length : Int) ≤ 300
  · rw [if_neg (by simp; omega), evsB_l hf l 0 hk, decide_eq_true h]
    cases l.all canE <;> rfl
  · rw [if_pos (by simp; omega), decide_eq_false h]; rfl
end Go.Proofs.Ytemdmpgekegfhaa
