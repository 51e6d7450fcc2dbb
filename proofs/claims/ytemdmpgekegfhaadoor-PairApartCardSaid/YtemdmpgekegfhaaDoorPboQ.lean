/- The plain law of PairApart, with all that it needs. -/
import Derived.Test.YtemdmpgekegfhaaDoorPob5
import Derived.Test.YtemdmpgekegfhaaDoorPq
namespace Go.Proofs.YtemdmpgekegfhaaDoor
open Go.RowKit
set_option linter.all false
set_option maxRecDepth 10000

/-! ### keys -/
def letB (c : Int) : Bool := decide (c ≥ 97) && decide (c ≤ 122)
def okb (c : Int) : Bool := letB c || (decide (c ≥ 48) && decide (c ≤ 57))
def bts (s : ByteArray) : List Int := s.data.toList.map fun b => (b.toNat : Int)
theorem bts_len (s : ByteArray) : (bts s).length = s.size := by unfold bts; rw [List.length_map, Array.length_toList]; rfl
theorem btI_at {s : ByteArray} {k : Nat} (h : k < (bts s).length) : btI s (k : Int) = some (bts s)[k] := by
  unfold btI
  rw [if_pos (Int.natCast_nonneg k)]
  have : (s.data.toList[(k : Int).toNat]?).map (fun c => (c.toNat : Int)) = (bts s)[k]? := by unfold bts; rw [List.getElem?_map]; rfl
  rw [this, List.getElem?_eq_getElem h]
theorem isKeyA_l (s : ByteArray) : ∀ (r k : Nat), k + r = s.size → histtext_isKey_l4 s k r = some (if ((bts s).drop k).all okb = true then .inr () else .inl false)
  | 0, k, h => by
    rw [List.drop_of_length_le (by rw [bts_len]; omega)]; rfl
  | r + 1, k, h => by
    have hk : k < (bts s).length := by rw [bts_len]; omega
    unfold histtext_isKey_l4
    rw [btI_at hk, List.drop_eq_getElem_cons hk, List.all_cons, isKeyA_l s r (k + 1) (by omega)]
    simp only [Option.bind_some]
    generalize (bts s)[k] = c
    generalize ((bts s).drop (k + 1)).all okb = b
    unfold okb letB
    repeat' split
    all_goals first | rfl | (exfalso; simp_all; omega) | (exfalso; simp_all)
theorem isKeyB_l (s : ByteArray) (hs : s.size ≤ 140737488351232) : ∀ (n f k : Nat), k + n = s.size → n < f → assayerref01_IsWord_l4 s f (k : Int) = some (if ((bts s).drop k).all okb = true then .inr () else .inl false)
  | _, 0, _, _, h => by omega
  | 0, f + 1, k, h, _ => by
    unfold assayerref01_IsWord_l4
    rw [List.drop_of_length_le (by rw [bts_len]; omega), if_neg (by simp; omega)]; rfl
  | n + 1, f + 1, k, h, hf => by
    have hk : k < (bts s).length := by rw [bts_len]; omega
    unfold assayerref01_IsWord_l4
    rw [if_pos (by simp; omega), btI_at hk, wrap_small (by omega) (by omega), show ((k : Int) + 1) = ((k + 1 : Nat) : Int) from rfl, isKeyB_l s hs n f (k + 1) (by omega) (by omega), List.drop_eq_getElem_cons hk, List.all_cons]
    simp only [Option.bind_some]
    generalize (bts s)[k] = c
    generalize ((bts s).drop (k + 1)).all okb = b
    unfold okb letB assayerref01_letter_f assayerref01_digit_f
    repeat' split
    all_goals first | rfl | (exfalso; simp_all; omega) | (exfalso; simp_all)
theorem bts_head {s : ByteArray} (hk : 0 < (bts s).length) : ∃ c t, bts s = c :: t ∧ btI s 0 = some c := by
  have hb := btI_at hk
  rw [show ((0 : Nat) : Int) = 0 from rfl] at hb
  cases hc : bts s with
  | nil => rw [hc] at hk; simp at hk
  | cons c t => exact ⟨c, t, rfl, by rw [hb]; simp [hc]⟩
def isK (s : ByteArray) : Bool := decide (1 ≤ s.size) && decide (s.size ≤ 6) && (match bts s with | c :: _ => letB c | [] => false) && (bts s).all okb
theorem isKeyA (s : ByteArray) : histtext_isKey_f s = some (isK s) := by
  unfold histtext_isKey_f isK
  by_cases h : 1 ≤ s.size ∧ s.size ≤ 6
  · rw [if_neg (by simp; omega)]
    have hk : 0 < (bts s).length := by rw [bts_len]; omega
    obtain ⟨c, t, hc, hb⟩ := bts_head hk
    rw [hb, isKeyA_l s _ 0 (by simp), List.drop_zero, hc]
    simp only [Option.bind_some]
    · unfold letB
      generalize (c :: t).all okb = b
      have h1 : decide (1 ≤ s.size) = true := decide_eq_true h.1
      have h2 : decide (s.size ≤ 6) = true := decide_eq_true h.2
      rw [h1, h2]
      by_cases c1 : c < 97
      · simp [c1]; omega
      · by_cases c2 : c > 122
        · simp [c1, c2]; omega
        · have c3 : (decide (c ≥ 97) && decide (c ≤ 122)) = true := by simp; omega
          rw [if_neg (by simp; omega), if_neg (by simp; omega), c3]
          cases b <;> rfl
  · rw [if_pos (by simp; omega)]
    have : (decide (1 ≤ s.size) && decide (s.size ≤ 6)) = false := by
      rw [Bool.and_eq_false_iff, decide_eq_false_iff_not, decide_eq_false_iff_not]; omega
    rw [this]; rfl
theorem isKeyB (s : ByteArray) (hs : s.size ≤ 140737488351232) {fuel : Nat} (hf : 140737488351233 < fuel) : assayerref02_IsKey_f fuel s = some (isK s) := by
  unfold assayerref02_IsKey_f assayerref01_IsWord_f isK
  rw [key_eq]
  by_cases h : s = ByteArray.mk #[]
  · subst h; rfl
  · have hsz : s.size ≠ 0 := fun e => h (by
      apply ByteArray.ext
      apply Array.ext'
      have : s.data.toList.length = 0 := by rw [Array.length_toList]; exact e
      exact List.eq_nil_of_length_eq_zero this)
    have hk : 0 < (bts s).length := by rw [bts_len]; omega
    obtain ⟨c, t, hc, hb⟩ := bts_head hk
    have hl := isKeyB_l s hs s.size fuel 0 (by simp) (by omega)
    rw [show ((0 : Nat) : Int) = 0 from rfl] at hl
    rw [if_neg (by simp [h]), hb, hl, List.drop_zero, hc]
    simp only [Option.bind_some]
    · have h1 : decide (1 ≤ s.size) = true := decide_eq_true (by omega)
      have h2 : decide ((s.size : Int) ≤ 6) = decide (s.size ≤ 6) := by congr 1; simp; omega
      rw [h1, h2]
      unfold assayerref01_letter_f
      rw [show (decide (c ≥ 97) && decide (c ≤ 122)) = letB c from rfl]
      cases letB c <;> cases ((c :: t).all okb) <;> cases decide (s.size ≤ 6) <;> rfl
/-! ### operations, events, histories -/
def canK (o : Op') : Bool := if (o.kind == 1) = true then ((((o.list.length : Int) == 0) && (!o.has)) && (!o.isNil)) else (if (o.kind == 3) = true then ((((o.list.length : Int) == 0) && (!o.has)) && (!o.isNil)) else (if (o.kind == 2) = true then ((((o.value == 0) && (!o.isNil)) && (decide ((o.list.length : Int) ≤ 40))) && (o.has || ((o.list.length : Int) == 0))) else (if (o.kind == 4) = true then ((((o.list.length : Int) == 0) && (o.has || (!o.isNil))) && ((o.value == 0) || (o.has && (!o.isNil)))) else false)))
def canO (o : Op') : Bool := isK o.key && canK o
theorem canOA (o : Op') : histtext_CanOp_f o = some (canO o) := by
  unfold histtext_CanOp_f canO canK
  rw [isKeyA]
  simp only [Option.bind_some]
  cases isK o.key
  · rfl
  · simp only [Bool.not_true, Bool.false_eq_true, if_false, Bool.true_and]
    repeat' split
    all_goals rfl
theorem canOB (o : Op') (hs : o.key.size ≤ 140737488351232) {fuel : Nat} (hf : 140737488351233 < fuel) : assayerref02_MayOp_f fuel o = some (canO o) := by
  unfold assayerref02_MayOp_f canO canK
  rw [isKeyB _ hs hf]
  simp only [Option.bind_some]
  cases isK o.key
  · rfl
  · simp only [Bool.not_true, Bool.false_eq_true, if_false, Bool.true_and]
    repeat' split
    all_goals first | rfl | (congr 1; cases (o.value == 0) <;> cases o.isNil <;> cases o.has <;> cases ((o.list.length : Int) == 0) <;> cases decide ((o.list.length : Int) ≤ 40) <;> rfl)
def badE (e : Ev) : Bool := (((((decide (e.kind < 1)) || (decide (e.kind > 4))) || (decide (e.proc < 0))) || (decide (e.proc > 99))) || (decide ((e.ops.length : Int) < 1))) || (decide ((e.ops.length : Int) > 8))
def canE (e : Ev) : Bool := !badE e && e.ops.all canO
theorem opsA_l : ∀ (r : List Op') (k : Nat), ∃ j : Nat, slices_IndexFunc_Op_histtext_Can_1_l2 k r = some (if r.all canO = true then .inr () else .inl (j : Int))
  | [], k => ⟨0, rfl⟩
  | x :: r, k => by
    unfold slices_IndexFunc_Op_histtext_Can_1_l2 histtext_Can_1_f
    rw [canOA]
    simp only [Option.bind_some]
    by_cases h : canO x = true
    · obtain ⟨j, hj⟩ := opsA_l r (k + 1)
      exact ⟨j, by simp [h, hj]⟩
    · exact ⟨k, by simp [h]⟩
theorem opsA (l : List Op') : slices_ContainsFunc_Op_histtext_Can_1_f l = some (!l.all canO) := by
  unfold slices_ContainsFunc_Op_histtext_Can_1_f slices_IndexFunc_Op_histtext_Can_1_f
  obtain ⟨j, hj⟩ := opsA_l l 0
  rw [hj]
  cases l.all canO
  · simp
  · rfl
theorem evA (e : Ev) : histtext_Can_2_f e = some (!canE e) := by
  unfold histtext_Can_2_f canE
  rw [opsA]
  show (if badE e = true then _ else _) = _
  cases badE e
  · simp
  · rfl
theorem evsA_l : ∀ (r : List Ev) (k : Nat), ∃ j : Nat, slices_IndexFunc_Event_histtext_Can_2_l2 k r = some (if r.all canE = true then .inr () else .inl (j : Int))
  | [], k => ⟨0, rfl⟩
  | x :: r, k => by
    unfold slices_IndexFunc_Event_histtext_Can_2_l2
    rw [evA]
    simp only [Option.bind_some]
    by_cases h : canE x = true
    · obtain ⟨j, hj⟩ := evsA_l r (k + 1)
      exact ⟨j, by simp [h, hj]⟩
    · exact ⟨k, by simp [h]⟩
def canH (l : List Ev) : Bool := decide ((l.length : Int) ≤ 300) && l.all canE
theorem canA (l : List Ev) : histtext_Can_f l = some (canH l) := by
  unfold histtext_Can_f slices_ContainsFunc_Event_histtext_Can_2_f slices_IndexFunc_Event_histtext_Can_2_f canH
  obtain ⟨j, hj⟩ := evsA_l l 0
  rw [hj]
  cases decide ((l.length : Int) ≤ 300)
  · rfl
  · cases l.all canE
    · simp
    · rfl
def KeysOk (l : List Ev) : Prop := ∀ e ∈ l, ∀ o ∈ e.ops, o.key.size ≤ 140737488351232
theorem opsB_l {fuel : Nat} (hf : 140737488351233 < fuel) : ∀ (r : List Op') (k : Nat), (∀ o ∈ r, o.key.size ≤ 140737488351232) → assayerref02_Can_l9 fuel k r = some (if r.all canO = true then .inr () else .inl false)
  | [], k, _ => rfl
  | x :: r, k, h => by
    unfold assayerref02_Can_l9
    rw [canOB x (h x (by simp)) hf]
    simp only [Option.bind_some]
    by_cases hx : canO x = true
    · simp [hx, opsB_l hf r (k + 1) fun o ho => h o (List.mem_cons_of_mem _ ho)]
    · simp [hx]
theorem evsB_l {fuel : Nat} (hf : 140737488351233 < fuel) : ∀ (r : List Ev) (k : Nat), KeysOk r → assayerref02_Can_l4 fuel k r = some (if r.all canE = true then .inr () else .inl false)
  | [], k, _ => rfl
  | x :: r, k, h => by
    unfold assayerref02_Can_l4
    rw [opsB_l hf x.ops 0 (h x (by simp)), evsB_l hf r (k + 1) fun e he => h e (List.mem_cons_of_mem _ he)]
    show (if badE x = true then _ else _) = _
    by_cases h1 : badE x = true
    · simp [canE, h1]
    · by_cases h2 : x.ops.all canO = true
      · simp only [h2, if_true, Option.bind_some, if_neg h1, List.all_cons, canE]; simp [h1]
      · simp only [h2, if_neg h1, Option.bind_some, List.all_cons, canE]; simp
theorem canB (l : List Ev) (hk : KeysOk l) {fuel : Nat} (hf : 140737488351233 < fuel) : assayerref02_Can_f fuel l = some (canH l) := by
  unfold assayerref02_Can_f canH
  by_cases h : (l.length : Int) ≤ 300
  · rw [if_neg (by simp; omega), evsB_l hf l 0 hk, decide_eq_true h]
    cases l.all canE <;> rfl
  · rw [if_pos (by simp; omega), decide_eq_false h]; rfl

deriving instance DecidableEq for Op'
theorem set_take {α : Type} {ys : List α} {k : Nat} (h : k < ys.length) (a : α) : (ys.set k a).take (k + 1) = ys.take k ++ [a] ∧ (ys.set k a).drop (k + 1) = ys.drop (k + 1) := by
  rw [List.set_eq_take_append_cons_drop, if_pos h]
  have hl : (ys.take k).length = k := by rw [List.length_take]; omega
  constructor
  · rw [List.take_append, List.take_of_length_le (by omega), hl]; simp
  · rw [List.drop_append, List.drop_of_length_le (by omega), hl]; simp
/-! ### copies -/
theorem copy_l : ∀ (r k : Nat) (ys : List Op'), k + r = ys.length → histtext_CopyOps_l3 k r ys = some ys
  | 0, k, ys, _ => rfl
  | r + 1, k, ys, h => by
    have hk : k < ys.length := by omega
    unfold histtext_CopyOps_l3
    rw [rdI_at hk]
    simp only [Option.bind_some]
    have e : setI ys (k : Int) (⟨ys[k].kind, ys[k].key, ys[k].value, ys[k].list, ys[k].has, ys[k].isNil⟩ : Op') = ys := by
      unfold setI
      show ys.set k ys[k] = ys
      exact List.set_getElem_self hk
    rw [e]
    exact copy_l r (k + 1) ys (by omega)
theorem copy_ok (l : List Op') : histtext_CopyOps_f l = some l := by
  unfold histtext_CopyOps_f
  rw [Int.toNat_natCast, copy_l l.length 0 l (by simp)]; rfl
def bareO (o : Op') : Op' := if pair_reads_f o = true then ⟨o.kind, o.key, 0, [], false, false⟩ else o
theorem bare_l : ∀ (r k : Nat) (ys : List Op'), k + r = ys.length → pair_bare_l3 k r ys = some (ys.take k ++ (ys.drop k).map bareO)
  | 0, k, ys, h => by
    rw [List.drop_of_length_le (by omega), List.take_of_length_le (by omega)]; simp [pair_bare_l3]
  | r + 1, k, ys, h => by
    have hk : k < ys.length := by omega
    unfold pair_bare_l3
    rw [rdI_at hk]
    simp only [Option.bind_some]
    by_cases hx : pair_reads_f ys[k] = true
    · rw [if_pos hx, bare_l r (k + 1) _ (by rw [setI_len]; omega)]
      unfold setI
      rw [Int.toNat_natCast, (set_take hk _).1, (set_take hk _).2, List.drop_eq_getElem_cons hk, List.map_cons, List.append_assoc]
      unfold bareO
      rw [if_pos hx]; rfl
    · rw [if_neg hx, bare_l r (k + 1) _ (by omega), List.drop_eq_getElem_cons hk, List.map_cons, List.take_succ_eq_append_getElem hk, List.append_assoc]
      have : bareO ys[k] = ys[k] := if_neg hx
      rw [this]; rfl
theorem bare_ok (l : List Op') : pair_bare_f l = some (l.map bareO) := by
  unfold pair_bare_f
  rw [copy_ok]
  simp only [Option.bind_some]
  rw [Int.toNat_natCast, bare_l l.length 0 l (by simp)]
  simp
/-! ### operations that are the same -/
theorem eqA (ys : List Int) : ∀ (r : List Int) (k : Nat), k + r.length = ys.length → slices_Equal_I_l4 ys k r = some (if r = ys.drop k then .inr () else .inl false)
  | [], k, h => by
    unfold slices_Equal_I_l4
    rw [List.drop_of_length_le (by simp at h; omega), if_pos rfl]
  | x :: r, k, h => by
    unfold slices_Equal_I_l4
    simp only [List.length_cons] at h
    have hk : k < ys.length := by omega
    rw [rdI_at hk]
    simp only [Option.bind_some]
    rw [List.drop_eq_getElem_cons hk]
    by_cases e : x = ys[k]
    · rw [if_neg (by simp [e]), eqA ys r (k + 1) (by omega)]
      simp only [e, List.cons.injEq, true_and]
    · rw [if_pos (by simp [e]), if_neg (fun h => e (List.cons.inj h).1)]
theorem eqA_ok (xs ys : List Int) : slices_Equal_I_f xs ys = some (decide (xs = ys)) := by
  unfold slices_Equal_I_f
  by_cases h : xs.length = ys.length
  · rw [if_neg (by simp [h]), eqA ys xs 0 (by omega), List.drop_zero]
    by_cases e : xs = ys <;> simp [e]
  · rw [if_pos (by simp; omega)]
    have : xs ≠ ys := fun e => h (by rw [e])
    simp [this]
theorem sameA (a b : Op') : histtext_SameOps_1_f a b = some (decide (a = b)) := by
  unfold histtext_SameOps_1_f
  rw [key_eq, eqA_ok]
  obtain ⟨a1, a2, a3, a4, a5, a6⟩ := a
  obtain ⟨b1, b2, b3, b4, b5, b6⟩ := b
  simp only [Option.bind_some, Op'.mk.injEq]
  by_cases h : ((((a1 == b1) && decide (a2 = b2)) && (a3 == b3)) && (a5 == b5) && (a6 == b6)) = true
  · rw [if_pos h]
    simp only [Bool.and_eq_true, beq_iff_eq, decide_eq_true_eq] at h
    simp [h]
  · rw [if_neg h]
    simp only [Bool.and_eq_true, beq_iff_eq, decide_eq_true_eq] at h
    congr 1
    symm
    rw [decide_eq_false_iff_not]
    rintro ⟨rfl, rfl, rfl, rfl, rfl, rfl⟩
    exact h ⟨⟨⟨⟨rfl, rfl⟩, rfl⟩, rfl⟩, rfl⟩
theorem sames_l (ys : List Op') : ∀ (r : List Op') (k : Nat), k + r.length = ys.length → slices_EqualFunc_Op_histtext_SameOps_1_l4 ys k r = some (if r = ys.drop k then .inr () else .inl false)
  | [], k, h => by
    unfold slices_EqualFunc_Op_histtext_SameOps_1_l4
    rw [List.drop_of_length_le (by simp at h; omega), if_pos rfl]
  | x :: r, k, h => by
    unfold slices_EqualFunc_Op_histtext_SameOps_1_l4
    simp only [List.length_cons] at h
    have hk : k < ys.length := by omega
    rw [rdI_at hk]
    simp only [Option.bind_some]
    rw [sameA, List.drop_eq_getElem_cons hk]
    simp only [Option.bind_some]
    by_cases e : x = ys[k]
    · rw [if_neg (by simp [e]), sames_l ys r (k + 1) (by omega)]
      simp only [e, List.cons.injEq, true_and]
    · rw [if_pos (by simp [e]), if_neg (fun h => e (List.cons.inj h).1)]
theorem sames_ok (xs ys : List Op') : histtext_SameOps_f xs ys = some (decide (xs = ys)) := by
  unfold histtext_SameOps_f slices_EqualFunc_Op_histtext_SameOps_1_f
  by_cases h : xs.length = ys.length
  · rw [if_neg (by simp [h]), sames_l ys xs 0 (by omega), List.drop_zero]
    by_cases e : xs = ys <;> simp [e]
  · rw [if_pos (by simp; omega)]
    have : xs ≠ ys := fun e => h (by rw [e])
    simp [this]
/-! ### what is lacking, what is filled -/
theorem has1_l : ∀ (r : List Op') (k : Nat), ∃ j : Nat, slices_IndexFunc_Op_pair_table_event_1_l2 k r = if r.any pair_table_event_1_f = true then .inl (j : Int) else .inr ()
  | [], k => ⟨0, rfl⟩
  | x :: r, k => by
    unfold slices_IndexFunc_Op_pair_table_event_1_l2
    by_cases h : pair_table_event_1_f x = true
    · exact ⟨k, by simp [h]⟩
    · obtain ⟨j, hj⟩ := has1_l r (k + 1)
      exact ⟨j, by simp [h, hj]⟩
theorem has1_ok (l : List Op') : slices_ContainsFunc_Op_pair_table_event_1_f l = l.any pair_table_event_1_f := by
  unfold slices_ContainsFunc_Op_pair_table_event_1_f slices_IndexFunc_Op_pair_table_event_1_f
  obtain ⟨j, hj⟩ := has1_l l 0
  rw [hj]
  by_cases h : l.any pair_table_event_1_f = true
  · rw [if_pos h, h]; simp [letF]
  · rw [if_neg h, Bool.eq_false_iff.2 h]; rfl
theorem has2_l : ∀ (r : List Op') (k : Nat), ∃ j : Nat, slices_IndexFunc_Op_pair_table_event_2_l2 k r = if r.any pair_table_event_2_f = true then .inl (j : Int) else .inr ()
  | [], k => ⟨0, rfl⟩
  | x :: r, k => by
    unfold slices_IndexFunc_Op_pair_table_event_2_l2
    by_cases h : pair_table_event_2_f x = true
    · exact ⟨k, by simp [h]⟩
    · obtain ⟨j, hj⟩ := has2_l r (k + 1)
      exact ⟨j, by simp [h, hj]⟩
theorem has2_ok (l : List Op') : slices_ContainsFunc_Op_pair_table_event_2_f l = l.any pair_table_event_2_f := by
  unfold slices_ContainsFunc_Op_pair_table_event_2_f slices_IndexFunc_Op_pair_table_event_2_f
  obtain ⟨j, hj⟩ := has2_l l 0
  rw [hj]
  by_cases h : l.any pair_table_event_2_f = true
  · rw [if_pos h, h]; simp [letF]
  · rw [if_neg h, Bool.eq_false_iff.2 h]; rfl
/-! ### the state of a check -/
structure PS where
  op : Int → Option (List Op')
  gn : Int → Bool
  kd : ByteArray → Option Bool
def errA (s : PS) (e : Ev) : Int :=
  if (e.kind == 1 && ((s.op e.proc).isSome || s.gn e.proc)) = true then 30
  else if (e.kind != 1 && !(s.op e.proc).isSome) = true then 31
  else if (e.kind == 2 && e.ops.any pair_table_event_2_f) = true then 32
  else if (e.kind != 2 && e.ops.any pair_table_event_1_f) = true then 32
  else match s.op e.proc with
    | some a => if a.map bareO = e.ops.map bareO then 0 else 32
    | none => 0
def mixA : List Op' → (ByteArray → Option Bool) → Option (ByteArray → Option Bool)
  | [], f => some f
  | o :: r, f => if ((f o.key).isSome && !((f o.key).getD false == pair_listed_f o)) = true then none else mixA r (fset f o.key (pair_listed_f o))
def nextA (s : PS) (e : Ev) (d : ByteArray → Option Bool) : PS :=
  if (e.kind == 1) = true then ⟨fset s.op e.proc e.ops, s.gn, d⟩ else ⟨fdel s.op e.proc, fun p => if p = e.proc then e.kind == 4 else s.gn p, d⟩
def runA : PS → Nat → List Ev → Option (Nat × Int)
  | _, _, [] => none
  | s, k, e :: r => if errA s e ≠ 0 then some (k, errA s e) else match mixA e.ops s.kd with
    | none => some (k, 33)
    | some d => runA (nextA s e d) (k + 1) r
theorem mix_l (p2 : Int → Option Int) (p3 : Int → Option Bool) : ∀ (r : List Op') (k : Nat) (d : ByteArray → Option Bool), ∃ st, pair_table_event_l19 p2 p3 k r d = match mixA r d with | some d' => .inr d' | none => .inl (33, st)
  | [], k, d => ⟨⟨p2, p3, d⟩, rfl⟩
  | o :: r, k, d => by
    unfold pair_table_event_l19 mixA
    by_cases h : ((d o.key).isSome && !((d o.key).getD false == pair_listed_f o)) = true
    · exact ⟨_, by rw [if_pos h, if_pos h]⟩
    · obtain ⟨st, hst⟩ := mix_l p2 p3 r (k + 1) (fset d o.key (pair_listed_f o))
      exact ⟨st, by rw [if_neg h, if_neg h]; exact hst⟩
structure Rel (l : List Ev) (k : Nat) (o : Int → Option Int) (g : Int → Option Bool) (d : ByteArray → Option Bool) (s : PS) : Prop where
  op : ∀ p i, o p = some i → ∃ n : Nat, ∃ h : n < l.length, i = (n : Int) ∧ n < k ∧ s.op p = some l[n].ops
  no : ∀ p, o p = none → s.op p = none
  gn : ∀ p, (g p).getD false = s.gn p
  kd : d = s.kd
theorem Rel.some {l : List Ev} {k : Nat} {o : Int → Option Int} {g : Int → Option Bool} {d : ByteArray → Option Bool} {s : PS} (h : Rel l k o g d s) (p : Int) : (o p).isSome = (s.op p).isSome := by
  cases ho : o p with
  | none => rw [h.no p ho]; rfl
  | some i => obtain ⟨n, _, _, _, e⟩ := h.op p i ho; rw [e]; rfl
theorem Rel.next {l : List Ev} {k : Nat} (hk : k < l.length) {o : Int → Option Int} {g : Int → Option Bool} {d d' : ByteArray → Option Bool} {s : PS} (h : Rel l k o g d s) :
    Rel l (k + 1) (if (l[k].kind == 1) = true then (fset o l[k].proc (k : Int), g) else (fdel o l[k].proc, fset g l[k].proc (l[k].kind == 4))).1 (if (l[k].kind == 1) = true then (fset o l[k].proc (k : Int), g) else (fdel o l[k].proc, fset g l[k].proc (l[k].kind == 4))).2 d' (nextA s l[k] d') := by
  unfold nextA
  by_cases h1 : (l[k].kind == 1) = true
  · simp only [if_pos h1]
    refine ⟨fun p i hp => ?_, fun p hp => ?_, h.gn, rfl⟩
    · unfold fset at hp ⊢
      by_cases e : p = l[k].proc
      · simp only [if_pos e] at hp ⊢
        exact ⟨k, hk, (Option.some.inj hp).symm, Nat.lt_succ_self _, rfl⟩
      · simp only [if_neg e] at hp ⊢
        obtain ⟨n, h1, h2, h3, h4⟩ := h.op p i hp
        exact ⟨n, h1, h2, by omega, h4⟩
    · unfold fset at hp ⊢
      by_cases e : p = l[k].proc
      · simp only [if_pos e] at hp; cases hp
      · simp only [if_neg e] at hp ⊢; exact h.no p hp
  · simp only [if_neg h1]
    refine ⟨fun p i hp => ?_, fun p hp => ?_, fun p => ?_, rfl⟩
    · unfold fdel at hp ⊢
      by_cases e : p = l[k].proc
      · simp only [if_pos e] at hp; cases hp
      · simp only [if_neg e] at hp ⊢
        obtain ⟨n, h1, h2, h3, h4⟩ := h.op p i hp
        exact ⟨n, h1, h2, by omega, h4⟩
    · unfold fdel at hp ⊢
      by_cases e : p = l[k].proc
      · simp only [if_pos e]
      · simp only [if_neg e] at hp ⊢; exact h.no p hp
    · unfold fset
      by_cases e : p = l[k].proc
      · simp only [if_pos e]; rfl
      · simp only [if_neg e]; exact h.gn p
/-- One event. -/
theorem event_ok {l : List Ev} {k : Nat} (hk : k < l.length) {o : Int → Option Int} {g : Int → Option Bool} {d : ByteArray → Option Bool} {s : PS} (h : Rel l k o g d s) :
    ∃ w st, pair_table_event_f ⟨o, g, d⟩ l (k : Int) = some (w, st) ∧ ((errA s l[k] ≠ 0 ∧ w = errA s l[k]) ∨ (errA s l[k] = 0 ∧ mixA l[k].ops s.kd = none ∧ w = 33) ∨ (errA s l[k] = 0 ∧ w = 0 ∧ ∃ d', mixA l[k].ops s.kd = some d' ∧ Rel l (k + 1) st.open_ st.gone st.kinds (nextA s l[k] d'))) := by
  unfold pair_table_event_f
  rw [rdI_at hk]
  simp only [Option.bind_some]
  rw [h.some, h.gn, has1_ok, has2_ok]
  by_cases c1 : (l[k].kind == 1 && ((s.op l[k].proc).isSome || s.gn l[k].proc)) = true
  · rw [if_pos c1]
    have : errA s l[k] = 30 := by unfold errA; rw [if_pos c1]
    exact ⟨_, _, rfl, .inl ⟨by rw [this]; decide, this.symm⟩⟩
  · by_cases c2 : (l[k].kind != 1 && !(s.op l[k].proc).isSome) = true
    · rw [if_neg c1, if_pos c2]
      have : errA s l[k] = 31 := by unfold errA; rw [if_neg c1, if_pos c2]
      exact ⟨_, _, rfl, .inl ⟨by rw [this]; decide, this.symm⟩⟩
    · by_cases c3 : (l[k].kind == 2 && l[k].ops.any pair_table_event_2_f) = true
      · rw [if_neg c1, if_neg c2, if_pos c3]
        have : errA s l[k] = 32 := by unfold errA; rw [if_neg c1, if_neg c2, if_pos c3]
        exact ⟨_, _, rfl, .inl ⟨by rw [this]; decide, this.symm⟩⟩
      · by_cases c4 : (l[k].kind != 2 && l[k].ops.any pair_table_event_1_f) = true
        · rw [if_neg c1, if_neg c2, if_neg c3, if_pos c4]
          have : errA s l[k] = 32 := by unfold errA; rw [if_neg c1, if_neg c2, if_neg c3, if_pos c4]
          exact ⟨_, _, rfl, .inl ⟨by rw [this]; decide, this.symm⟩⟩
        · rw [if_neg c1, if_neg c2, if_neg c3, if_neg c4]
          have hE : errA s l[k] = match s.op l[k].proc with | some a => if a.map bareO = l[k].ops.map bareO then 0 else 32 | none => 0 := by
            unfold errA; rw [if_neg c1, if_neg c2, if_neg c3, if_neg c4]
          have fin : errA s l[k] = 0 → ∃ w st, (letF (if (l[k].kind == 1) = true then (fset o l[k].proc (k : Int), g) else (fdel o l[k].proc, fset g l[k].proc (l[k].kind == 4))) fun x => match x with | (zj18_p2, zj18_p3) => letF (pair_table_event_l19 zj18_p2 zj18_p3 0 l[k].ops d) fun x => match x with | .inl z19_r => (some z19_r) | .inr z19_p4 => (some (0, (⟨zj18_p2, zj18_p3, z19_p4⟩ : PTab)))) = some (w, st) ∧ ((errA s l[k] ≠ 0 ∧ w = errA s l[k]) ∨ (errA s l[k] = 0 ∧ mixA l[k].ops s.kd = none ∧ w = 33) ∨ (errA s l[k] = 0 ∧ w = 0 ∧ ∃ d', mixA l[k].ops s.kd = some d' ∧ Rel l (k + 1) st.open_ st.gone st.kinds (nextA s l[k] d'))) := by
            intro h0
            have hN := fun d' => Rel.next (d' := d') hk h
            generalize (if (l[k].kind == 1) = true then (fset o l[k].proc (k : Int), g) else (fdel o l[k].proc, fset g l[k].proc (l[k].kind == 4))) = X at hN ⊢
            obtain ⟨p2, p3⟩ := X
            obtain ⟨st, hst⟩ := mix_l p2 p3 l[k].ops 0 d
            unfold letF
            simp only []
            rw [hst, h.kd]
            cases hm : mixA l[k].ops s.kd with
            | none => exact ⟨_, _, rfl, .inr (.inl ⟨h0, rfl, rfl⟩)⟩
            | some d' => exact ⟨_, _, rfl, .inr (.inr ⟨h0, rfl, d', rfl, hN d'⟩)⟩
          cases ho : o l[k].proc with
          | none =>
            have hs := h.no _ ho
            rw [if_neg (by rw [hs]; simp)]
            exact fin (by rw [hE, hs])
          | some i =>
            obtain ⟨n, hn, rfl, hnk, hs⟩ := h.op _ _ ho
            rw [if_pos (by rw [hs]; rfl)]
            simp only [Option.getD_some]
            rw [rdI_at hn]
            simp only [Option.bind_some]
            rw [bare_ok, bare_ok]
            simp only [Option.bind_some]
            rw [sames_ok]
            simp only [Option.bind_some]
            rw [hs] at hE
            by_cases c5 : l[n].ops.map bareO = l[k].ops.map bareO
            · rw [if_neg (by simp [c5])]
              exact fin (by rw [hE]; exact if_pos c5)
            · rw [if_pos (by simp [c5])]
              have : errA s l[k] = 32 := by rw [hE]; exact if_neg c5
              exact ⟨_, _, rfl, .inl ⟨by rw [this]; decide, this.symm⟩⟩
theorem check_l (l : List Ev) : ∀ (r : List Ev) (k : Nat) (o : Int → Option Int) (g : Int → Option Bool) (d : ByteArray → Option Bool) (s : PS), r = l.drop k → Rel l k o g d s →
    ∃ x, pair_Check_l5 l k r o g d = some (match runA s k r with | some (i, w) => .inl (some ⟨(i : Int), w⟩) | none => .inr x)
  | [], k, o, g, d, s, _, _ => ⟨_, rfl⟩
  | e :: r, k, o, g, d, s, hr, h => by
    obtain ⟨hk, rfl, hr'⟩ := drop_next hr.symm
    obtain ⟨w, st, he, hc⟩ := event_ok hk h
    unfold pair_Check_l5 runA
    rw [he]
    simp only [Option.bind_some]
    rcases hc with ⟨h1, rfl⟩ | ⟨h1, h2, rfl⟩ | ⟨h1, rfl, d', h2, h3⟩
    · rw [if_pos (by simpa using h1), if_pos h1]
      exact ⟨(o, g, d), rfl⟩
    · rw [if_pos (by decide), if_neg (by simp [h1]), h2]
      exact ⟨(o, g, d), rfl⟩
    · rw [if_neg (by decide), if_neg (by simp [h1]), h2]
      exact check_l l r (k + 1) _ _ _ _ hr' h3
def s0 : PS := ⟨fnil, fun _ => false, fnil⟩
theorem check_ok (l : List Ev) : pair_Check_f l = some (if canH l = true then (runA s0 0 l).map (fun p => (⟨(p.1 : Int), p.2⟩ : Flt)) else some ⟨0, 1⟩) := by
  unfold pair_Check_f
  rw [canA]
  simp only [Option.bind_some]
  by_cases hc : canH l = true
  · rw [if_neg (by simp [hc]), if_pos hc]
    obtain ⟨x, hx⟩ := check_l l l 0 fnil fnil fnil s0 rfl ⟨(fun p i h => by cases h), fun _ _ => rfl, fun _ => rfl, rfl⟩
    rw [hx]
    cases runA s0 0 l with
    | none => rfl
    | some p => rfl
  · rw [if_pos (by simp [hc]), if_neg hc]

theorem filled_l (b : Bool) : ∀ (r : List Op') (k : Nat), assayerref03_filled_l2 b k r = if r.any (fun o => pair_reads_f o && !(o.has == b)) = true then .inl false else .inr ()
  | [], k => rfl
  | x :: r, k => by
    unfold assayerref03_filled_l2
    show (if (pair_reads_f x && !(x.has == b)) = true then _ else _) = _
    by_cases h : (pair_reads_f x && !(x.has == b)) = true
    · rw [if_pos h]; simp only [List.any_cons, h, Bool.true_or, if_true]
    · rw [if_neg h, filled_l b r (k + 1)]; simp only [List.any_cons, Bool.eq_false_iff.2 h, Bool.false_or]
theorem filled_ok (l : List Op') (b : Bool) : assayerref03_filled_f l b = !l.any (fun o => pair_reads_f o && !(o.has == b)) := by
  unfold assayerref03_filled_f
  rw [filled_l]
  by_cases h : l.any (fun o => pair_reads_f o && !(o.has == b)) = true
  · rw [if_pos h, h]; rfl
  · rw [if_neg h, Bool.eq_false_iff.2 h]; rfl
/-- Do two operations, each of which may be, complete each other. -/
theorem comp_one {a b : Op'} (ha : canO a = true) (hb : canO b = true) : (((a.kind != b.kind) || (!(a.key.toList == b.key.toList))) || (((a.kind == 1) || (a.kind == 3)) && (a.value != b.value))) = !decide (bareO a = bareO b) := by
  have hka : a.kind = 1 ∨ a.kind = 2 ∨ a.kind = 3 ∨ a.kind = 4 := by
    unfold canO canK at ha
    by_cases h1 : a.kind = 1; · exact .inl h1
    by_cases h2 : a.kind = 2; · exact .inr (.inl h2)
    by_cases h3 : a.kind = 3; · exact .inr (.inr (.inl h3))
    by_cases h4 : a.kind = 4; · exact .inr (.inr (.inr h4))
    simp [h1, h2, h3, h4] at ha
  rw [key_eq]
  by_cases hk : a.kind = b.kind
  · by_cases he : a.key = b.key
    · by_cases hr : pair_reads_f a = true
      · have hr2 : pair_reads_f b = true := by unfold pair_reads_f at hr ⊢; rw [← hk]; exact hr
        have : bareO a = bareO b := by unfold bareO; rw [if_pos hr, if_pos hr2, hk, he]
        have h5 : ((a.kind == 1) || (a.kind == 3)) = false := by
          unfold pair_reads_f at hr
          rcases hka with e | e | e | e <;> rw [e] at hr ⊢ <;> first | rfl | (exfalso; simp at hr)
        rw [h5]; simp [hk, he, this]
      · have hr2 : ¬ pair_reads_f b = true := by unfold pair_reads_f at hr ⊢; rw [← hk]; exact hr
        have h5 : ((a.kind == 1) || (a.kind == 3)) = true := by
          unfold pair_reads_f at hr
          rcases hka with e | e | e | e <;> rw [e] at hr ⊢ <;> first | rfl | (exfalso; simp at hr)
        have w : ∀ x : Op', canO x = true → ((x.kind == 1) || (x.kind == 3)) = true → x.list = [] ∧ x.has = false ∧ x.isNil = false := by
          intro x hx h
          unfold canO canK at hx
          have : x.kind = 1 ∨ x.kind = 3 := by simpa using h
          rcases this with e | e <;> simp [e] at hx <;> exact ⟨hx.2.1.1, hx.2.1.2, hx.2.2⟩
        obtain ⟨a1, a2, a3⟩ := w a ha h5
        obtain ⟨b1, b2, b3⟩ := w b hb (by rw [← hk]; exact h5)
        have e1 : bareO a = a := if_neg hr
        have e2 : bareO b = b := if_neg hr2
        rw [e1, e2, h5]
        by_cases hv : a.value = b.value
        · have : a = b := by
            cases a; cases b
            simp only at hk he hv a1 a2 a3 b1 b2 b3
            subst hk he hv a1 a2 a3 b1 b2 b3; rfl
          simp [this]
        · have : a ≠ b := fun h => hv (by rw [h])
          simp [this, hv]
    · have : bareO a ≠ bareO b := fun h => he (by
        have := congrArg Op'.key h
        unfold bareO at this
        split at this <;> split at this <;> exact this)
      simp [he, this]
  · have : bareO a ≠ bareO b := fun h => hk (by
      have := congrArg Op'.kind h
      unfold bareO at this
      split at this <;> split at this <;> exact this)
    simp [hk, this]
theorem comp_l (ys : List Op') (hy : ∀ o ∈ ys, canO o = true) : ∀ (r : List Op') (k : Nat), k + r.length = ys.length → (∀ o ∈ r, canO o = true) → assayerref03_completes_l4 ys k r = some (if r.map bareO = (ys.drop k).map bareO then .inr () else .inl false)
  | [], k, h, _ => by
    unfold assayerref03_completes_l4
    rw [List.drop_of_length_le (by simp at h; omega), if_pos rfl]
  | x :: r, k, h, hr => by
    unfold assayerref03_completes_l4
    simp only [List.length_cons] at h
    have hk : k < ys.length := by omega
    rw [rdI_at hk]
    simp only [Option.bind_some]
    rw [List.drop_eq_getElem_cons hk, comp_one (hr x (by simp)) (hy _ (List.getElem_mem hk)), List.map_cons, List.map_cons]
    by_cases e : bareO x = bareO ys[k]
    · rw [if_neg (by simp [e]), comp_l ys hy r (k + 1) (by omega) fun o ho => hr o (List.mem_cons_of_mem _ ho)]
      simp only [e, List.cons.injEq, true_and]
    · rw [if_pos (by simp [e]), if_neg (fun h => e (List.cons.inj h).1)]
theorem comp_ok (xs ys : List Op') (hx : ∀ o ∈ xs, canO o = true) (hy : ∀ o ∈ ys, canO o = true) : assayerref03_completes_f xs ys = some (decide (xs.map bareO = ys.map bareO)) := by
  unfold assayerref03_completes_f
  by_cases h : xs.length = ys.length
  · rw [if_neg (by simp [h]), comp_l ys hy xs 0 (by omega) hx, List.drop_zero]
    by_cases e : xs.map bareO = ys.map bareO <;> simp [e]
  · rw [if_pos (by simp; omega)]
    have : xs.map bareO ≠ ys.map bareO := fun e => h (by simpa using congrArg List.length e)
    simp [this]
/-! ### keys of two kinds -/
def clash (o p : Op') : Bool := (p.key.toList == o.key.toList) && !(pair_listed_f p == pair_listed_f o)
theorem mixed9 (o : Op') : ∀ (r : List Op') (k : Nat), assayerref03_Mixed_l9 o k r = if r.any (clash o) = true then .inl true else .inr ()
  | [], k => rfl
  | x :: r, k => by
    unfold assayerref03_Mixed_l9
    show (if clash o x = true then _ else _) = _
    by_cases h : clash o x = true
    · rw [if_pos h]; simp only [List.any_cons, h, Bool.true_or, if_true]
    · rw [if_neg h, mixed9 o r (k + 1)]; simp only [List.any_cons, Bool.eq_false_iff.2 h, Bool.false_or]
theorem mixed6 (o : Op') (u : List (List Op')) : ∀ (r k : Nat), k + r = u.length → assayerref03_Mixed_l6 u o k r = some (if (u.drop k).any (fun l => l.any (clash o)) = true then .inl true else .inr ())
  | 0, k, h => by rw [List.drop_of_length_le (by omega)]; rfl
  | r + 1, k, h => by
    have hk : k < u.length := by omega
    unfold assayerref03_Mixed_l6
    rw [rdI_at hk, List.drop_eq_getElem_cons hk, List.any_cons]
    simp only [Option.bind_some]
    rw [mixed9, mixed6 o u r (k + 1) (by omega)]
    unfold letF
    by_cases h : u[k].any (clash o) = true
    · rw [if_pos h, h]; rfl
    · rw [if_neg h, Bool.eq_false_iff.2 h, Bool.false_or]
theorem mixed3 (u : List (List Op')) : ∀ (r : List Op') (k : Nat), assayerref03_Mixed_l3 u k r = some (if r.any (fun o => u.any (fun l => l.any (clash o))) = true then .inl true else .inr ())
  | [], k => rfl
  | x :: r, k => by
    unfold assayerref03_Mixed_l3
    rw [Int.toNat_natCast, mixed6 x u u.length 0 (by simp), mixed3 u r (k + 1), List.drop_zero, List.any_cons]
    simp only [Option.bind_some]
    by_cases h : u.any (fun l => l.any (clash x)) = true
    · rw [if_pos h, h]; rfl
    · rw [if_neg h, Bool.eq_false_iff.2 h, Bool.false_or]
theorem mixed_ok (a : List (List Op')) (l : List Op') (h : a.length ≤ 300) : assayerref03_Mixed_f a l = some (l.any fun o => (a ++ [l]).any fun q => q.any (clash o)) := by
  unfold assayerref03_Mixed_f
  rw [appL_ok (by simp; omega)]
  simp only [Option.bind_some]
  rw [List.nil_append, app_ok (by omega)]
  simp only [Option.bind_some]
  rw [mixed3]
  cases l.any fun o => (a ++ [l]).any fun q => q.any (clash o) <;> rfl
/-- The kinds of keys that were met are those of the operations ahead. -/
def Met (d : ByteArray → Option Bool) (a : List Op') : Prop := (∀ o ∈ a, d o.key = some (pair_listed_f o)) ∧ ∀ k, (∀ o ∈ a, o.key ≠ k) → d k = none
theorem clash_iff (o p : Op') : clash o p = true ↔ p.key = o.key ∧ pair_listed_f p ≠ pair_listed_f o := by
  unfold clash
  rw [key_eq]
  simp
theorem mix_met : ∀ (r a : List Op') (d : ByteArray → Option Bool), Met d a →
    ((∃ d', mixA r d = some d' ∧ Met d' (a ++ r)) ∧ ∀ o ∈ r, ∀ p ∈ a ++ r, clash o p = false) ∨ (mixA r d = none ∧ ∃ o ∈ r, ∃ p ∈ a ++ r, clash o p = true)
  | [], a, d, h => .inl ⟨⟨d, rfl, by simpa using h⟩, fun o ho => by cases ho⟩
  | x :: r, a, d, h => by
    unfold mixA
    have hd : d x.key = none ∨ ∃ p ∈ a, p.key = x.key ∧ d x.key = some (pair_listed_f p) := by
      by_cases hx : ∃ p ∈ a, p.key = x.key
      · obtain ⟨p, hp, e⟩ := hx
        exact .inr ⟨p, hp, e, by rw [← e]; exact h.1 p hp⟩
      · exact .inl (h.2 _ fun o ho e => hx ⟨o, ho, e⟩)
    by_cases c : ((d x.key).isSome && !((d x.key).getD false == pair_listed_f x)) = true
    · rw [if_pos c]
      refine .inr ⟨rfl, x, by simp, ?_⟩
      rcases hd with e | ⟨p, hp, e1, e2⟩
      · rw [e] at c; simp at c
      · rw [e2] at c
        exact ⟨p, List.mem_append_left _ hp, (clash_iff _ _).2 ⟨e1, by simpa using c⟩⟩
    · rw [if_neg c]
      have hno : ∀ p ∈ a, p.key = x.key → pair_listed_f p = pair_listed_f x := fun p hp e => by
        rw [← e, h.1 p hp] at c
        simp only [Option.isSome_some, Option.getD_some, Bool.true_and, Bool.not_eq_true', beq_eq_false_iff_ne, ne_eq, Decidable.not_not] at c
        exact c
      have hM : Met (fset d x.key (pair_listed_f x)) (a ++ [x]) := by
        refine ⟨fun o ho => ?_, fun k hk => ?_⟩
        · unfold fset
          rcases List.mem_append.1 ho with ho | ho
          · by_cases e : o.key = x.key
            · rw [if_pos e, hno o ho e]
            · rw [if_neg e]; exact h.1 o ho
          · rw [List.mem_singleton.1 ho, if_pos rfl]
        · unfold fset
          rw [if_neg (fun e => hk x (by simp) e.symm)]
          exact h.2 k fun o ho => hk o (List.mem_append_left _ ho)
      have ea : a ++ (x :: r) = a ++ [x] ++ r := by simp
      rcases mix_met r (a ++ [x]) _ hM with ⟨⟨d', h1, h2⟩, h3⟩ | ⟨h1, o, ho, p, hp, h2⟩
      · refine .inl ⟨⟨d', h1, by rw [ea]; exact h2⟩, fun o ho p hp => ?_⟩
        rw [ea] at hp
        rcases List.mem_cons.1 ho with e | ho
        · subst e
          rcases List.mem_append.1 hp with hp | hp
          · rcases List.mem_append.1 hp with hp | hp
            · rw [Bool.eq_false_iff]; intro hc
              obtain ⟨e1, e2⟩ := (clash_iff _ _).1 hc
              exact e2 (hno p hp e1)
            · rw [List.mem_singleton.1 hp]
              rw [Bool.eq_false_iff]; intro hc
              exact ((clash_iff _ _).1 hc).2 rfl
          · rw [Bool.eq_false_iff]; intro hc
            obtain ⟨e1, e2⟩ := (clash_iff _ _).1 hc
            have := h3 p hp o (List.mem_append_left _ (by simp))
            rw [Bool.eq_false_iff] at this
            exact this ((clash_iff _ _).2 ⟨e1.symm, fun e => e2 e.symm⟩)
        · exact h3 o ho p hp
      · exact .inr ⟨h1, o, List.mem_cons_of_mem _ ho, p, by rw [ea]; exact hp, h2⟩
/-! ### the document's state beside the program's -/
theorem ps_l : ∀ (r k : Nat) (ys : List Prc), k + r = ys.length → assayerref03_Check_l5 k r ys = some (ys.take k ++ (ys.drop k).map fun p => ⟨p.gone, -1⟩)
  | 0, k, ys, h => by rw [List.drop_of_length_le (by omega), List.take_of_length_le (by omega)]; simp [assayerref03_Check_l5]
  | r + 1, k, ys, h => by
    have hk : k < ys.length := by omega
    unfold assayerref03_Check_l5
    rw [rdI_at hk]
    simp only [Option.bind_some]
    rw [ps_l r (k + 1) _ (by rw [setI_len]; omega)]
    unfold setI
    rw [Int.toNat_natCast, (set_take hk _).1, (set_take hk _).2, List.drop_eq_getElem_cons hk, List.map_cons, List.append_assoc]; rfl
structure RelB (l : List Ev) (k : Nat) (ps : List Prc) (s : PS) : Prop where
  len : ps.length = 100
  op : ∀ (p : Nat) (h : p < ps.length), (ps[p].open_ = -1 ∧ s.op (p : Int) = none) ∨ ∃ n : Nat, ∃ hn : n < l.length, ps[p].open_ = (n : Int) ∧ s.op (p : Int) = some l[n].ops
  gn : ∀ (p : Nat) (h : p < ps.length), ps[p].gone = s.gn (p : Int)
theorem any_split (l : List Op') (e : Int) : (pair_reads_f = fun o => pair_reads_f o) ∧ ((e == 2) = true → (l.any (fun o => pair_reads_f o && !(o.has == (e == 2)))) = l.any pair_table_event_2_f) ∧ ((e == 2) = false → (l.any (fun o => pair_reads_f o && !(o.has == (e == 2)))) = l.any pair_table_event_1_f) := by
  refine ⟨rfl, fun h => ?_, fun h => ?_⟩
  · rw [h]; congr 1; funext o; unfold pair_table_event_2_f; cases o.has <;> rfl
  · rw [h]; congr 1; funext o; unfold pair_table_event_1_f; cases o.has <;> rfl
theorem step_ok {l : List Ev} {k : Nat} (hk : k < l.length) (hcan : ∀ e ∈ l, canE e = true) {ps : List Prc} {s : PS} (h : RelB l k ps s) :
    ∃ w ps', assayerref03_step_el2_f l (k : Int) ps l[k].proc = some (w, ps') ∧ ((errA s l[k] ≠ 0 ∧ w = errA s l[k]) ∨ (errA s l[k] = 0 ∧ w = 0 ∧ ∀ d', RelB l (k + 1) ps' (nextA s l[k] d'))) := by
  have hE := hcan _ (List.getElem_mem hk)
  have hops : ∀ (n : Nat) (hn : n < l.length), ∀ o ∈ l[n].ops, canO o = true := fun n hn o ho => by
    have := hcan _ (List.getElem_mem hn)
    unfold canE at this
    rw [Bool.and_eq_true] at this
    exact List.all_eq_true.1 this.2 o ho
  have hp : 0 ≤ l[k].proc ∧ l[k].proc ≤ 99 := by
    unfold canE badE at hE
    simp only [Bool.and_eq_true, Bool.not_eq_true', Bool.or_eq_false_iff, decide_eq_false_iff_not] at hE
    omega
  obtain ⟨p, hpp⟩ : ∃ p : Nat, l[k].proc = (p : Int) := ⟨l[k].proc.toNat, by omega⟩
  have hpl : p < ps.length := by rw [h.len]; omega
  unfold assayerref03_step_el2_f
  rw [rdI_at hk, hpp]
  simp only [Option.bind_some]
  rw [rdI_at hpl]
  simp only [Option.bind_some]
  have hset : ∀ x : Prc, setI ps (p : Int) x = ps.set p x := fun x => by unfold setI; rw [Int.toNat_natCast]
  have getset : ∀ (x : Prc) (q : Nat) (hq : q < (ps.set p x).length), (ps.set p x)[q] = if p = q then x else ps[q]'(by rw [List.length_set] at hq; exact hq) := fun x q hq => List.getElem_set ..
  rcases h.op p hpl with ⟨ho1, ho2⟩ | ⟨n, hn, ho1, ho2⟩
  · -- no open invocation
    by_cases hi : (l[k].kind == 1) = true
    · rw [if_pos hi, h.gn p hpl, ho1, filled_ok]
      by_cases hg : s.gn (p : Int) = true
      · rw [if_pos (by rw [hg]; rfl)]
        have : errA s l[k] = 30 := by unfold errA; rw [if_pos (by rw [hi, hpp, hg]; simp)]
        exact ⟨_, _, rfl, .inl ⟨by rw [this]; decide, this.symm⟩⟩
      · have hg' : s.gn (p : Int) = false := Bool.eq_false_iff.2 hg
        rw [if_neg (by rw [hg']; decide)]
        have hk2 : (l[k].kind == 2) = false := by rw [beq_eq_false_iff_ne]; have : l[k].kind = 1 := by simpa using hi
                                                  omega
        have hs := (any_split l[k].ops l[k].kind).2.2 hk2
        rw [hk2] at hs
        rw [hs]
        have hA : errA s l[k] = if l[k].ops.any pair_table_event_1_f = true then 32 else 0 := by
          unfold errA
          have hne : (l[k].kind != 1) = false := by rw [bne, hi]; rfl
          have hne2 : (l[k].kind != 2) = true := by rw [bne, hk2]; rfl
          rw [hpp, ho2, hg', hne, hk2, hne2]
          simp
        by_cases hf : l[k].ops.any pair_table_event_1_f = true
        · rw [if_pos (by rw [hf]; rfl)]
          rw [if_pos hf] at hA
          exact ⟨_, _, rfl, .inl ⟨by rw [hA]; decide, hA.symm⟩⟩
        · rw [if_neg (by rw [Bool.eq_false_iff.2 hf]; decide)]
          rw [if_neg hf] at hA
          refine ⟨_, _, rfl, .inr ⟨hA, rfl, fun d' => ?_⟩⟩
          unfold nextA
          rw [if_pos hi, hset]
          refine ⟨by rw [List.length_set]; exact h.len, fun q hq => ?_, fun q hq => ?_⟩
          · rw [getset]
            unfold fset
            dsimp only
            by_cases e : p = q
            · subst e
              exact .inr ⟨k, hk, by simp, by simp [hpp]⟩
            · have e' : ¬ (q : Int) = l[k].proc := by rw [hpp]; omega
              simp only [if_neg e, if_neg e']
              exact h.op q _
          · rw [getset]
            by_cases e : p = q
            · subst e; rw [if_pos rfl]
            · rw [if_neg e]; exact h.gn q _
    · rw [if_neg hi, ho1, if_pos (by decide)]
      have : errA s l[k] = 31 := by
        unfold errA
        have hi' : (l[k].kind == 1) = false := Bool.eq_false_iff.2 hi
        rw [hpp, ho2, bne, hi']; simp
      exact ⟨_, _, rfl, .inl ⟨by rw [this]; decide, this.symm⟩⟩
  · by_cases hi : (l[k].kind == 1) = true
    · rw [if_pos hi, ho1, if_pos (by simp)]
      have : errA s l[k] = 30 := by unfold errA; rw [if_pos (by rw [hi, hpp, ho2]; rfl)]
      exact ⟨_, _, rfl, .inl ⟨by rw [this]; decide, this.symm⟩⟩
    · have hi' : (l[k].kind == 1) = false := Bool.eq_false_iff.2 hi
      rw [if_neg hi, ho1, if_neg (by simp), rdI_at hn]
      simp only [Option.bind_some]
      rw [comp_ok _ _ (hops n hn) (hops k hk), filled_ok]
      simp only [Option.bind_some]
      have hA : errA s l[k] = if (l[k].ops.any (fun o => pair_reads_f o && !(o.has == (l[k].kind == 2)))) = true then 32 else if l[n].ops.map bareO = l[k].ops.map bareO then 0 else 32 := by
        unfold errA
        rw [hpp, ho2, bne, hi']
        obtain ⟨-, h1, h2⟩ := any_split l[k].ops l[k].kind
        cases h3 : (l[k].kind == 2)
        · rw [h3] at h2
          rw [h2 rfl, bne, h3]; simp
        · rw [h3] at h1
          rw [h1 rfl, bne, h3]; simp
      by_cases hf : l[k].ops.any (fun o => pair_reads_f o && !(o.has == (l[k].kind == 2))) = true
      · rw [if_pos (by rw [hf]; simp)]
        rw [if_pos hf] at hA
        exact ⟨_, _, rfl, .inl ⟨by rw [hA]; decide, hA.symm⟩⟩
      · rw [if_neg hf] at hA
        have hf' := Bool.eq_false_iff.2 hf
        by_cases hc : l[n].ops.map bareO = l[k].ops.map bareO
        · rw [if_neg (by rw [hf']; simp [hc])]
          rw [if_pos hc] at hA
          refine ⟨_, _, rfl, .inr ⟨hA, rfl, fun d' => ?_⟩⟩
          unfold nextA
          rw [if_neg hi, hset]
          have hset2 : ∀ x y : Prc, setI (ps.set p x) (p : Int) y = ps.set p y := fun x y => by unfold setI; rw [Int.toNat_natCast, List.set_set]
          rw [hset2]
          refine ⟨by rw [List.length_set]; exact h.len, fun q hq => ?_, fun q hq => ?_⟩
          · rw [getset]
            unfold fdel
            dsimp only
            by_cases e : p = q
            · subst e
              exact .inl ⟨by simp, by simp [hpp]⟩
            · have e' : ¬ (q : Int) = l[k].proc := by rw [hpp]; omega
              simp only [if_neg e, if_neg e']
              exact h.op q _
          · rw [getset]
            dsimp only
            by_cases e : p = q
            · subst e; simp [hpp]
            · have e' : ¬ (q : Int) = l[k].proc := by rw [hpp]; omega
              simp only [if_neg e, if_neg e']; exact h.gn q _
        · rw [if_pos (by simp [hc])]
          rw [if_neg hc] at hA
          exact ⟨_, _, rfl, .inl ⟨by rw [hA]; decide, hA.symm⟩⟩
theorem refs_l (l : List Ev) (hcan : ∀ e ∈ l, canE e = true) (hlen : l.length ≤ 300) : ∀ (r : List Ev) (k : Nat) (a : List (List Op')) (ps : List Prc) (s : PS), r = l.drop k → RelB l k ps s → a.length = k → Met s.kd a.flatten →
    ∃ x, assayerref03_Check_l11 l k r a ps = some (match runA s k r with | some (i, w) => .inl ((i : Int), w) | none => .inr x)
  | [], k, a, ps, s, _, _, _, _ => ⟨_, rfl⟩
  | e :: r, k, a, ps, s, hr, h, ha, hm => by
    obtain ⟨hk, rfl, hr'⟩ := drop_next hr.symm
    obtain ⟨w, ps', he, hc⟩ := step_ok hk hcan h
    have hE := hcan _ (List.getElem_mem hk)
    have hp : 0 ≤ l[k].proc ∧ l[k].proc ≤ 99 := by
      unfold canE badE at hE
      simp only [Bool.and_eq_true, Bool.not_eq_true', Bool.or_eq_false_iff, decide_eq_false_iff_not] at hE
      omega
    have hrd : ∃ y, rdI ps l[k].proc = some y := ⟨_, by unfold rdI; rw [if_pos hp.1, List.getElem?_eq_getElem (by rw [h.len]; omega)]⟩
    obtain ⟨y, hy⟩ := hrd
    unfold assayerref03_Check_l11 runA
    rw [hy, he]
    simp only [Option.bind_some]
    rcases hc with ⟨h1, rfl⟩ | ⟨h1, rfl, h3⟩
    · rw [if_pos (by simpa using h1), if_pos h1]
      exact ⟨(a, ps), rfl⟩
    · rw [if_neg (by decide), if_neg (by simp [h1]), mixed_ok _ _ (by omega)]
      simp only [Option.bind_some]
      have hflat : ∀ p : Op', p ∈ a.flatten ++ l[k].ops ↔ ∃ q ∈ a ++ [l[k].ops], p ∈ q := fun p => by
        rw [List.mem_append, List.mem_flatten]
        constructor
        · rintro (⟨q, h1, h2⟩ | h)
          · exact ⟨q, List.mem_append_left _ h1, h2⟩
          · exact ⟨l[k].ops, by simp, h⟩
        · rintro ⟨q, h1, h2⟩
          rcases List.mem_append.1 h1 with h1 | h1
          · exact .inl ⟨q, h1, h2⟩
          · rw [List.mem_singleton.1 h1] at h2; exact .inr h2
      rcases mix_met l[k].ops a.flatten s.kd hm with ⟨⟨d', m1, m2⟩, m3⟩ | ⟨m1, o, ho, p, hp2, m2⟩
      · rw [m1]
        have hno : (l[k].ops.any fun o => (a ++ [l[k].ops]).any fun q => q.any (clash o)) = false := by
          rw [Bool.eq_false_iff]
          intro hh
          obtain ⟨o, ho, hh⟩ := List.any_eq_true.1 hh
          obtain ⟨q, hq, hh⟩ := List.any_eq_true.1 hh
          obtain ⟨p, hp2, hh⟩ := List.any_eq_true.1 hh
          rw [m3 o ho p ((hflat p).2 ⟨q, hq, hp2⟩)] at hh; cases hh
        rw [hno, if_neg (by decide), app_ok (by omega)]
        simp only [Option.bind_some]
        refine refs_l l hcan hlen r (k + 1) _ _ _ hr' (h3 d') (by rw [List.length_append, ha]; rfl) ?_
        have : (nextA s l[k] d').kd = d' := by unfold nextA; split <;> rfl
        rw [this, List.flatten_append]
        simpa using m2
      · rw [m1]
        have hyes : (l[k].ops.any fun o => (a ++ [l[k].ops]).any fun q => q.any (clash o)) = true := by
          obtain ⟨q, hq, hq2⟩ := (hflat p).1 hp2
          exact List.any_eq_true.2 ⟨o, ho, List.any_eq_true.2 ⟨q, hq, List.any_eq_true.2 ⟨p, hq2, m2⟩⟩⟩
        rw [hyes, if_pos rfl]
        exact ⟨(a, ps), rfl⟩
theorem relB0 (l : List Ev) (n : Nat) (hn : n = 100) : RelB l 0 (List.replicate n (⟨false, -1⟩ : Prc)) s0 :=
  ⟨by simpa using hn, fun p hp => .inl ⟨by simp, rfl⟩, fun p hp => by simp [s0]⟩
theorem ref_ok (l : List Ev) (hk : KeysOk l) {fuel : Nat} (hf : 140737488351233 < fuel) : assayerref03_Check_f fuel l = some (if canH l = true then (match runA s0 0 l with | some (i, w) => ((i : Int), w) | none => (0, 0)) else (0, 1)) := by
  unfold assayerref03_Check_f
  rw [canB l hk hf]
  simp only [Option.bind_some]
  by_cases hc : canH l = true
  · rw [if_neg (by simp [hc]), if_pos hc]
    have hc2 := hc
    unfold canH at hc2
    rw [Bool.and_eq_true, decide_eq_true_eq] at hc2
    have h100 : assayerref03_Check_l5 0 ((100 : Int)).toNat (List.replicate 100 (⟨false, 0⟩ : Prc)) = some (List.replicate 100 ⟨false, -1⟩) := by
      rw [show ((100 : Int)).toNat = 100 from rfl, ps_l 100 0 _ (by simp)]
      simp
    rw [h100]
    simp only [Option.bind_some]
    obtain ⟨x, hx⟩ := refs_l l (fun e he => List.all_eq_true.1 hc2.2 e he) (by omega) l 0 [] (List.replicate 100 ⟨false, -1⟩) s0 rfl
      (relB0 l 100 rfl) rfl ⟨fun o ho => by simp at ho, fun k _ => rfl⟩
    rw [hx]
    cases runA s0 0 l with
    | none => rfl
    | some p => rfl
  · rw [if_pos (by simp [hc]), if_neg hc]

structure HypE (l : List Ev) : Prop where
  keys : KeysOk l
  len : l.length * 40 ≤ 140737488355328
  ops : ∀ e ∈ l, e.ops.length * 64 ≤ 140737488355328
theorem hypE {s : SH} {v : Value} {l : List Ev} (h : kEv.Sl s v l) : HypE l := by
  obtain ⟨A, c, rfl, h1, h2, -⟩ := id h
  have hel : ∀ (i : Nat) (hi : i < l.length), ∃ A2 c2, kOp.Sl s (.slice A2 l[i].ops.length c2) l[i].ops := fun i hi => by
    obtain ⟨b, off, cs, -, hK, -⟩ := h.elem i hi
    obtain ⟨A2, c2, -, -, -, h⟩ := kEv_op hK
    exact ⟨A2, c2, h⟩
  refine ⟨fun e he o ho => ?_, h2, fun e he => ?_⟩
  · obtain ⟨i, hi, rfl⟩ := List.mem_iff_getElem.1 he
    obtain ⟨A2, c2, h3⟩ := hel i hi
    obtain ⟨j, hj, rfl⟩ := List.mem_iff_getElem.1 ho
    obtain ⟨b, off, cs, -, hK, -⟩ := h3.elem j hj
    obtain ⟨A3, c3, -, -, h4, -⟩ := kOp_op hK
    exact h4
  · obtain ⟨i, hi, rfl⟩ := List.mem_iff_getElem.1 he
    obtain ⟨A2, c2, A', c', -, -, h3, -⟩ := hel i hi
    exact h3
theorem ops_l : ∀ (r : List Op') (k : Nat) (ys : List Op'), (ys.length + r.length) * 64 ≤ 140737488355328 → assayerplain_Ops_l3 k r ys = some (ys ++ r)
  | [], k, ys, _ => by simp [assayerplain_Ops_l3]
  | x :: r, k, ys, h => by
    simp only [List.length_cons] at h
    unfold assayerplain_Ops_l3
    rw [app_ok (by omega)]
    simp only [Option.bind_some]
    rw [ops_l r (k + 1) _ (by rw [List.length_append, List.length_singleton]; omega)]
    simp
theorem ops_ok (l : List Op') (h : l.length * 64 ≤ 140737488355328) : assayerplain_Ops_f l = some l := by
  unfold assayerplain_Ops_f
  rw [ops_l l 0 [] (by simpa using h)]; rfl
theorem evs_l : ∀ (r : List Ev) (k : Nat) (ys : List Ev), (ys.length + r.length) * 40 ≤ 140737488355328 → (∀ e ∈ r, e.ops.length * 64 ≤ 140737488355328) → assayerplain_Events_l3 k r ys = some (ys ++ r)
  | [], k, ys, _, _ => by simp [assayerplain_Events_l3]
  | x :: r, k, ys, h, ho => by
    simp only [List.length_cons] at h
    unfold assayerplain_Events_l3
    rw [ops_ok x.ops (ho x (by simp))]
    simp only [Option.bind_some]
    rw [app_ok (by omega)]
    simp only [Option.bind_some]
    rw [evs_l r (k + 1) _ (by rw [List.length_append, List.length_singleton]; omega) fun e he => ho e (List.mem_cons_of_mem _ he)]
    simp
theorem evs_ok {l : List Ev} (h : HypE l) : assayerplain_Events_f l = some l := by
  unfold assayerplain_Events_f
  rw [evs_l l 0 [] (by simpa using h.len) h.ops]; rfl
theorem sameO (a : Op') : assayerplain_SameOps_1_f a a = some true := by
  unfold assayerplain_SameOps_1_f
  rw [eqA_ok]
  simp
theorem sameOs_l (ys : List Op') : ∀ (r : List Op') (k : Nat), r = ys.drop k → slices_EqualFunc_Op_assayerplain_SameOps_1_l4 ys k r = some (.inr ())
  | [], k, h => rfl
  | x :: r, k, h => by
    obtain ⟨hk, rfl, h'⟩ := drop_next h.symm
    unfold slices_EqualFunc_Op_assayerplain_SameOps_1_l4
    rw [rdI_at hk]
    simp only [Option.bind_some]
    rw [sameO]
    simp only [Option.bind_some]
    rw [if_neg (by decide)]
    exact sameOs_l ys r (k + 1) h'
theorem sameOs (l : List Op') : assayerplain_SameOps_f l l = some true := by
  unfold assayerplain_SameOps_f slices_EqualFunc_Op_assayerplain_SameOps_1_f
  rw [if_neg (by simp), sameOs_l l l 0 rfl]; rfl
/-- The program's answer and the document's are one. -/
theorem both (l : List Ev) (hk : KeysOk l) {fuel : Nat} (hf : 140737488351233 < fuel) :
    ∃ e at_ why, pair_Check_f l = some e ∧ assayerref03_Check_f fuel l = some (at_, why) ∧ assayerplain_Is_f e at_ why = true ∧ (why = 0 → canH l = true ∧ runA s0 0 l = none) := by
  rw [check_ok, ref_ok l hk hf]
  by_cases hc : canH l = true
  · rw [if_pos hc, if_pos hc]
    cases hr : runA s0 0 l with
    | none => exact ⟨none, 0, 0, rfl, rfl, rfl, fun _ => ⟨hc, rfl⟩⟩
    | some p =>
      refine ⟨some ⟨(p.1 : Int), p.2⟩, _, _, rfl, rfl, ?_, fun h => ?_⟩
      · unfold assayerplain_Is_f assayerplain_Why_f; simp
      · exfalso
        have ne : ∀ (r : List Ev) (s : PS) (k : Nat) (q : Nat × Int), runA s k r = some q → q.2 ≠ 0 := by
          intro r
          induction r with
          | nil => intro s k q h; cases h
          | cons x r ih =>
            intro s k q h
            unfold runA at h
            split at h
            · rename_i h1; cases h; exact h1
            · split at h
              · cases h; exact (by decide : (33 : Int) ≠ 0)
              · exact ih _ _ _ h
        exact ne l s0 0 p hr h
  · rw [if_neg hc, if_neg hc]
    exact ⟨some ⟨0, 1⟩, 0, 1, rfl, rfl, by decide, fun h => by cases h⟩
theorem u64_small {x : Int} (h0 : 0 ≤ x) (h1 : x < 18446744073709551616) : IntKind.u64.wrap x = x := by
  have e1 : (2 : Int) ^ 64 = 18446744073709551616 := rfl
  simp only [IntKind.wrap, IntKind.bits, IntKind.signed, e1, Bool.false_and, Bool.false_eq_true, if_false]
  omega
theorem u64_nn (x : Int) : 0 ≤ IntKind.u64.wrap x := by
  have e1 : (2 : Int) ^ 64 = 18446744073709551616 := rfl
  simp only [IntKind.wrap, IntKind.bits, IntKind.signed, e1, Bool.false_and, Bool.false_eq_true, if_false]
  omega

def doneT (e : Ev) (k : Nat) (t : Txn) : Txn := ⟨t.proc, if (e.kind == 2) = true then 1 else if (e.kind == 3) = true then 2 else t.state, t.from_, (k : Int), e.ops⟩
def openT (e : Ev) (k : Nat) : Txn := ⟨e.proc, 3, (k : Int), -1, e.ops⟩
theorem setI_setI {α : Type} (xs : List α) (i : Int) (a b : α) : setI (setI xs i a) i b = setI xs i b := by unfold setI; exact List.set_set ..
theorem l8_inv {e : Ev} (h : (e.kind == 1) = true) (r : List Ev) (k : Nat) (out : List Txn) (m : Int → Option Int) :
    pair_Txns_l8 k (e :: r) out m = (app 56 out (openT e k)).bind fun u => pair_Txns_l8 (k + 1) r u (fset m e.proc (out.length : Int)) := by
  conv => lhs; unfold pair_Txns_l8
  rw [copy_ok]
  simp only [Option.bind_some]
  rw [if_pos h]; rfl
theorem l8_done {e : Ev} (h : ¬ (e.kind == 1) = true) (r : List Ev) (k : Nat) (out : List Txn) (m : Int → Option Int) :
    pair_Txns_l8 k (e :: r) out m = (rdI out ((m e.proc).getD 0)).bind fun u => pair_Txns_l8 (k + 1) r (setI out ((m e.proc).getD 0) (doneT e k u)) m := by
  conv => lhs; unfold pair_Txns_l8
  rw [copy_ok]
  simp only [Option.bind_some]
  rw [if_neg h]
  congr 1
  funext u
  unfold doneT
  by_cases h2 : (e.kind == 2) = true
  · rw [if_pos h2, setI_setI, setI_setI, if_pos h2]
  · by_cases h3 : (e.kind == 3) = true
    · rw [if_neg h2, if_pos h3, setI_setI, setI_setI, if_neg h2, if_pos h3]
    · rw [if_neg h2, if_neg h3, setI_setI, if_neg h2, if_neg h3]
def isI (e : Ev) : Bool := e.kind == 1
def noI (e : Ev) : Bool := !(e.kind == 1)
def isD (t : Txn) : Bool := decide (t.to ≥ 0)
structure TF (l : List Ev) (k : Nat) (out : List Txn) : Prop where
  fr : ∀ (i : Nat) (h : i < out.length), ∃ n : Nat, ∃ hn : n < l.length, n < k ∧ out[i].from_ = (n : Int) ∧ l[n].kind = 1 ∧ l[n].proc = out[i].proc ∧ (out[i].to = -1 ∨ (n : Int) < out[i].to)
  lt : ∀ (i j : Nat) (hi : i < out.length) (hj : j < out.length), i < j → out[i].from_ < out[j].from_
structure TI (l : List Ev) (k : Nat) (out : List Txn) (m : Int → Option Int) (s : PS) : Prop extends TF l k out where
  le : out.length ≤ k
  op : ∀ p, (s.op p).isSome = true → ∃ (i : Nat) (h : i < out.length), m p = some (i : Int) ∧ out[i].to = -1 ∧ out[i].proc = p
theorem TI.inv {l : List Ev} {k : Nat} {out : List Txn} {m : Int → Option Int} {s : PS} (h : TI l k out m s) (hk : k < l.length) (h1 : (l[k].kind == 1) = true) (d : ByteArray → Option Bool) :
    TI l (k + 1) (out ++ [openT l[k] k]) (fset m l[k].proc (out.length : Int)) (nextA s l[k] d) := by
  have hlen : (out ++ [openT l[k] k]).length = out.length + 1 := by simp
  have hl : ∀ (i : Nat) (hi : i < out.length), (out ++ [openT l[k] k])[i]'(by omega) = out[i] := fun i hi => List.getElem_append_left hi
  have hr : (out ++ [openT l[k] k])[out.length]'(by omega) = openT l[k] k := by simp
  refine { fr := fun i hi => ?_, lt := fun i j hi hj hij => ?_, le := by have := h.le; omega, op := fun p hp => ?_ }
  · by_cases e : i < out.length
    · obtain ⟨n, hn, a, b⟩ := h.fr i e
      rw [hl i e]
      exact ⟨n, hn, by omega, b⟩
    · have e : i = out.length := by omega
      subst e
      rw [hr]
      exact ⟨k, hk, by omega, rfl, by simpa using h1, rfl, .inl rfl⟩
  · have e : i < out.length := by omega
    rw [hl i e]
    by_cases e2 : j < out.length
    · rw [hl j e2]; exact h.lt i j e e2 hij
    · have e2 : j = out.length := by omega
      subst e2
      rw [hr]
      obtain ⟨n, hn, a, b, -⟩ := h.fr i e
      rw [b]
      show (n : Int) < (k : Int)
      omega
  · unfold nextA at hp
    rw [if_pos h1] at hp
    simp only [fset] at hp ⊢
    by_cases e : p = l[k].proc
    · rw [if_pos e]
      exact ⟨out.length, by omega, rfl, by rw [hr]; rfl, by rw [hr, e]; rfl⟩
    · rw [if_neg e] at hp ⊢
      obtain ⟨i, hi, a, b, c⟩ := h.op p hp
      exact ⟨i, by omega, a, by rw [hl i hi]; exact b, by rw [hl i hi]; exact c⟩
theorem TI.done {l : List Ev} {k : Nat} {out : List Txn} {m : Int → Option Int} {s : PS} (h : TI l k out m s) (hk : k < l.length) (h1 : ¬ (l[k].kind == 1) = true) (d : ByteArray → Option Bool)
    {i : Nat} (hi : i < out.length) (hp : out[i].proc = l[k].proc) :
    TI l (k + 1) (out.set i (doneT l[k] k out[i])) m (nextA s l[k] d) := by
  have hlen : (out.set i (doneT l[k] k out[i])).length = out.length := by simp
  have hf : ∀ (j : Nat) (hj : j < out.length), ((out.set i (doneT l[k] k out[i]))[j]'(by omega)).from_ = out[j].from_ ∧ ((out.set i (doneT l[k] k out[i]))[j]'(by omega)).proc = out[j].proc := fun j hj => by
    rw [List.getElem_set]
    split
    · rename_i e; subst e; exact ⟨rfl, rfl⟩
    · exact ⟨rfl, rfl⟩
  have ht : ∀ (j : Nat) (hj : j < out.length), ((out.set i (doneT l[k] k out[i]))[j]'(by omega)).to = if i = j then (k : Int) else out[j].to := fun j hj => by
    rw [List.getElem_set]
    split
    · rfl
    · rfl
  refine { fr := fun j hj => ?_, lt := fun a b ha hb hab => ?_, le := by have := h.le; omega, op := fun p hp' => ?_ }
  · have hj' : j < out.length := by omega
    obtain ⟨n, hn, a, b, c, d', e⟩ := h.fr j hj'
    refine ⟨n, hn, by omega, by rw [(hf j hj').1]; exact b, c, by rw [(hf j hj').2]; exact d', ?_⟩
    rw [ht j hj']
    by_cases e' : i = j
    · rw [if_pos e']; right; omega
    · rw [if_neg e']; exact e
  · have ha' : a < out.length := by omega
    have hb' : b < out.length := by omega
    rw [(hf a ha').1, (hf b hb').1]
    exact h.lt a b ha' hb' hab
  · unfold nextA at hp'
    rw [if_neg h1] at hp'
    simp only [fdel] at hp'
    by_cases e : p = l[k].proc
    · rw [if_pos e] at hp'; cases hp'
    · rw [if_neg e] at hp'
      obtain ⟨j, hj, a, b, c⟩ := h.op p hp'
      refine ⟨j, by omega, a, ?_, by rw [(hf j hj).2]; exact c⟩
      rw [ht j hj, if_neg (fun e' => e (by subst e'; rw [← c, ← hp]))]
      exact b
theorem cnt_set {out : List Txn} {i : Nat} (hi : i < out.length) (h0 : out[i].to = -1) (e : Ev) (k : Nat) : (out.set i (doneT e k out[i])).countP isD = out.countP isD + 1 := by
  rw [List.countP_set hi]
  have e1 : isD out[i] = false := by unfold isD; rw [h0]; rfl
  have e2 : isD (doneT e k out[i]) = true := by unfold isD doneT; simp
  rw [e1, e2]
  simp
theorem txns_l (l : List Ev) (hl : l.length ≤ 300) : ∀ (r : List Ev) (k : Nat) (out : List Txn) (m : Int → Option Int) (s : PS), r = l.drop k → runA s k r = none → TI l k out m s →
    ∃ m' out', pair_Txns_l8 k r out m = some (m', out') ∧ TF l l.length out' ∧ out'.length = out.length + r.countP isI ∧ out'.countP isD = out.countP isD + r.countP noI
  | [], k, out, m, s, hr, _, h => by
    have hk : l.length ≤ k := by
      have := congrArg List.length hr
      rw [List.length_drop] at this
      simp at this; omega
    refine ⟨m, out, rfl, ⟨fun i hi => ?_, h.lt⟩, by simp, by simp⟩
    obtain ⟨n, hn, a, b⟩ := h.fr i hi
    exact ⟨n, hn, hn, b⟩
  | e :: r, k, out, m, s, hr, hrun, h => by
    obtain ⟨hk, rfl, hr'⟩ := drop_next hr.symm
    unfold runA at hrun
    by_cases h0 : errA s l[k] ≠ 0
    · rw [if_pos h0] at hrun; cases hrun
    · rw [if_neg h0] at hrun
      have hE : errA s l[k] = 0 := Classical.not_not.1 h0
      cases hm : mixA l[k].ops s.kd with
      | none => rw [hm] at hrun; cases hrun
      | some d =>
        rw [hm] at hrun
        simp only at hrun
        by_cases h1 : (l[k].kind == 1) = true
        · rw [l8_inv h1, app_ok (by have := h.le; omega)]
          simp only [Option.bind_some]
          obtain ⟨m', out', a, b, c, d'⟩ := txns_l l hl r (k + 1) _ _ _ hr' hrun (h.inv hk h1 d)
          refine ⟨m', out', a, b, ?_, ?_⟩
          · rw [c, List.length_append, List.length_singleton, List.countP_cons, if_pos (by exact h1)]; omega
          · have e2 : List.countP noI (l[k] :: r) = r.countP noI := by rw [List.countP_cons, if_neg (by unfold noI; rw [h1]; decide)]; rfl
            have e3 : List.countP isD [openT l[k] k] = 0 := rfl
            rw [d', List.countP_append, e2, e3]; omega
        · have hs : (s.op l[k].proc).isSome = true := by
            unfold errA at hE
            by_cases c1 : (l[k].kind == 1 && ((s.op l[k].proc).isSome || s.gn l[k].proc)) = true
            · rw [if_pos c1] at hE; cases hE
            · by_cases c2 : (l[k].kind != 1 && !(s.op l[k].proc).isSome) = true
              · rw [if_neg c1, if_pos c2] at hE; cases hE
              · rw [bne, Bool.eq_false_iff.2 h1] at c2
                cases hx : (s.op l[k].proc).isSome with
                | true => rfl
                | false => rw [hx] at c2; exact absurd rfl c2
          obtain ⟨i, hi, a, b, c⟩ := h.op _ hs
          rw [l8_done h1, a]
          simp only [Option.getD_some]
          rw [rdI_at hi]
          simp only [Option.bind_some]
          have e1 : setI out (i : Int) (doneT l[k] k out[i]) = out.set i (doneT l[k] k out[i]) := by unfold setI; rw [Int.toNat_natCast]
          rw [e1]
          obtain ⟨m', out', a', b', c', d'⟩ := txns_l l hl r (k + 1) _ _ _ hr' hrun (h.done hk h1 d hi c)
          refine ⟨m', out', a', b', ?_, ?_⟩
          · rw [c', List.length_set, List.countP_cons, if_neg (by unfold isI; exact h1)]; omega
          · rw [d', cnt_set hi b, List.countP_cons, if_pos (by unfold noI; rw [Bool.eq_false_iff.2 h1]; rfl)]; omega
theorem TI0 (l : List Ev) : TI l 0 [] fnil s0 := { fr := fun i h => absurd h (Nat.not_lt_zero i), lt := fun i j hi _ _ => absurd hi (Nat.not_lt_zero i), le := Nat.le_refl _, op := fun p hp => by cases hp }
theorem txns_ok {l : List Ev} (hc : canH l = true) (hr : runA s0 0 l = none) : ∃ out, pair_Txns_f l = some (out, none) ∧ TF l l.length out ∧ out.length = l.countP isI ∧ out.countP isD = l.countP noI := by
  have hl : l.length ≤ 300 := by
    unfold canH at hc
    rw [Bool.and_eq_true, decide_eq_true_eq] at hc
    omega
  obtain ⟨m', out, a, b, c, d⟩ := txns_l l hl l 0 [] fnil s0 rfl hr (TI0 l)
  refine ⟨out, ?_, b, by simpa using c, by simpa using d⟩
  unfold pair_Txns_f
  rw [check_ok, if_pos hc, hr]
  simp only [Option.bind_some, Option.map_none]
  rw [if_neg (by decide), a]; rfl
theorem txns_err {l : List Ev} {f : Flt} (h : pair_Check_f l = some (some f)) : pair_Txns_f l = some ([], some f) := by
  unfold pair_Txns_f
  rw [h]
  simp only [Option.bind_some]
  rw [if_pos (by rfl)]
  rfl
/-- Which transactions a history has, in the two cases. -/
theorem bothT (l : List Ev) (hk : KeysOk l) {fuel : Nat} (hf : 140737488351233 < fuel) :
    ∃ at_ why, assayerref03_Check_f fuel l = some (at_, why) ∧
      ((why = 0 ∧ canH l = true ∧ runA s0 0 l = none ∧ assayerplain_Is_f none at_ why = true) ∨
       (why ≠ 0 ∧ ∃ f, pair_Check_f l = some (some f) ∧ assayerplain_Is_f (some f) at_ why = true)) := by
  obtain ⟨e, at_, why, h1, h2, h3, h4⟩ := both l hk hf
  refine ⟨at_, why, h2, ?_⟩
  by_cases hw : why = 0
  · obtain ⟨h5, h6⟩ := h4 hw
    have : e = none := by
      rw [check_ok, if_pos h5, h6] at h1
      exact (Option.some.inj h1).symm
    subst this
    exact .inl ⟨hw, h5, h6, h3⟩
  · cases e with
    | none =>
      exfalso
      unfold assayerplain_Is_f assayerplain_Why_f at h3
      simp at h3
      exact hw h3.1.symm
    | some f => exact .inr ⟨hw, f, h1, h3⟩

def shf (c p : Int) : Int := if 0 ≤ p ∧ p ≤ 99 then (p + 1 + c) % 100 else p
def ren (c : Int) (e : Ev) : Ev := ⟨e.kind, shf c e.proc, e.ops⟩
def renT (c : Int) (t : Txn) : Txn := ⟨shf c t.proc, t.state, t.from_, t.to, t.ops⟩
theorem shf_inj {c p q : Int} : shf c p = shf c q ↔ p = q := by
  constructor
  · unfold shf
    split <;> split <;> intro h <;> omega
  · rintro rfl; rfl
theorem shf_neg (c p : Int) : shf c p < 0 ↔ p < 0 := by unfold shf; split <;> omega
theorem shf_big (c p : Int) : shf c p > 99 ↔ p > 99 := by unfold shf; split <;> omega
theorem canE_ren (c : Int) (e : Ev) : canE (ren c e) = canE e := by
  have h : badE (ren c e) = badE e := by
    show ((((((decide (e.kind < 1)) || (decide (e.kind > 4))) || (decide (shf c e.proc < 0))) || (decide (shf c e.proc > 99))) || (decide ((e.ops.length : Int) < 1))) || (decide ((e.ops.length : Int) > 8))) = badE e
    rw [decide_eq_decide.2 (shf_neg c e.proc), decide_eq_decide.2 (shf_big c e.proc)]; rfl
  unfold canE
  rw [h]; rfl
theorem canH_ren (c : Int) (l : List Ev) : canH (l.map (ren c)) = canH l := by
  unfold canH
  rw [List.length_map, List.all_map]
  congr 2
  funext e
  exact canE_ren c e
structure RS (c : Int) (s s' : PS) : Prop where
  op : ∀ p, s'.op (shf c p) = s.op p
  gn : ∀ p, s'.gn (shf c p) = s.gn p
  kd : s'.kd = s.kd
theorem err_ren {c : Int} {s s' : PS} (h : RS c s s') (e : Ev) : errA s' (ren c e) = errA s e := by
  unfold errA
  simp only [ren, h.op, h.gn]
  rfl
theorem fset_ren {β : Type} {c : Int} {f f' : Int → Option β} (h : ∀ p, f' (shf c p) = f p) (q : Int) (v : β) (p : Int) : fset f' (shf c q) v (shf c p) = fset f q v p := by
  unfold fset
  by_cases e : p = q
  · rw [if_pos e, if_pos (shf_inj.2 e)]
  · rw [if_neg e, if_neg (fun h => e (shf_inj.1 h)), h]
theorem next_ren {c : Int} {s s' : PS} (h : RS c s s') (e : Ev) (d : ByteArray → Option Bool) : RS c (nextA s e d) (nextA s' (ren c e) d) := by
  unfold nextA
  show RS c _ (if (e.kind == 1) = true then (⟨fset s'.op (shf c e.proc) e.ops, s'.gn, d⟩ : PS) else ⟨fdel s'.op (shf c e.proc), fun p => if p = shf c e.proc then e.kind == 4 else s'.gn p, d⟩)
  by_cases h1 : (e.kind == 1) = true
  · rw [if_pos h1, if_pos h1]
    exact ⟨fun p => fset_ren h.op _ _ p, h.gn, rfl⟩
  · rw [if_neg h1, if_neg h1]
    refine ⟨fun p => ?_, fun p => ?_, rfl⟩
    · simp only [fdel]
      by_cases e' : p = e.proc
      · rw [if_pos e', if_pos (shf_inj.2 e')]
      · rw [if_neg e', if_neg (fun h => e' (shf_inj.1 h)), h.op]
    · show (if shf c p = shf c e.proc then e.kind == 4 else s'.gn (shf c p)) = (if p = e.proc then e.kind == 4 else s.gn p)
      by_cases e' : p = e.proc
      · rw [if_pos e', if_pos (shf_inj.2 e')]
      · rw [if_neg e', if_neg (fun h => e' (shf_inj.1 h)), h.gn]
theorem run_ren {c : Int} : ∀ (r : List Ev) (k : Nat) (s s' : PS), RS c s s' → runA s' k (r.map (ren c)) = runA s k r
  | [], k, s, s', h => rfl
  | e :: r, k, s, s', h => by
    rw [List.map_cons]
    unfold runA
    rw [err_ren h, h.kd]
    by_cases h1 : errA s e ≠ 0
    · rw [if_pos h1, if_pos h1]
    · rw [if_neg h1, if_neg h1]
      show (match mixA e.ops s.kd with | none => some (k, 33) | some d => runA (nextA s' (ren c e) d) (k + 1) (r.map (ren c))) = _
      cases mixA e.ops s.kd with
      | none => rfl
      | some d => exact run_ren r (k + 1) _ _ (next_ren h e d)
theorem run0_ren (c : Int) (l : List Ev) : runA s0 0 (l.map (ren c)) = runA s0 0 l := run_ren l 0 s0 s0 ⟨fun _ => rfl, fun _ => rfl, rfl⟩
theorem check_ren (c : Int) (l : List Ev) : pair_Check_f (l.map (ren c)) = pair_Check_f l := by rw [check_ok, check_ok, canH_ren, run0_ren]
theorem rdI_map {α β : Type} (f : α → β) (xs : List α) (i : Int) : rdI (xs.map f) i = (rdI xs i).map f := by
  unfold rdI
  split
  · rw [List.getElem?_map]
  · rfl
theorem setI_map {α β : Type} (f : α → β) (xs : List α) (i : Int) (x : α) : setI (xs.map f) i (f x) = (setI xs i x).map f := by
  unfold setI
  rw [List.map_set]
theorem l8_ren {c : Int} : ∀ (r : List Ev) (k : Nat) (out : List Txn) (m m' : Int → Option Int) (x : Int → Option Int) (o : List Txn), (∀ p, m' (shf c p) = m p) → pair_Txns_l8 k r out m = some (x, o) →
    ∃ x', pair_Txns_l8 k (r.map (ren c)) (out.map (renT c)) m' = some (x', o.map (renT c))
  | [], k, out, m, m', x, o, h, hx => by
    cases hx
    exact ⟨m', rfl⟩
  | e :: r, k, out, m, m', x, o, h, hx => by
    rw [List.map_cons]
    by_cases h1 : (e.kind == 1) = true
    · rw [l8_inv h1] at hx
      rw [l8_inv (e := ren c e) h1]
      unfold app at hx
      by_cases hr : (out.length + 1) * 56 ≤ 140737488355328
      · rw [if_pos hr] at hx
        simp only [Option.bind_some] at hx
        rw [app_ok (by rw [List.length_map]; exact hr)]
        simp only [Option.bind_some]
        have e1 : out.map (renT c) ++ [openT (ren c e) k] = (out ++ [openT e k]).map (renT c) := by rw [List.map_append]; rfl
        rw [e1, List.length_map]
        exact l8_ren r (k + 1) _ _ _ x o (fun p => fset_ren h _ _ p) hx
      · rw [if_neg hr] at hx; cases hx
    · rw [l8_done h1] at hx
      rw [l8_done (e := ren c e) h1]
      have e1 : (m' (ren c e).proc).getD 0 = (m e.proc).getD 0 := by rw [show (ren c e).proc = shf c e.proc from rfl, h]
      rw [e1, rdI_map]
      cases hu : rdI out ((m e.proc).getD 0) with
      | none => rw [hu] at hx; cases hx
      | some u =>
        rw [hu] at hx
        simp only [Option.bind_some, Option.map_some] at hx ⊢
        have e2 : doneT (ren c e) k (renT c u) = renT c (doneT e k u) := rfl
        rw [e2, setI_map]
        exact l8_ren r (k + 1) _ _ _ x o h hx
theorem txns_none {l : List Ev} (hc : canH l = true) (hr : runA s0 0 l = none) : pair_Txns_f l = (pair_Txns_l8 0 l [] fnil).bind fun x => some (x.2, none) := by
  unfold pair_Txns_f
  rw [check_ok, if_pos hc, hr]
  simp only [Option.bind_some, Option.map_none]
  rw [if_neg (by decide)]
theorem rem_ok {c p : Int} (h0 : 0 ≤ c) (h1 : c ≤ 98) (h2 : 0 ≤ p) (h3 : p ≤ 99) : remI .i64 (IntKind.i64.wrap (IntKind.i64.wrap (p + 1) + IntKind.i64.wrap c)) 100 = some (shf c p) := by
  rw [wrap_small (i := p + 1) (by omega) (by omega), wrap_small (i := c) (by omega) (by omega), wrap_small (by omega) (by omega)]
  unfold remI shf
  rw [if_neg (by decide), if_pos ⟨h2, h3⟩, Int.tmod_eq_emod_of_nonneg (by omega)]
theorem ren_l (a1 c : Int) (hc : remI .u64 (IntKind.u64.wrap a1) 99 = some c) (h0 : 0 ≤ c) (h1 : c ≤ 98) : ∀ (r k : Nat) (ys : List Ev), k + r = ys.length → assayerlaw03_PairApart_l3 a1 k r ys = some (ys.take k ++ (ys.drop k).map (ren c))
  | 0, k, ys, h => by
    rw [List.drop_of_length_le (by omega), List.take_of_length_le (by omega)]; simp [assayerlaw03_PairApart_l3]
  | r + 1, k, ys, h => by
    have hk : k < ys.length := by omega
    unfold assayerlaw03_PairApart_l3
    rw [rdI_at hk]
    simp only [Option.bind_some]
    by_cases hx : 0 ≤ ys[k].proc ∧ ys[k].proc ≤ 99
    · rw [if_pos (by rw [Bool.and_eq_true, decide_eq_true_eq, decide_eq_true_eq]; exact hx), hc]
      simp only [Option.bind_some]
      rw [rem_ok h0 h1 hx.1 hx.2]
      simp only [Option.bind_some]
      rw [ren_l a1 c hc h0 h1 r (k + 1) _ (by rw [setI_len]; omega)]
      unfold setI
      rw [Int.toNat_natCast, (set_take hk _).1, (set_take hk _).2, List.drop_eq_getElem_cons hk, List.map_cons, List.append_assoc]
      rfl
    · rw [if_neg (by rw [Bool.and_eq_true, decide_eq_true_eq, decide_eq_true_eq]; exact hx), ren_l a1 c hc h0 h1 r (k + 1) _ (by omega), List.drop_eq_getElem_cons hk, List.map_cons, List.take_succ_eq_append_getElem hk, List.append_assoc]
      have : ren c ys[k] = ys[k] := by
        unfold ren shf
        rw [if_neg hx]
      rw [this]; rfl
theorem back_l (c : Int) (u : (List Txn) × (Option Flt)) : ∀ (r k : Nat), k + r = u.1.length → assayerlaw03_PairApart_l15 u k r (u.1.take k ++ (u.1.drop k).map (renT c)) = some u.1
  | 0, k, h => by
    rw [List.drop_of_length_le (by omega), List.take_of_length_le (by omega)]; simp [assayerlaw03_PairApart_l15]
  | r + 1, k, h => by
    have hk : k < u.1.length := by omega
    have hl : (u.1.take k).length = k := by rw [List.length_take]; omega
    unfold assayerlaw03_PairApart_l15
    rw [rdI_at hk]
    simp only [Option.bind_some]
    have e1 : u.1.take k ++ (u.1.drop k).map (renT c) = u.1.take k ++ renT c u.1[k] :: (u.1.drop (k + 1)).map (renT c) := by rw [List.drop_eq_getElem_cons hk, List.map_cons]
    have e2 : rdI (u.1.take k ++ (u.1.drop k).map (renT c)) (k : Int) = some (renT c u.1[k]) := by
      rw [rdI_at (by rw [List.length_append, hl, List.length_map, List.length_drop]; omega)]
      simp only [e1]
      rw [List.getElem_append_right (by omega)]
      simp [hl]
    rw [e2]
    simp only [Option.bind_some]
    have e3 : setI (u.1.take k ++ (u.1.drop k).map (renT c)) (k : Int) (⟨u.1[k].proc, (renT c u.1[k]).state, (renT c u.1[k]).from_, (renT c u.1[k]).to, (renT c u.1[k]).ops⟩ : Txn) = u.1.take (k + 1) ++ (u.1.drop (k + 1)).map (renT c) := by
      unfold setI
      rw [Int.toNat_natCast, e1, List.set_append_right _ _ (by omega), hl, Nat.sub_self, List.set_cons_zero, List.take_succ_eq_append_getElem hk, List.append_assoc]
      rfl
    rw [e3]
    exact back_l c u r (k + 1) (by omega)
theorem sameT (t : Txn) : assayerplain_SameTxn_f t t = some true := by
  unfold assayerplain_SameTxn_f
  rw [sameOs]
  simp
theorem sameTs_l (ys : List Txn) : ∀ (r : List Txn) (k : Nat), r = ys.drop k → slices_EqualFunc_Txn_assayerplain_SameTxn_l4 ys k r = some (.inr ())
  | [], k, h => rfl
  | x :: r, k, h => by
    obtain ⟨hk, rfl, h'⟩ := drop_next h.symm
    unfold slices_EqualFunc_Txn_assayerplain_SameTxn_l4
    rw [rdI_at hk]
    simp only [Option.bind_some]
    rw [sameT]
    simp only [Option.bind_some]
    rw [if_neg (by decide)]
    exact sameTs_l ys r (k + 1) h'
theorem sameTs (l : List Txn) : assayerplain_SameTxns_f l l = some true := by
  unfold assayerplain_SameTxns_f slices_EqualFunc_Txn_assayerplain_SameTxn_f
  rw [if_neg (by simp), sameTs_l l l 0 rfl]; rfl
theorem pairApart_true (l : List Ev) (by_ : Int) (h : HypE l) {fuel : Nat} (hf : 140737488351233 < fuel) : assayerlaw03_PairApart_f fuel l by_ = some true := by
  unfold assayerlaw03_PairApart_f
  obtain ⟨c, hc, h0, h1⟩ : ∃ c, remI .u64 (IntKind.u64.wrap by_) 99 = some c ∧ 0 ≤ c ∧ c ≤ 98 := by
    have h0 := u64_nn by_
    generalize IntKind.u64.wrap by_ = x at h0
    refine ⟨x % 99, ?_, by omega, by omega⟩
    unfold remI
    rw [if_neg (by decide), Int.tmod_eq_emod_of_nonneg h0]
  rw [evs_ok h]
  simp only [Option.bind_some]
  rw [Int.toNat_natCast, ren_l by_ c hc h0 h1 l.length 0 l (by simp)]
  simp only [Option.bind_some, List.take_zero, List.nil_append, List.drop_zero]
  obtain ⟨at_, why, h2, h3 | h3⟩ := bothT l h.keys hf
  · obtain ⟨rfl, h4, h5, h6⟩ := h3
    have hl : l.length ≤ 300 := by
      unfold canH at h4
      rw [Bool.and_eq_true, decide_eq_true_eq] at h4
      omega
    obtain ⟨x, out, a, -⟩ := txns_l l hl l 0 [] fnil s0 rfl h5 (TI0 l)
    obtain ⟨x', b⟩ := l8_ren (c := c) l 0 [] fnil fnil x out (fun _ => rfl) a
    have e1 : pair_Txns_f l = some (out, none) := by rw [txns_none h4 h5, a]; rfl
    have e2 : pair_Txns_f (l.map (ren c)) = some (out.map (renT c), none) := by
      rw [txns_none (by rw [canH_ren]; exact h4) (by rw [run0_ren]; exact h5)]
      rw [show ([] : List Txn).map (renT c) = [] from rfl] at b
      rw [b]; rfl
    rw [e1, e2]
    simp only [Option.bind_some]
    rw [h2]
    simp only [Option.bind_some]
    rw [h6, if_neg (by simp), Int.toNat_natCast]
    have := back_l c (out, (none : Option Flt)) out.length 0 (by simp)
    simp only [List.take_zero, List.nil_append, List.drop_zero] at this
    rw [this]
    simp only [Option.bind_some]
    rw [sameTs]; rfl
  · obtain ⟨hw, f, h4, h5⟩ := h3
    rw [txns_err h4, txns_err (l := l.map (ren c)) (by rw [check_ren]; exact h4)]
    simp only [Option.bind_some]
    rw [h2]
    simp only [Option.bind_some]
    rw [h5, if_neg (by simp)]
    have : assayerlaw03_PairApart_l15 ([], some f) 0 ((([] : List Txn).length : Int)).toNat [] = some [] := rfl
    rw [this]
    simp only [Option.bind_some]
    rw [sameTs]; rfl
end Go.Proofs.YtemdmpgekegfhaaDoor
