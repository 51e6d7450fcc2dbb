/- What a table has of its transactions' writes: the program's and the document's. -/
import Derived.Test.YtemdmpgekegfhaaTab3
import Derived.Test.YtemdmpgekegfhaaPq
import Derived.Test.YtemdmpgekegfhaaSmall
namespace Go.Proofs.Ytemdmpgekegfhaa
open Go.RowKit
set_option linter.all false
set_option maxRecDepth 10000

theorem set_take {α : Type} {ys : List α} {k : Nat} (h : k < ys.length) (a : α) : (ys.set k a).take (k + 1) = ys.take k ++ [a] ∧ (ys.set k a).drop (k + 1) = ys.drop (k + 1) := by
  rw [List.set_eq_take_append_cons_drop, if_pos h]
  have hl : (ys.take k).length = k := by rw [List.length_take]; omega
  constructor
  · rw [List.take_append, List.take_of_length_le (by omega), hl]; simp
  · rw [List.drop_append, List.drop_of_length_le (by omega), hl]; simp
theorem copied_l : ∀ (r k : Nat) (ys : List Op'), k + r = ys.length → table_copied_l3 k r ys = some ys
  | 0, k, ys, _ => rfl
  | r + 1, k, ys, h => by
    have hk : k < ys.length := by omega
    unfold table_copied_l3
    rw [rdI_at hk]
    simp only [Option.bind_some]
    have e : setI ys (k : Int) (⟨ys[k].kind, ys[k].key, ys[k].value, ys[k].list, ys[k].has, ys[k].isNil⟩ : Op') = ys := by
      unfold setI
      show ys.set k ys[k] = ys
      exact List.set_getElem_self hk
    rw [e]
    exact copied_l r (k + 1) ys (by omega)
theorem copied_ok (t : Txn) : table_copied_f t = some t := by
  unfold table_copied_f
  rw [Int.toNat_natCast, copied_l t.ops.length 0 t.ops (by simp)]; rfl
def plc (o : Op') : Place := ⟨o.key, o.value⟩
def wOps (i : Nat) : Nat → List Op' → Place → List Wr
  | _, [], _ => []
  | k, o :: r, p => if table_writes_f o = true ∧ plc o = p then ⟨(i : Int), (k : Int)⟩ :: wOps i (k + 1) r p else wOps i (k + 1) r p
def wTx : Nat → List Txn → Place → List Wr
  | _, [], _ => []
  | i, t :: r, p => wOps i 0 t.ops p ++ wTx (i + 1) r p
theorem wOps_len (i : Nat) : ∀ (r : List Op') (k : Nat) (p : Place), (wOps i k r p).length ≤ r.length
  | [], k, p => Nat.le_refl _
  | o :: r, k, p => by
    unfold wOps
    have := wOps_len i r (k + 1) p
    split <;> simp only [List.length_cons] <;> omega
theorem wTx_len : ∀ (r : List Txn) (i : Nat) (p : Place), (∀ t ∈ r, t.ops.length ≤ 10) → (wTx i r p).length ≤ 10 * r.length
  | [], i, p, _ => Nat.le_refl _
  | t :: r, i, p, h => by
    unfold wTx
    have h1 := wOps_len i t.ops 0 p
    have h2 := wTx_len r (i + 1) p fun u hu => h u (List.mem_cons_of_mem _ hu)
    have h3 := h t (by simp)
    simp only [List.length_append, List.length_cons]; omega
theorem wTx_append : ∀ (r q : List Txn) (i : Nat) (p : Place), wTx i (r ++ q) p = wTx i r p ++ wTx (i + r.length) q p
  | [], q, i, p => by simp [wTx]
  | t :: r, q, i, p => by
    simp only [List.cons_append, wTx, List.length_cons]
    rw [wTx_append r q (i + 1) p, List.append_assoc, show i + 1 + r.length = i + (r.length + 1) by omega]
theorem new7 (i : Nat) : ∀ (r : List Op') (k : Nat) (w : Place → Option (List Wr)) (d : ByteArray → Option Int), (∀ p, ((w p).getD []).length + r.length ≤ 1000) →
    ∃ w' d', table_New_l7 i k r w d = some (w', d') ∧ ∀ p, (w' p).getD [] = (w p).getD [] ++ wOps i k r p
  | [], k, w, d, _ => ⟨w, d, rfl, fun p => by simp [wOps]⟩
  | o :: r, k, w, d, h => by
    simp only [List.length_cons] at h
    have plain : ∀ d2, ¬ table_writes_f o = true → ∃ w' d', table_New_l7 i (k + 1) r w d2 = some (w', d') ∧ ∀ p, (w' p).getD [] = (w p).getD [] ++ wOps i k (o :: r) p := fun d2 hn => by
      obtain ⟨w', d', h1, h2⟩ := new7 i r (k + 1) w d2 fun p => by have := h p; omega
      exact ⟨w', d', h1, fun p => by rw [h2]; unfold wOps; rw [if_neg (fun c => hn c.1)]; cases r <;> simp [wOps]⟩
    unfold table_New_l7
    generalize hX : ((if (o.kind == 1) = true then (.inl 1) else (if (o.kind == 2) = true then (.inl 1) else (if (o.kind == 3) = true then (.inl 3) else (if (o.kind == 4) = true then (.inl 3) else (.inr ())))) : (Int ⊕ Unit))) = X
    cases X with
    | inr u =>
      have hn : ¬ table_writes_f o = true := fun hw => by
        unfold table_writes_f at hw
        have : o.kind = 1 ∨ o.kind = 3 := by simpa using hw
        rcases this with e | e <;> rw [e] at hX <;> simp at hX
      exact plain d hn
    | inl c =>
      show ∃ w' d', (if table_writes_f o = true then _ else _) = some (w', d') ∧ _
      by_cases hw : table_writes_f o = true
      · rw [if_pos hw, app_ok (by have := h (⟨o.key, o.value⟩ : Place); omega)]
        simp only [Option.bind_some]
        obtain ⟨w', d', h1, h2⟩ := new7 i r (k + 1) (fset w (plc o) ((w (plc o)).getD [] ++ [⟨(i : Int), (k : Int)⟩])) (if (((d o.key).getD 0) == 0) = true then (fset d o.key c) else d) fun p => by
          unfold fset
          have := h p
          by_cases e : p = plc o
          · rw [if_pos e]; subst e; simp only [Option.getD_some, List.length_append, List.length_cons, List.length_nil]; omega
          · rw [if_neg e]; omega
        refine ⟨w', d', h1, fun p => ?_⟩
        rw [h2]
        unfold fset
        by_cases e : p = plc o
        · subst e
          rw [if_pos rfl]
          conv => rhs; unfold wOps
          rw [if_pos ⟨hw, rfl⟩]; simp
        · rw [if_neg e]
          conv => rhs; unfold wOps
          rw [if_neg (fun c => e c.2.symm)]
      · rw [if_neg hw]
        exact plain _ hw
theorem new3 : ∀ (r : List Txn) (i : Nat) (ys : List Txn) (w : Place → Option (List Wr)) (d : ByteArray → Option Int), (∀ t ∈ r, t.ops.length ≤ 10) → ys.length + r.length ≤ 41 → (∀ p, ((w p).getD []).length + 10 * r.length ≤ 990) →
    ∃ w' d', table_New_l3 i r ys w d = some (ys ++ r, ys ++ r, w', d') ∧ ∀ p, (w' p).getD [] = (w p).getD [] ++ wTx i r p
  | [], i, ys, w, d, _, _, _ => ⟨w, d, by simp [table_New_l3], fun p => by simp [wTx]⟩
  | t :: r, i, ys, w, d, ho, hl, hw => by
    simp only [List.length_cons] at hl hw
    have h10 := ho t (by simp)
    unfold table_New_l3
    rw [copied_ok]
    simp only [Option.bind_some]
    rw [app_ok (by omega)]
    simp only [Option.bind_some]
    obtain ⟨w1, d1, h1, h2⟩ := new7 i t.ops 0 w d fun p => by have := hw p; omega
    rw [h1]
    simp only [Option.bind_some]
    obtain ⟨w2, d2, h3, h4⟩ := new3 r (i + 1) (ys ++ [t]) w1 d1 (fun u hu => ho u (List.mem_cons_of_mem _ hu)) (by rw [List.length_append, List.length_singleton]; omega) fun p => by
      rw [h2, List.length_append]
      have := wOps_len i t.ops 0 p
      have := hw p
      omega
    refine ⟨w2, d2, by rw [h3]; simp, fun p => ?_⟩
    rw [h4, h2]
    conv => rhs; unfold wTx
    rw [List.append_assoc]
structure Fit (xs : List Txn) : Prop where
  len : xs.length ≤ 41
  ops : ∀ t ∈ xs, t.ops.length ≤ 10
theorem new_ok {xs : List Txn} (h : Fit xs) : ∃ w d, table_New_f xs = some ⟨xs, d, w, true⟩ ∧ ∀ p, (w p).getD [] = wTx 0 xs p := by
  unfold table_New_f
  obtain ⟨w, d, h1, h2⟩ := new3 xs 0 [] fnil fnil h.ops (by simpa using h.len) (fun p => by have := h.len; simp [fnil]; omega)
  rw [h1]
  exact ⟨w, d, rfl, fun p => by rw [h2]; simp [fnil]⟩
open Classical in
noncomputable def uq (xs : List Txn) : Bool := decide (∀ p, (wTx 0 xs p).length ≤ 1)
theorem uq_iff {xs : List Txn} : uq xs = true ↔ ∀ p, (wTx 0 xs p).length ≤ 1 := by unfold uq; exact @decide_eq_true_iff _ (Classical.propDecidable _)
theorem uq_f {xs : List Txn} (h : ¬ ∀ p, (wTx 0 xs p).length ≤ 1) : uq xs = false := Bool.eq_false_iff.2 fun e => h (uq_iff.1 e)
theorem uniq_ok {xs : List Txn} {w : Place → Option (List Wr)} {d : ByteArray → Option Int} (hw : ∀ p, (w p).getD [] = wTx 0 xs p) : table_Table_Unique_f ⟨xs, d, w, true⟩ = uq xs := by
  unfold table_Table_Unique_f
  rw [if_neg (by simp)]
  by_cases h : ∀ p, (wTx 0 xs p).length ≤ 1
  · rw [if_neg, uq_iff.2 h]
    rintro ⟨p, ys, h1, h2⟩
    have := h p
    rw [← hw] at this
    simp only at h1
    rw [h1] at this
    simp only [Option.getD_some] at this
    rw [decide_eq_true_eq] at h2
    omega
  · rw [if_pos, uq_f h]
    obtain ⟨p, hp⟩ := Classical.not_forall.1 h
    rw [← hw] at hp
    cases hq : w p with
    | none => rw [hq] at hp; simp at hp
    | some ys => rw [hq] at hp; exact ⟨p, ys, hq, by simp only [Option.getD_some] at hp; rw [decide_eq_true_eq]; omega⟩
/-! ### the document's -/
theorem wr6 (key : ByteArray) (val : Int) (i : Nat) : ∀ (r : List Op') (k : Nat) (ys : List Wr), ys.length + r.length ≤ 1000 → assayerref04_Writers_l6 key val i k r ys = some (ys ++ wOps i k r ⟨key, val⟩)
  | [], k, ys, _ => by simp [assayerref04_Writers_l6, wOps]
  | o :: r, k, ys, h => by
    simp only [List.length_cons] at h
    unfold assayerref04_Writers_l6 wOps
    have hc : (((assayerref04_write_f o) && (o.key.toList == key.toList)) && (o.value == val)) = true ↔ table_writes_f o = true ∧ plc o = ⟨key, val⟩ := by
      rw [key_eq]
      unfold plc assayerref04_write_f table_writes_f
      simp only [Bool.and_eq_true, decide_eq_true_eq, beq_iff_eq, Place.mk.injEq, and_assoc]
    by_cases c : (((assayerref04_write_f o) && (o.key.toList == key.toList)) && (o.value == val)) = true
    · rw [if_pos c, if_pos (hc.1 c), app_ok (by omega)]
      simp only [Option.bind_some]
      rw [wr6 key val i r (k + 1) _ (by rw [List.length_append, List.length_singleton]; omega)]
      simp
    · rw [if_neg c, if_neg (fun h => c (hc.2 h)), wr6 key val i r (k + 1) _ (by omega)]
theorem wr3 (key : ByteArray) (val : Int) : ∀ (r : List Txn) (i : Nat) (ys : List Wr), (∀ t ∈ r, t.ops.length ≤ 10) → ys.length + 10 * r.length ≤ 990 → assayerref04_Writers_l3 key val i r ys = some (ys ++ wTx i r ⟨key, val⟩)
  | [], i, ys, _, _ => by simp [assayerref04_Writers_l3, wTx]
  | t :: r, i, ys, ho, h => by
    simp only [List.length_cons] at h
    have h10 := ho t (by simp)
    unfold assayerref04_Writers_l3 wTx
    rw [wr6 key val i t.ops 0 ys (by omega)]
    simp only [Option.bind_some]
    rw [wr3 key val r (i + 1) _ (fun u hu => ho u (List.mem_cons_of_mem _ hu)) (by
      rw [List.length_append]
      have := wOps_len i t.ops 0 ⟨key, val⟩
      omega)]
    simp
theorem wr_ok {xs : List Txn} (h : Fit xs) (key : ByteArray) (val : Int) : assayerref04_Writers_f xs key val = some (wTx 0 xs ⟨key, val⟩) := by
  unfold assayerref04_Writers_f
  rw [wr3 key val xs 0 [] h.ops (by have := h.len; simp; omega)]; rfl
theorem mem_wOps {i : Nat} {q : Wr} {p : Place} : ∀ {r : List Op'} {k : Nat}, q ∈ wOps i k r p ↔ ∃ (j : Nat) (o : Op'), r[j]? = some o ∧ table_writes_f o = true ∧ plc o = p ∧ q = ⟨(i : Int), ((k + j : Nat) : Int)⟩
  | [], k => by simp [wOps]
  | o :: r, k => by
    have ih := mem_wOps (i := i) (q := q) (p := p) (r := r) (k := k + 1)
    unfold wOps
    constructor
    · intro h
      have tl : q ∈ wOps i (k + 1) r p → ∃ (j : Nat) (o' : Op'), (o :: r)[j]? = some o' ∧ table_writes_f o' = true ∧ plc o' = p ∧ q = ⟨(i : Int), ((k + j : Nat) : Int)⟩ := fun h => by
        obtain ⟨j, o', h1, h2, h3, h4⟩ := ih.1 h
        exact ⟨j + 1, o', by simpa using h1, h2, h3, by rw [h4]; congr 2; omega⟩
      split at h
      · rename_i c
        rcases List.mem_cons.1 h with h | h
        · exact ⟨0, o, rfl, c.1, c.2, h⟩
        · exact tl h
      · exact tl h
    · rintro ⟨j, o', h1, h2, h3, h4⟩
      cases j with
      | zero =>
        simp at h1; subst h1
        rw [if_pos ⟨h2, h3⟩]
        exact List.mem_cons.2 (.inl h4)
      | succ j =>
        have : q ∈ wOps i (k + 1) r p := ih.2 ⟨j, o', by simpa using h1, h2, h3, by rw [h4]; congr 2; omega⟩
        split
        · exact List.mem_cons_of_mem _ this
        · exact this
theorem mem_wTx {q : Wr} {p : Place} : ∀ {xs : List Txn} {i : Nat}, q ∈ wTx i xs p ↔ ∃ (a : Nat) (t : Txn) (j : Nat) (o : Op'), xs[a]? = some t ∧ t.ops[j]? = some o ∧ table_writes_f o = true ∧ plc o = p ∧ q = ⟨((i + a : Nat) : Int), (j : Int)⟩
  | [], i => by simp [wTx]
  | t :: r, i => by
    have ih := mem_wTx (q := q) (p := p) (xs := r) (i := i + 1)
    unfold wTx
    rw [List.mem_append, ih, mem_wOps]
    constructor
    · rintro (⟨j, o, h1, h2, h3, h4⟩ | ⟨a, t', j, o, h0, h1, h2, h3, h4⟩)
      · exact ⟨0, t, j, o, rfl, h1, h2, h3, by rw [h4]; simp⟩
      · exact ⟨a + 1, t', j, o, by simpa using h0, h1, h2, h3, by rw [h4]; congr 2; omega⟩
    · rintro ⟨a, t', j, o, h0, h1, h2, h3, h4⟩
      cases a with
      | zero => simp at h0; subst h0; exact .inl ⟨j, o, h1, h2, h3, by rw [h4]; simp⟩
      | succ a => exact .inr ⟨a, t', j, o, by simpa using h0, h1, h2, h3, by rw [h4]; congr 2; omega⟩
def okO (xs : List Txn) (o : Op') : Bool := !table_writes_f o || decide ((wTx 0 xs (plc o)).length ≤ 1)
theorem ru5 {xs : List Txn} (h : Fit xs) : ∀ (r : List Op') (k : Nat), assayerref04_Unique_l5 xs k r = some (if r.all (okO xs) = true then .inr () else .inl false)
  | [], k => rfl
  | o :: r, k => by
    unfold assayerref04_Unique_l5
    rw [wr_ok h, ru5 h r (k + 1), List.all_cons]
    show (if table_writes_f o = true then _ else _) = _
    simp only [Option.bind_some]
    by_cases hw : table_writes_f o = true
    · rw [if_pos hw]
      by_cases hl : (wTx 0 xs ⟨o.key, o.value⟩).length ≤ 1
      · have : okO xs o = true := by unfold okO plc; rw [hw, decide_eq_true hl]; rfl
        rw [if_neg (by rw [decide_eq_true_eq]; omega), this, Bool.true_and]
      · have : okO xs o = false := by unfold okO plc; rw [hw, decide_eq_false hl]; rfl
        rw [if_pos (by rw [decide_eq_true_eq]; omega), this, Bool.false_and]; rfl
    · have : okO xs o = true := by unfold okO; rw [Bool.eq_false_iff.2 hw]; rfl
      rw [if_neg hw, this, Bool.true_and]
theorem ru2 {xs : List Txn} (h : Fit xs) : ∀ (r : List Txn) (k : Nat), assayerref04_Unique_l2 xs k r = some (if (r.all fun t => t.ops.all (okO xs)) = true then .inr () else .inl false)
  | [], k => rfl
  | t :: r, k => by
    unfold assayerref04_Unique_l2
    rw [ru5 h, ru2 h r (k + 1), List.all_cons]
    simp only [Option.bind_some]
    by_cases c : t.ops.all (okO xs) = true
    · rw [if_pos c, c, Bool.true_and]
    · rw [if_neg c, Bool.eq_false_iff.2 c, Bool.false_and]; rfl
theorem ru_ok {xs : List Txn} (h : Fit xs) : assayerref04_Unique_f xs = some (uq xs) := by
  unfold assayerref04_Unique_f
  rw [ru2 h]
  have : (xs.all fun t => t.ops.all (okO xs)) = uq xs := by
    by_cases c : ∀ p, (wTx 0 xs p).length ≤ 1
    · rw [uq_iff.2 c, List.all_eq_true]
      intro t _
      rw [List.all_eq_true]
      intro o _
      unfold okO
      rw [decide_eq_true (c _)]; simp
    · rw [uq_f c, Bool.eq_false_iff]
      intro hall
      apply c
      intro p
      cases hq : wTx 0 xs p with
      | nil => simp
      | cons q l =>
        have hm : q ∈ wTx 0 xs p := by rw [hq]; simp
        obtain ⟨a, t, j, o, h0, h1, h2, h3, -⟩ := mem_wTx.1 hm
        have h4 := List.all_eq_true.1 (List.all_eq_true.1 hall t (List.mem_of_getElem? h0)) o (List.mem_of_getElem? h1)
        unfold okO at h4
        rw [h2, h3, hq] at h4
        simpa using h4
  rw [this]
  simp only [Option.bind_some]
  cases uq xs <;> rfl
end Go.Proofs.Ytemdmpgekegfhaa
