/- The plain laws of TableUnique, TableWriters and TableFinals. -/
import Derived.Test.YtemdmpgekegfhaaTabQ1
namespace Go.Proofs.Ytemdmpgekegfhaa
open Go.RowKit
set_option linter.all false
set_option maxRecDepth 10000

theorem small_fit (l : List Txn) : (small l).length ≤ 40 ∧ ∀ t ∈ small l, t.ops.length ≤ 10 := by
  refine ⟨by unfold small; rw [List.length_map, List.length_take]; omega, fun t ht => ?_⟩
  unfold small at ht
  obtain ⟨u, _, rfl⟩ := List.mem_map.1 ht
  unfold cutT
  simp only [List.length_map, List.length_take]
  omega
theorem fit_small (l : List Txn) : Fit (small l) := ⟨by have := (small_fit l).1; omega, (small_fit l).2⟩
theorem u64_small {x : Int} (h0 : 0 ≤ x) (h1 : x < 18446744073709551616) : IntKind.u64.wrap x = x := by
  have e1 : (2 : Int) ^ 64 = 18446744073709551616 := rfl
  simp only [IntKind.wrap, IntKind.bits, IntKind.signed, e1, Bool.false_and, Bool.false_eq_true, if_false]
  omega
theorem u64_nn (x : Int) : 0 ≤ IntKind.u64.wrap x := by
  have e1 : (2 : Int) ^ 64 = 18446744073709551616 := rfl
  simp only [IntKind.wrap, IntKind.bits, IntKind.signed, e1, Bool.false_and, Bool.false_eq_true, if_false]
  omega
theorem rem_idx {α : Type} (l : List α) (n : Int) (h0 : 0 < l.length) (hl : l.length ≤ 140737488355328) : ∃ x ∈ l, ∃ u, remI .u64 (IntKind.u64.wrap n) (IntKind.u64.wrap (l.length : Int)) = some u ∧ rdI l (IntKind.i64.wrap u) = some x := by
  rw [u64_small (x := (l.length : Int)) (by omega) (by omega)]
  have h1 := u64_nn n
  generalize IntKind.u64.wrap n = x at h1 ⊢
  unfold remI
  rw [if_neg (by omega), show x.tmod (l.length : Int) = x % (l.length : Int) from Int.tmod_eq_emod_of_nonneg h1]
  have h2 := Int.emod_nonneg x (b := (l.length : Int)) (by omega)
  have h3 := Int.emod_lt_of_pos x (b := (l.length : Int)) (by omega)
  obtain ⟨k, hk⟩ : ∃ k : Nat, x % (l.length : Int) = (k : Int) := ⟨(x % (l.length : Int)).toNat, by omega⟩
  rw [hk] at h2 h3 ⊢
  have hkl : k < l.length := by omega
  exact ⟨l[k], List.getElem_mem hkl, _, rfl, by rw [wrap_small (by omega) (by omega), rdI_at hkl]⟩
theorem hasw_l : ∀ (r : List Op') (k : Nat), ∃ j : Nat, slices_IndexFunc_Op_assayerlaw04_TableUnique_1_l2 k r = if r.any table_writes_f = true then .inl (j : Int) else .inr ()
  | [], k => ⟨0, rfl⟩
  | x :: r, k => by
    unfold slices_IndexFunc_Op_assayerlaw04_TableUnique_1_l2
    by_cases h : table_writes_f x = true
    · exact ⟨k, by rw [if_pos (show assayerlaw04_TableUnique_1_f x = true from h)]; simp [h]⟩
    · obtain ⟨j, hj⟩ := hasw_l r (k + 1)
      exact ⟨j, by rw [if_neg (show ¬ assayerlaw04_TableUnique_1_f x = true from h)]; simp [h, hj]⟩
theorem hasw (l : List Op') : slices_ContainsFunc_Op_assayerlaw04_TableUnique_1_f l = l.any table_writes_f := by
  unfold slices_ContainsFunc_Op_assayerlaw04_TableUnique_1_f slices_IndexFunc_Op_assayerlaw04_TableUnique_1_f
  obtain ⟨j, hj⟩ := hasw_l l 0
  rw [hj]
  by_cases h : l.any table_writes_f = true
  · rw [if_pos h, h]; simp [letF]
  · rw [if_neg h, Bool.eq_false_iff.2 h]; rfl
theorem wOps_none {i : Nat} {p : Place} : ∀ {r : List Op'} {k : Nat}, r.any table_writes_f = false → wOps i k r p = []
  | [], k, _ => rfl
  | o :: r, k, h => by
    simp only [List.any_cons, Bool.or_eq_false_iff] at h
    unfold wOps
    rw [if_neg (by rw [h.1]; simp), wOps_none h.2]
/-- With a transaction of its own once more. -/
theorem uq_twice {xs : List Txn} {x : Txn} (hx : x ∈ xs) : uq (xs ++ [x]) = (!x.ops.any table_writes_f && uq xs) := by
  have e : ∀ p, wTx 0 (xs ++ [x]) p = wTx 0 xs p ++ wOps (0 + xs.length) 0 x.ops p := fun p => by
    rw [wTx_append]; simp [wTx]
  cases hw : x.ops.any table_writes_f with
  | false =>
    rw [Bool.not_false, Bool.true_and]
    have : ∀ p, wTx 0 (xs ++ [x]) p = wTx 0 xs p := fun p => by rw [e, wOps_none hw]; simp
    rw [Bool.eq_iff_iff, uq_iff, uq_iff]
    simp only [this]
  | true =>
    rw [Bool.not_true, Bool.false_and]
    refine uq_f fun hall => ?_
    obtain ⟨o, ho, hwo⟩ := List.any_eq_true.1 hw
    obtain ⟨j, hj, rfl⟩ := List.mem_iff_getElem.1 ho
    obtain ⟨a, ha, rfl⟩ := List.mem_iff_getElem.1 hx
    have h1 : (⟨((0 + a : Nat) : Int), (j : Int)⟩ : Wr) ∈ wTx 0 xs (plc (xs[a].ops[j])) := mem_wTx.2 ⟨a, xs[a], j, _, List.getElem?_eq_getElem ha, List.getElem?_eq_getElem hj, hwo, rfl, rfl⟩
    have h2 : (⟨((0 + xs.length : Nat) : Int), ((0 + j : Nat) : Int)⟩ : Wr) ∈ wOps (0 + xs.length) 0 xs[a].ops (plc (xs[a].ops[j])) := mem_wOps.2 ⟨j, _, List.getElem?_eq_getElem hj, hwo, rfl, rfl⟩
    have h3 := hall (plc (xs[a].ops[j]))
    rw [e, List.length_append] at h3
    have := List.length_pos_of_mem h1
    have := List.length_pos_of_mem h2
    omega
theorem tableUnique_true (l : List Txn) (n : Int) : assayerlaw04_TableUnique_f l n = some true := by
  unfold assayerlaw04_TableUnique_f
  have hF := fit_small l
  have h40 := (small_fit l).1
  obtain ⟨w, d, h1, h2⟩ := new_ok hF
  rw [h1]
  simp only [Option.bind_some]
  rw [ru_ok hF]
  simp only [Option.bind_some]
  rw [uniq_ok h2, if_neg (by simp)]
  by_cases h0 : (small l).length = 0
  · rw [if_pos (by simp [h0])]
    have : small l = [] := List.eq_nil_of_length_eq_zero h0
    rw [this]
    exact congrArg some (uq_iff.2 fun p => by simp [wTx])
  · rw [if_neg (by simpa using h0)]
    obtain ⟨x, hx, u, h3, h4⟩ := rem_idx (small l) n (by omega) (by omega)
    rw [h3]
    simp only [Option.bind_some]
    rw [h4]
    simp only [Option.bind_some]
    rw [app_ok (by omega)]
    simp only [Option.bind_some]
    obtain ⟨w2, d2, h5, h6⟩ := new_ok (xs := small l ++ [x]) ⟨by rw [List.length_append, List.length_singleton]; omega, fun t ht => by
      rcases List.mem_append.1 ht with ht | ht
      · exact hF.ops t ht
      · rw [List.mem_singleton.1 ht]; exact hF.ops x hx⟩
    rw [h5]
    simp only [Option.bind_some]
    rw [uniq_ok h6, uq_twice hx, hasw]
    unfold table_Table_Count_f
    rw [wrap_small (by omega) (by omega)]
    simp
/-! ### writers -/
theorem eqb_iff (x y : Wr) : kWr_eqb x y = true ↔ x = y := by
  cases x; cases y
  unfold kWr_eqb
  simp
theorem eqW_l (ys : List Wr) : ∀ (r : List Wr) (k : Nat), r = ys.drop k → slices_Equal_Write_l4 ys k r = some (.inr ())
  | [], k, _ => rfl
  | x :: r, k, h => by
    obtain ⟨hk, rfl, h'⟩ := drop_next h.symm
    unfold slices_Equal_Write_l4
    rw [rdI_at hk]
    simp only [Option.bind_some]
    rw [(eqb_iff _ _).2 rfl, if_neg (by decide)]
    exact eqW_l ys r (k + 1) h'
theorem eqW (ys : List Wr) : slices_Equal_Write_f ys ys = some true := by
  unfold slices_Equal_Write_f
  rw [if_neg (by simp), eqW_l ys ys 0 rfl]; rfl
theorem inW_l (q : Wr) : ∀ (r : List Wr) (k : Nat), ∃ j : Nat, slices_Index_Write_l2 q k r = if q ∈ r then .inl (j : Int) else .inr ()
  | [], k => ⟨0, by simp [slices_Index_Write_l2]⟩
  | x :: r, k => by
    unfold slices_Index_Write_l2
    by_cases h : q = x
    · exact ⟨k, by rw [if_pos ((eqb_iff _ _).2 h), if_pos (by simp [h])]⟩
    · obtain ⟨j, hj⟩ := inW_l q r (k + 1)
      refine ⟨j, ?_⟩
      rw [if_neg (fun c => h ((eqb_iff _ _).1 c)), hj]
      simp only [List.mem_cons, h, false_or]
theorem inW (l : List Wr) (q : Wr) : slices_Contains_Write_f l q = decide (q ∈ l) := by
  unfold slices_Contains_Write_f slices_Index_Write_f
  obtain ⟨j, hj⟩ := inW_l q l 0
  rw [hj]
  by_cases h : q ∈ l
  · rw [if_pos h]; simp [letF, h]
  · rw [if_neg h]; simp [letF, h]
theorem wl9 {l : List Txn} {w : Place → Option (List Wr)} {d : ByteArray → Option Int} (h2 : ∀ p, (w p).getD [] = wTx 0 (small l) p) {a : Nat} {t : Txn} (ha : (small l)[a]? = some t) :
    ∀ (r : List Op') (k : Nat), r = t.ops.drop k → assayerlaw04_TableWriters_l9 l ⟨small l, d, w, true⟩ a k r = some (.inr ())
  | [], k, _ => rfl
  | o :: r, k, h => by
    obtain ⟨hk, ho, h'⟩ := drop_next h.symm
    unfold assayerlaw04_TableWriters_l9 table_Table_Writers_f
    rw [wr_ok (fit_small l)]
    simp only [Option.bind_some]
    rw [h2, eqW]
    simp only [Option.bind_some]
    rw [if_neg (by decide), inW]
    have : ((o.kind == 1) || (o.kind == 3)) = decide ((⟨(a : Int), (k : Int)⟩ : Wr) ∈ wTx 0 (small l) ⟨o.key, o.value⟩) := by
      show table_writes_f o = _
      by_cases hw : table_writes_f o = true
      · rw [hw]; symm; rw [decide_eq_true_eq]
        exact mem_wTx.2 ⟨a, t, k, o, ha, by rw [List.getElem?_eq_getElem hk, ho], hw, rfl, by simp⟩
      · rw [Bool.eq_false_iff.2 hw]; symm; rw [decide_eq_false_iff_not]
        intro hm
        obtain ⟨a', t', j, o', g0, g1, g2, g3, g4⟩ := mem_wTx.1 hm
        have e1 := congrArg Wr.txn g4
        have e2 := congrArg Wr.op g4
        simp only at e1 e2
        obtain rfl : a = a' := by omega
        obtain rfl : k = j := by omega
        rw [ha] at g0; cases g0
        rw [List.getElem?_eq_getElem hk] at g1; cases g1
        rw [ho] at hw
        exact hw g2
    rw [this]
    simp only [beq_self_eq_true, Bool.not_true, Bool.false_eq_true, if_false]
    exact wl9 h2 ha r (k + 1) h'
theorem wl6 {l : List Txn} {w : Place → Option (List Wr)} {d : ByteArray → Option Int} (h2 : ∀ p, (w p).getD [] = wTx 0 (small l) p) :
    ∀ (r : List Txn) (k : Nat), r = (small l).drop k → assayerlaw04_TableWriters_l6 l ⟨small l, d, w, true⟩ k r = some (.inr ())
  | [], k, _ => rfl
  | t :: r, k, h => by
    obtain ⟨hk, ho, h'⟩ := drop_next h.symm
    unfold assayerlaw04_TableWriters_l6
    rw [wl9 h2 (a := k) (t := t) (by rw [List.getElem?_eq_getElem hk, ho]) t.ops 0 rfl]
    simp only [Option.bind_some]
    exact wl6 h2 r (k + 1) h'
theorem tableWriters_true (l : List Txn) (key : ByteArray) (v : Int) : assayerlaw04_TableWriters_f l key v = some true := by
  unfold assayerlaw04_TableWriters_f
  have hF := fit_small l
  obtain ⟨w, d, h1, h2⟩ := new_ok hF
  rw [h1]
  simp only [Option.bind_some]
  rw [wr_ok hF]
  simp only [Option.bind_some]
  unfold table_Table_Writers_f
  rw [h2, eqW]
  simp only [Option.bind_some]
  rw [if_neg (by decide), ru_ok hF]
  simp only [Option.bind_some]
  rw [uniq_ok h2, if_neg (by simp), wl6 h2 (small l) 0 rfl]; rfl
/-! ### final writes -/
def finO (ops : List Op') (k : Nat) : Bool := match ops[k]? with
  | some o => table_writes_f o && !(ops.drop (k + 1)).any (fun q => table_writes_f q && decide (q.key = o.key))
  | none => false
def finS (xs : List Txn) (q : Wr) : Bool := if 0 ≤ q.txn ∧ 0 ≤ q.op then (match xs[q.txn.toNat]? with | some t => finO t.ops q.op.toNat | none => false) else false
theorem f1 {ops : List Op'} {q : Wr} {k : Nat} (hk : k < ops.length) (hq : q.op = (k : Int)) : ∀ (r : List Op') (j : Nat), ∃ i : Nat, slices_IndexFunc_Op_table_Table_Final_1_l2 ops q j r = some (if (r.any fun p => table_writes_f p && decide (p.key = ops[k].key)) = true then .inl (i : Int) else .inr ())
  | [], j => ⟨0, rfl⟩
  | x :: r, j => by
    unfold slices_IndexFunc_Op_table_Table_Final_1_l2 table_Table_Final_1_f
    rw [hq, rdI_at hk]
    simp only [Option.bind_some, key_eq]
    obtain ⟨i, hi⟩ := f1 hk hq r (j + 1)
    by_cases h : table_writes_f x = true
    · by_cases e : x.key = ops[k].key
      · exact ⟨j, by simp [h, e]⟩
      · exact ⟨i, by simp [h, e, hi]⟩
    · exact ⟨i, by simp [h, hi]⟩
theorem f1_ok {ops : List Op'} {q : Wr} {k : Nat} (hk : k < ops.length) (hq : q.op = (k : Int)) (r : List Op') : slices_ContainsFunc_Op_table_Table_Final_1_f r ops q = some (r.any fun p => table_writes_f p && decide (p.key = ops[k].key)) := by
  unfold slices_ContainsFunc_Op_table_Table_Final_1_f slices_IndexFunc_Op_table_Table_Final_1_f
  obtain ⟨i, hi⟩ := f1 hk hq r 0
  rw [hi]
  cases (r.any fun p => table_writes_f p && decide (p.key = ops[k].key))
  · rfl
  · simp
theorem sli_ok {α : Type} {l : List α} {k : Nat} (hk : k < l.length) (hl : l.length ≤ 1000) : sliI l (IntKind.i64.wrap ((k : Int) + 1)) = some (l.drop (k + 1)) := by
  rw [wrap_small (by omega) (by omega)]
  unfold sliI
  rw [if_pos (by omega)]
  rfl
theorem finP {xs : List Txn} (hF : Fit xs) {w : Place → Option (List Wr)} {d : ByteArray → Option Int} (q : Wr) : table_Table_Final_f ⟨xs, d, w, true⟩ q = some (finS xs q) := by
  unfold table_Table_Final_f table_Table_Txn_f table_Table_Count_f finS
  by_cases hin : 0 ≤ q.txn ∧ q.txn < (xs.length : Int)
  · rw [if_neg (by simp; omega)]
    obtain ⟨a, ha⟩ : ∃ a : Nat, q.txn = (a : Int) := ⟨q.txn.toNat, by omega⟩
    have hal : a < xs.length := by omega
    rw [ha, rdI_at hal]
    simp only [Option.bind_some]
    rw [copied_ok]
    simp only [Option.bind_some]
    have h10 := hF.ops _ (List.getElem_mem hal)
    rw [show ((a : Int)).toNat = a from rfl, List.getElem?_eq_getElem hal]
    by_cases hop : 0 ≤ q.op ∧ q.op < (xs[a].ops.length : Int)
    · obtain ⟨k, hk⟩ : ∃ k : Nat, q.op = (k : Int) := ⟨q.op.toNat, by omega⟩
      have hkl : k < xs[a].ops.length := by omega
      rw [if_neg (by simp; omega), if_pos (by omega), hk, rdI_at hkl]
      simp only [Option.bind_some]
      unfold finO
      rw [show ((k : Int)).toNat = k from rfl, List.getElem?_eq_getElem hkl]
      simp only
      by_cases hw : table_writes_f xs[a].ops[k] = true
      · rw [if_neg (by rw [hw]; decide), sli_ok hkl (by omega)]
        simp only [Option.bind_some]
        rw [f1_ok hkl hk, hw]
        simp
      · rw [if_pos (by simp [hw]), Bool.eq_false_iff.2 hw]; rfl
    · rw [if_pos (by simp; omega)]
      by_cases h0 : 0 ≤ q.op
      · rw [if_pos (by omega)]
        unfold finO
        dsimp only
        rw [List.getElem?_eq_none (by omega)]
      · rw [if_neg (by omega)]
  · rw [if_pos (by simp; omega)]
    simp only [Option.bind_some]
    rw [if_pos (by simp; omega)]
    by_cases h0 : 0 ≤ q.txn ∧ 0 ≤ q.op
    · rw [if_pos h0, List.getElem?_eq_none (by omega)]
    · rw [if_neg h0]
theorem f7 {t : Txn} {q : Wr} {k : Nat} (hk : k < t.ops.length) (hq : q.op = (k : Int)) : ∀ (r : List Op') (j : Nat), assayerref04_Final_l7 t q j r = some (if (r.any fun p => table_writes_f p && decide (p.key = t.ops[k].key)) = true then .inl false else .inr ())
  | [], j => rfl
  | x :: r, j => by
    unfold assayerref04_Final_l7
    rw [hq, rdI_at hk, f7 hk hq r (j + 1)]
    simp only [Option.bind_some, key_eq]
    show (if table_writes_f x = true then _ else _) = _
    by_cases h : table_writes_f x = true
    · by_cases e : x.key = t.ops[k].key
      · simp [h, e]
      · simp [h, e]
    · simp [h]
theorem finR {xs : List Txn} (hF : Fit xs) (q : Wr) : assayerref04_Final_f xs q = some (finS xs q) := by
  unfold assayerref04_Final_f finS
  by_cases hin : (0 ≤ q.txn ∧ q.txn < (xs.length : Int)) ∧ 0 ≤ q.op
  · rw [if_neg (by simp; omega)]
    obtain ⟨a, ha⟩ : ∃ a : Nat, q.txn = (a : Int) := ⟨q.txn.toNat, by omega⟩
    have hal : a < xs.length := by omega
    rw [ha, rdI_at hal]
    simp only [Option.bind_some]
    have h10 := hF.ops _ (List.getElem_mem hal)
    rw [show (if 0 ≤ (a : Int) ∧ 0 ≤ q.op then (match xs[(a : Int).toNat]? with | some t => finO t.ops q.op.toNat | none => false) else false) = finO xs[a].ops q.op.toNat from by
      rw [if_pos ⟨by omega, hin.2⟩, show ((a : Int)).toNat = a from rfl, List.getElem?_eq_getElem hal]]
    by_cases hop : q.op < (xs[a].ops.length : Int)
    · obtain ⟨k, hk⟩ : ∃ k : Nat, q.op = (k : Int) := ⟨q.op.toNat, by omega⟩
      have hkl : k < xs[a].ops.length := by omega
      rw [if_neg (by simp; omega), hk, rdI_at hkl]
      simp only [Option.bind_some]
      unfold finO
      rw [show ((k : Int)).toNat = k from rfl, List.getElem?_eq_getElem hkl]
      simp only
      show (if (!(table_writes_f xs[a].ops[k])) = true then _ else _) = _
      by_cases hw : table_writes_f xs[a].ops[k] = true
      · rw [if_neg (by rw [hw]; decide), sli_ok hkl (by omega)]
        simp only [Option.bind_some]
        rw [f7 hkl hk, hw]
        cases ((xs[a].ops.drop (k + 1)).any fun p => table_writes_f p && decide (p.key = xs[a].ops[k].key)) <;> rfl
      · rw [if_pos (by simp [hw]), Bool.eq_false_iff.2 hw]; rfl
    · rw [if_pos (by simp; omega)]
      unfold finO
      rw [List.getElem?_eq_none (by omega)]
  · rw [if_pos (by simp; omega)]
    by_cases h0 : 0 ≤ q.txn ∧ 0 ≤ q.op
    · rw [if_pos h0, List.getElem?_eq_none (by omega)]
    · rw [if_neg h0]
def later (ops : List Op') (k : Nat) (key : ByteArray) : Bool := (ops.drop k).any fun q => table_writes_f q && decide (q.key = key)
theorem fl8 {l : List Txn} {w : Place → Option (List Wr)} {d : ByteArray → Option Int} {a : Nat} {t : Txn} (ha : (small l)[a]? = some t) :
    ∀ (r : List Op') (k : Nat) (f : ByteArray → Option Int), r = t.ops.drop k → (∀ key, f key = none ∨ f key = some (if later t.ops k key = true then 0 else 1)) →
      ∃ f', assayerlaw04_TableFinals_l8 ⟨small l, d, w, true⟩ a l k r f = some (.inr f') ∧ ∀ key, f' key = none ∨ f' key = some 1
  | [], k, f, h, hf => ⟨f, rfl, fun key => by
      have := hf key
      unfold later at this
      rw [← h] at this
      simpa using this⟩
  | o :: r, k, f, h, hf => by
    obtain ⟨hk, ho, h'⟩ := drop_next h.symm
    have hF := fit_small l
    unfold assayerlaw04_TableFinals_l8
    rw [finP hF, finR hF]
    simp only [Option.bind_some]
    rw [if_neg (by simp)]
    have hfin : finS (small l) ⟨(a : Int), (k : Int)⟩ = (table_writes_f o && !later t.ops (k + 1) o.key) := by
      unfold finS
      rw [if_pos (by simp), show ((a : Int)).toNat = a from rfl, ha]
      simp only
      unfold finO later
      rw [show ((k : Int)).toNat = k from rfl, List.getElem?_eq_getElem hk, ho]
    have hl : ∀ key, later t.ops k key = ((table_writes_f o && decide (o.key = key)) || later t.ops (k + 1) key) := fun key => by
      unfold later; rw [List.drop_eq_getElem_cons hk, List.any_cons, ho]
    by_cases hw : table_writes_f o = true
    · have hc : ((o.kind != 1) && (o.kind != 3)) = false := by
        unfold table_writes_f at hw
        rw [bne, bne]
        cases h1 : (o.kind == 1) <;> cases h3 : (o.kind == 3) <;> simp_all
      rw [hc, if_neg (by decide), hfin, hw, Bool.true_and]
      have hcur : (f o.key).getD 0 = 0 := by
        rcases hf o.key with e | e
        · rw [e]; rfl
        · rw [e, hl]; simp [hw]
      have step : ∀ c : Int, c = (if later t.ops (k + 1) o.key = true then 0 else 1) → ∃ f', assayerlaw04_TableFinals_l8 ⟨small l, d, w, true⟩ a l (k + 1) r (fset f o.key c) = some (.inr f') ∧ ∀ key, f' key = none ∨ f' key = some 1 := fun c hc => by
        refine fl8 ha r (k + 1) _ h' fun key => ?_
        unfold fset
        by_cases e : key = o.key
        · rw [if_pos e, e, hc]; exact .inr rfl
        · rw [if_neg e]
          have := hf key
          rw [hl, decide_eq_false (fun h => e h.symm), Bool.and_false, Bool.false_or] at this
          exact this
      rw [hcur]
      by_cases hlt : later t.ops (k + 1) o.key = true
      · rw [hlt, if_neg (by decide)]
        exact step _ (by rw [hlt]; rfl)
      · rw [Bool.eq_false_iff.2 hlt, if_pos (by decide)]
        exact step _ (by rw [Bool.eq_false_iff.2 hlt]; rfl)
    · have hc : ((o.kind != 1) && (o.kind != 3)) = true := by
        unfold table_writes_f at hw
        rw [bne, bne]
        cases h1 : (o.kind == 1) <;> cases h3 : (o.kind == 3) <;> simp_all
      rw [hc, if_pos rfl]
      refine fl8 ha r (k + 1) f h' fun key => ?_
      have := hf key
      rw [hl, Bool.eq_false_iff.2 hw, Bool.false_and, Bool.false_or] at this
      exact this
theorem fl4 {l : List Txn} {w : Place → Option (List Wr)} {d : ByteArray → Option Int} : ∀ (r : List Txn) (k : Nat), r = (small l).drop k → assayerlaw04_TableFinals_l4 ⟨small l, d, w, true⟩ l k r = some (.inr ())
  | [], k, _ => by unfold assayerlaw04_TableFinals_l4; rfl
  | t :: r, k, h => by
    obtain ⟨hk, ho, h'⟩ := drop_next h.symm
    unfold assayerlaw04_TableFinals_l4
    obtain ⟨f', h1, h2⟩ := fl8 (l := l) (w := w) (d := d) (a := k) (t := t) (by rw [List.getElem?_eq_getElem hk, ho]) t.ops 0 fnil rfl (fun _ => .inl rfl)
    rw [h1]
    simp only [Option.bind_some]
    rw [if_neg]
    · exact fl4 r (k + 1) h'
    · rintro ⟨k0, x0, g1, g2⟩
      rcases h2 k0 with e | e
      · rw [e] at g1; cases g1
      · rw [e] at g1
        cases g1
        simp at g2
theorem tableFinals_true (l : List Txn) (a b : Int) : assayerlaw04_TableFinals_f l a b = some true := by
  unfold assayerlaw04_TableFinals_f
  have hF := fit_small l
  obtain ⟨w, d, h1, h2⟩ := new_ok hF
  rw [h1]
  simp only [Option.bind_some]
  rw [fl4 (small l) 0 rfl]
  simp only [Option.bind_some]
  rw [finP hF, finR hF]
  simp
end Go.Proofs.Ytemdmpgekegfhaa
