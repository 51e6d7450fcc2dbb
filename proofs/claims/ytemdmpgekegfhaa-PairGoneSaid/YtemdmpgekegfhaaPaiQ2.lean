/- What the program's check of a history comes to, event by event. -/
import Derived.Test.YtemdmpgekegfhaaPaiQ1
namespace Go.Proofs.Ytemdmpgekegfhaa
open Go.RowKit
set_option linter.all false
set_option maxRecDepth 10000

deriving instance DecidableEq for Op'
theorem set_take {α : Type} {ys : List α} {k : Nat} (h : k < ys.length) (a : α) : (ys.set k a).take (k + 1) = ys.take k ++ [a] ∧ (ys.set k a).drop (k + 1) = ys.drop (k + 1) := by
  rw [List.set_eq_take_append_cons_drop, if_pos h]
  have hl : (ys.take k).length = k := by rw [List.length_take]; omega
  constructor
  · rw [List.take_append, List.take_of_length_le (by omega), hl]; simp
  · rw [List.drop_append, List.drop_of_length_le (by omega), hl]; simp
/-! ### copies -/
theorem copy_l : ∀ (r k : Nat) (ys : List Op'), k + r = ys.length → histtext_CopyOps_l3 k r ys = some ys
  | 0, k, ys, _ => rfl
  | r + 1, k, ys, h => by
    have hk : k < ys.length := by omega
    unfold histtext_CopyOps_l3
    rw [rdI_at hk]
    simp only [Option.bind_some]
    have e : setI ys (k : Int) (⟨ys[k].kind, ys[k].key, ys[k].value, ys[k].list, ys[k].has, ys[k].isNil⟩ : Op') = ys := by
      unfold setI
      show ys.set k ys[k] = ys
      exact List.set_getElem_self hk
    rw [e]
    exact copy_l r (k + 1) ys (by omega)
theorem copy_ok (l : List Op') : histtext_CopyOps_f l = some l := by
  unfold histtext_CopyOps_f
  rw [Int.toNat_natCast, copy_l l.length 0 l (by simp)]; rfl
def bareO (o : Op') : Op' := if pair_reads_f o = true then ⟨o.kind, o.key, 0, [], false, false⟩ else o
theorem bare_l : ∀ (r k : Nat) (ys : List Op'), k + r = ys.length → pair_bare_l3 k r ys = some (ys.take k ++ (ys.drop k).map bareO)
  | 0, k, ys, h => by
    rw [List.drop_of_length_le (by omega), List.take_of_length_le (by omega)]; simp [pair_bare_l3]
  | r + 1, k, ys, h => by
    have hk : k < ys.length := by omega
    unfold pair_bare_l3
    rw [rdI_at hk]
    simp only [Option.bind_some]
    by_cases hx : pair_reads_f ys[k] = true
    · rw [if_pos hx, bare_l r (k + 1) _ (by rw [setI_len]; omega)]
      unfold setI
      rw [Int.toNat_natCast, (set_take hk _).1, (set_take hk _).2, List.drop_eq_getElem_cons hk, List.map_cons, List.append_assoc]
      unfold bareO
      rw [if_pos hx]; rfl
    · rw [if_neg hx, bare_l r (k + 1) _ (by omega), List.drop_eq_getElem_cons hk, List.map_cons, List.take_succ_eq_append_getElem hk, List.append_assoc]
      have : bareO ys[k] = ys[k] := if_neg hx
      rw [this]; rfl
theorem bare_ok (l : List Op') : pair_bare_f l = some (l.map bareO) := by
  unfold pair_bare_f
  rw [copy_ok]
  simp only [Option.bind_some]
  rw [Int.toNat_natCast, bare_l l.length 0 l (by simp)]
  simp
/-! ### operations that are the same -/
theorem eqA (ys : List Int) : ∀ (r : List Int) (k : Nat), k + r.length = ys.length → slices_Equal_I_l4 ys k r = some (if r = ys.drop k then .inr () else .inl false)
  | [], k, h => by
    unfold slices_Equal_I_l4
    rw [List.drop_of_length_le (by simp at h; omega), if_pos rfl]
  | x :: r, k, h => by
    unfold slices_Equal_I_l4
    simp only [List.length_cons] at h
    have hk : k < ys.length := by omega
    rw [rdI_at hk]
    simp only [Option.bind_some]
    rw [List.drop_eq_getElem_cons hk]
    by_cases e : x = ys[k]
    · rw [if_neg (by simp [e]), eqA ys r (k + 1) (by omega)]
      simp only [e, List.cons.injEq, true_and]
    · rw [if_pos (by simp [e]), if_neg (fun h => e (List.cons.inj h).1)]
theorem eqA_ok (xs ys : List Int) : slices_Equal_I_f xs ys = some (decide (xs = ys)) := by
  unfold slices_Equal_I_f
  by_cases h : xs.length = ys.length
  · rw [if_neg (by simp [h]), eqA ys xs 0 (by omega), List.drop_zero]
    by_cases e : xs = ys <;> simp [e]
  · rw [if_pos (by simp; omega)]
    have : xs ≠ ys := fun e => h (by rw [e])
    simp [this]
theorem sameA (a b : Op') : histtext_SameOps_1_f a b = some (decide (a = b)) := by
  unfold histtext_SameOps_1_f
  rw [key_eq, eqA_ok]
  obtain ⟨a1, a2, a3, a4, a5, a6⟩ := a
  obtain ⟨b1, b2, b3, b4, b5, b6⟩ := b
  simp only [Option.bind_some, Op'.mk.injEq]
  by_cases h : ((((a1 == b1) && decide (a2 = b2)) && (a3 == b3)) && (a5 == b5) && (a6 == b6)) = true
  · rw [if_pos h]
    simp only [Bool.and_eq_true, beq_iff_eq, decide_eq_true_eq] at h
    simp [h]
  · rw [if_neg h]
    simp only [Bool.and_eq_true, beq_iff_eq, decide_eq_true_eq] at h
    congr 1
    symm
    rw [decide_eq_false_iff_not]
    rintro ⟨rfl, rfl, rfl, rfl, rfl, rfl⟩
    exact h ⟨⟨⟨⟨rfl, rfl⟩, rfl⟩, rfl⟩, rfl⟩
theorem sames_l (ys : List Op') : ∀ (r : List Op') (k : Nat), k + r.length = ys.length → slices_EqualFunc_Op_histtext_SameOps_1_l4 ys k r = some (if r = ys.drop k then .inr () else .inl false)
  | [], k, h => by
    unfold slices_EqualFunc_Op_histtext_SameOps_1_l4
    rw [List.drop_of_length_le (by simp at h; omega), if_pos rfl]
  | x :: r, k, h => by
    unfold slices_EqualFunc_Op_histtext_SameOps_1_l4
    simp only [List.length_cons] at h
    have hk : k < ys.length := by omega
    rw [rdI_at hk]
    simp only [Option.bind_some]
    rw [sameA, List.drop_eq_getElem_cons hk]
    simp only [Option.bind_some]
    by_cases e : x = ys[k]
    · rw [if_neg (by simp [e]), sames_l ys r (k + 1) (by omega)]
      simp only [e, List.cons.injEq, true_and]
    · rw [if_pos (by simp [e]), if_neg (fun h => e (List.cons.inj h).1)]
theorem sames_ok (xs ys : List Op') : histtext_SameOps_f xs ys = some (decide (xs = ys)) := by
  unfold histtext_SameOps_f slices_EqualFunc_Op_histtext_SameOps_1_f
  by_cases h : xs.length = ys.length
  · rw [if_neg (by simp [h]), sames_l ys xs 0 (by omega), List.drop_zero]
    by_cases e : xs = ys <;> simp [e]
  · rw [if_pos (by simp; omega)]
    have : xs ≠ ys := fun e => h (by rw [e])
    simp [this]
/-! ### what is lacking, what is filled -/
theorem has1_l : ∀ (r : List Op') (k : Nat), ∃ j : Nat, slices_IndexFunc_Op_pair_table_event_1_l2 k r = if r.any pair_table_event_1_f = true then .inl (j : Int) else .inr ()
  | [], k => ⟨0, rfl⟩
  | x :: r, k => by
    unfold slices_IndexFunc_Op_pair_table_event_1_l2
    by_cases h : pair_table_event_1_f x = true
    · exact ⟨k, by simp [h]⟩
    · obtain ⟨j, hj⟩ := has1_l r (k + 1)
      exact ⟨j, by simp [h, hj]⟩
theorem has1_ok (l : List Op') : slices_ContainsFunc_Op_pair_table_event_1_f l = l.any pair_table_event_1_f := by
  unfold slices_ContainsFunc_Op_pair_table_event_1_f slices_IndexFunc_Op_pair_table_event_1_f
  obtain ⟨j, hj⟩ := has1_l l 0
  rw [hj]
  by_cases h : l.any pair_table_event_1_f = true
  · rw [if_pos h, h]; simp [letF]
  · rw [if_neg h, Bool.eq_false_iff.2 h]; rfl
theorem has2_l : ∀ (r : List Op') (k : Nat), ∃ j : Nat, slices_IndexFunc_Op_pair_table_event_2_l2 k r = if r.any pair_table_event_2_f = true then .inl (j : Int) else .inr ()
  | [], k => ⟨0, rfl⟩
  | x :: r, k => by
    unfold slices_IndexFunc_Op_pair_table_event_2_l2
    by_cases h : pair_table_event_2_f x = true
    · exact ⟨k, by simp [h]⟩
    · obtain ⟨j, hj⟩ := has2_l r (k + 1)
      exact ⟨j, by simp [h, hj]⟩
theorem has2_ok (l : List Op') : slices_ContainsFunc_Op_pair_table_event_2_f l = l.any pair_table_event_2_f := by
  unfold slices_ContainsFunc_Op_pair_table_event_2_f slices_IndexFunc_Op_pair_table_event_2_f
  obtain ⟨j, hj⟩ := has2_l l 0
  rw [hj]
  by_cases h : l.any pair_table_event_2_f = true
  · rw [if_pos h, h]; simp [letF]
  · rw [if_neg h, Bool.eq_false_iff.2 h]; rfl
/-! ### the state of a check -/
structure PS where
  op : Int → Option (List Op')
  gn : Int → Bool
  kd : ByteArray → Option Bool
def errA (s : PS) (e : Ev) : Int :=
  if (e.kind == 1 && ((s.op e.proc).isSome || s.gn e.proc)) = true then 30
  else if (e.kind != 1 && !(s.op e.proc).isSome) = true then 31
  else if (e.kind == 2 && e.ops.any pair_table_event_2_f) = true then 32
  else if (e.kind != 2 && e.ops.any pair_table_event_1_f) = true then 32
  else match s.op e.proc with
    | some a => if a.map bareO = e.ops.map bareO then 0 else 32
    | none => 0
def mixA : List Op' → (ByteArray → Option Bool) → Option (ByteArray → Option Bool)
  | [], f => some f
  | o :: r, f => if ((f o.key).isSome && !((f o.key).getD false == pair_listed_f o)) = true then none else mixA r (fset f o.key (pair_listed_f o))
def nextA (s : PS) (e : Ev) (d : ByteArray → Option Bool) : PS :=
  if (e.kind == 1) = true then ⟨fset s.op e.proc e.ops, s.gn, d⟩ else ⟨fdel s.op e.proc, fun p => if p = e.proc then e.kind == 4 else s.gn p, d⟩
def runA : PS → Nat → List Ev → Option (Nat × Int)
  | _, _, [] => none
  | s, k, e :: r => if errA s e ≠ 0 then some (k, errA s e) else match mixA e.ops s.kd with
    | none => some (k, 33)
    | some d => runA (nextA s e d) (k + 1) r
theorem mix_l (p2 : Int → Option Int) (p3 : Int → Option Bool) : ∀ (r : List Op') (k : Nat) (d : ByteArray → Option Bool), ∃ st, pair_table_event_l19 p2 p3 k r d = match mixA r d with | some d' => .inr d' | none => .inl (33, st)
  | [], k, d => ⟨⟨p2, p3, d⟩, rfl⟩
  | o :: r, k, d => by
    unfold pair_table_event_l19 mixA
    by_cases h : ((d o.key).isSome && !((d o.key).getD false == pair_listed_f o)) = true
    · exact ⟨_, by rw [if_pos h, if_pos h]⟩
    · obtain ⟨st, hst⟩ := mix_l p2 p3 r (k + 1) (fset d o.key (pair_listed_f o))
      exact ⟨st, by rw [if_neg h, if_neg h]; exact hst⟩
structure Rel (l : List Ev) (k : Nat) (o : Int → Option Int) (g : Int → Option Bool) (d : ByteArray → Option Bool) (s : PS) : Prop where
  op : ∀ p i, o p = some i → ∃ n : Nat, ∃ h : n < l.length, i = (n : Int) ∧ n < k ∧ s.op p = some l[n].ops
  no : ∀ p, o p = none → s.op p = none
  gn : ∀ p, (g p).getD false = s.gn p
  kd : d = s.kd
theorem Rel.some {l : List Ev} {k : Nat} {o : Int → Option Int} {g : Int → Option Bool} {d : ByteArray → Option Bool} {s : PS} (h : Rel l k o g d s) (p : Int) : (o p).isSome = (s.op p).isSome := by
  cases ho : o p with
  | none => rw [h.no p ho]; rfl
  | some i => obtain ⟨n, _, _, _, e⟩ := h.op p i ho; rw [e]; rfl
theorem Rel.next {l : List Ev} {k : Nat} (hk : k < l.length) {o : Int → Option Int} {g : Int → Option Bool} {d d' : ByteArray → Option Bool} {s : PS} (h : Rel l k o g d s) :
    Rel l (k + 1) (if (l[k].kind == 1) = true then (fset o l[k].proc (k : Int), g) else (fdel o l[k].proc, fset g l[k].proc (l[k].kind == 4))).1 (if (l[k].kind == 1) = true then (fset o l[k].proc (k : Int), g) else (fdel o l[k].proc, fset g l[k].proc (l[k].kind == 4))).2 d' (nextA s l[k] d') := by
  unfold nextA
  by_cases h1 : (l[k].kind == 1) = true
  · simp only [if_pos h1]
    refine ⟨fun p i hp => ?_, fun p hp => ?_, h.gn, rfl⟩
    · unfold fset at hp ⊢
      by_cases e : p = l[k].proc
      · simp only [if_pos e] at hp ⊢
        exact ⟨k, hk, (Option.some.inj hp).symm, Nat.lt_succ_self _, rfl⟩
      · simp only [if_neg e] at hp ⊢
        obtain ⟨n, h1, h2, h3, h4⟩ := h.op p i hp
        exact ⟨n, h1, h2, by omega, h4⟩
    · unfold fset at hp ⊢
      by_cases e : p = l[k].proc
      · simp only [if_pos e] at hp; cases hp
      · simp only [if_neg e] at hp ⊢; exact h.no p hp
  · simp only [if_neg h1]
    refine ⟨fun p i hp => ?_, fun p hp => ?_, fun p => ?_, rfl⟩
    · unfold fdel at hp ⊢
      by_cases e : p = l[k].proc
      · simp only [if_pos e] at hp; cases hp
      · simp only [if_neg e] at hp ⊢
        obtain ⟨n, h1, h2, h3, h4⟩ := h.op p i hp
        exact ⟨n, h1, h2, by omega, h4⟩
    · unfold fdel at hp ⊢
      by_cases e : p = l[k].proc
      · simp only [if_pos e]
      · simp only [if_neg e] at hp ⊢; exact h.no p hp
    · unfold fset
      by_cases e : p = l[k].proc
      · simp only [if_pos e]; rfl
      · simp only [if_neg e]; exact h.gn p
/-- One event. -/
theorem event_ok {l : List Ev} {k : Nat} (hk : k < l.length) {o : Int → Option Int} {g : Int → Option Bool} {d : ByteArray → Option Bool} {s : PS} (h : Rel l k o g d s) :
    ∃ w st, pair_table_event_f ⟨o, g, d⟩ l (k : Int) = some (w, st) ∧ ((errA s l[k] ≠ 0 ∧ w = errA s l[k]) ∨ (errA s l[k] = 0 ∧ mixA l[k].ops s.kd = none ∧ w = 33) ∨ (errA s l[k] = 0 ∧ w = 0 ∧ ∃ d', mixA l[k].ops s.kd = some d' ∧ Rel l (k + 1) st.open_ st.gone st.kinds (nextA s l[k] d'))) := by
  unfold pair_table_event_f
  rw [rdI_at hk]
  simp only [Option.bind_some]
  rw [h.some, h.gn, has1_ok, has2_ok]
  by_cases c1 : (l[k].kind == 1 && ((s.op l[k].proc).isSome || s.gn l[k].proc)) = true
  · rw [if_pos c1]
    have : errA s l[k] = 30 := by unfold errA; rw [if_pos c1]
    exact ⟨_, _, rfl, .inl ⟨by rw [this]; decide, this.symm⟩⟩
  · by_cases c2 : (l[k].kind != 1 && !(s.op l[k].proc).isSome) = true
    · rw [if_neg c1, if_pos c2]
      have : errA s l[k] = 31 := by unfold errA; rw [if_neg c1, if_pos c2]
      exact ⟨_, _, rfl, .inl ⟨by rw [this]; decide, this.symm⟩⟩
    · by_cases c3 : (l[k].kind == 2 && l[k].ops.any pair_table_event_2_f) = true
      · rw [if_neg c1, if_neg c2, if_pos c3]
        have : errA s l[k] = 32 := by unfold errA; rw [if_neg c1, if_neg c2, if_pos c3]
        exact ⟨_, _, rfl, .inl ⟨by rw [this]; decide, this.symm⟩⟩
      · by_cases c4 : (l[k].kind != 2 && l[k].ops.any pair_table_event_1_f) = true
        · rw [if_neg c1, if_neg c2, if_neg c3, if_pos c4]
          have : errA s l[k] = 32 := by unfold errA; rw [if_neg c1, if_neg c2, if_neg c3, if_pos c4]
          exact ⟨_, _, rfl, .inl ⟨by rw [this]; decide, this.symm⟩⟩
        · rw [if_neg c1, if_neg c2, if_neg c3, if_neg c4]
          have hE : errA s l[k] = match s.op l[k].proc with | some a => if a.map bareO = l[k].ops.map bareO then 0 else 32 | none => 0 := by
            unfold errA; rw [if_neg c1, if_neg c2, if_neg c3, if_neg c4]
          have fin : errA s l[k] = 0 → ∃ w st, (letF (if (l[k].kind == 1) = true then (fset o l[k].proc (k : Int), g) else (fdel o l[k].proc, fset g l[k].proc (l[k].kind == 4))) fun x => match x with | (zj18_p2, zj18_p3) => letF (pair_table_event_l19 zj18_p2 zj18_p3 0 l[k].ops d) fun x => match x with | .inl z19_r => (some z19_r) | .inr z19_p4 => (some (0, (⟨zj18_p2, zj18_p3, z19_p4⟩ : PTab)))) = some (w, st) ∧ ((errA s l[k] ≠ 0 ∧ w = errA s l[k]) ∨ (errA s l[k] = 0 ∧ mixA l[k].ops s.kd = none ∧ w = 33) ∨ (errA s l[k] = 0 ∧ w = 0 ∧ ∃ d', mixA l[k].ops s.kd = some d' ∧ Rel l (k + 1) st.open_ st.gone st.kinds (nextA s l[k] d'))) := by
            intro h0
            have hN := fun d' => Rel.next (d' := d') hk h
            generalize (if (l[k].kind == 1) = true then (fset o l[k].proc (k : Int), g) else (fdel o l[k].proc, fset g l[k].proc (l[k].kind == 4))) = X at hN ⊢
            obtain ⟨p2, p3⟩ := X
            obtain ⟨st, hst⟩ := mix_l p2 p3 l[k].ops 0 d
            unfold letF
            simp only []
            rw [hst, h.kd]
            cases hm : mixA l[k].ops s.kd with
            | none => exact ⟨_, _, rfl, .inr (.inl ⟨h0, rfl, rfl⟩)⟩
            | some d' => exact ⟨_, _, rfl, .inr (.inr ⟨h0, rfl, d', rfl, hN d'⟩)⟩
          cases ho : o l[k].proc with
          | none =>
            have hs := h.no _ ho
            rw [if_neg (by rw [hs]; simp)]
            exact fin (by rw [hE, hs])
          | some i =>
            obtain ⟨n, hn, rfl, hnk, hs⟩ := h.op _ _ ho
            rw [if_pos (by rw [hs]; rfl)]
            simp only [Option.getD_some]
            rw [rdI_at hn]
            simp only [Option.bind_some]
            rw [bare_ok, bare_ok]
            simp only [Option.bind_some]
            rw [sames_ok]
            simp only [Option.bind_some]
            rw [hs] at hE
            by_cases c5 : l[n].ops.map bareO = l[k].ops.map bareO
            · rw [if_neg (by simp [c5])]
              exact fin (by rw [hE]; exact if_pos c5)
            · rw [if_pos (by simp [c5])]
              have : errA s l[k] = 32 := by rw [hE]; exact if_neg c5
              exact ⟨_, _, rfl, .inl ⟨by rw [this]; decide, this.symm⟩⟩
theorem check_l (l : List Ev) : ∀ (r : List Ev) (k : Nat) (o : Int → Option Int) (g : Int → Option Bool) (d : ByteArray → Option Bool) (s : PS), r = l.drop k → Rel l k o g d s →
    ∃ x, pair_Check_l5 l k r o g d = some (match runA s k r with | some (i, w) => .inl (some ⟨(i : Int), w⟩) | none => .inr x)
  | [], k, o, g, d, s, _, _ => ⟨_, rfl⟩
  | e :: r, k, o, g, d, s, hr, h => by
    obtain ⟨hk, rfl, hr'⟩ := drop_next hr.symm
    obtain ⟨w, st, he, hc⟩ := event_ok hk h
    unfold pair_Check_l5 runA
    rw [he]
    simp only [Option.bind_some]
    rcases hc with ⟨h1, rfl⟩ | ⟨h1, h2, rfl⟩ | ⟨h1, rfl, d', h2, h3⟩
    · rw [if_pos (by simpa using h1), if_pos h1]
      exact ⟨(o, g, d), rfl⟩
    · rw [if_pos (by decide), if_neg (by simp [h1]), h2]
      exact ⟨(o, g, d), rfl⟩
    · rw [if_neg (by decide), if_neg (by simp [h1]), h2]
      exact check_l l r (k + 1) _ _ _ _ hr' h3
def s0 : PS := ⟨fnil, fun _ => false, fnil⟩
theorem check_ok (l : List Ev) : pair_Check_f l = some (if canH l = true then (runA s0 0 l).map (fun p => (⟨(p.1 : Int), p.2⟩ : Flt)) else some ⟨0, 1⟩) := by
  unfold pair_Check_f
  rw [canA]
  simp only [Option.bind_some]
  by_cases hc : canH l = true
  · rw [if_neg (by simp [hc]), if_pos hc]
    obtain ⟨x, hx⟩ := check_l l l 0 fnil fnil fnil s0 rfl ⟨(fun p i h => by cases h), fun _ _ => rfl, fun _ => rfl, rfl⟩
    rw [hx]
    cases runA s0 0 l with
    | none => rfl
    | some p => rfl
  · rw [if_pos (by simp [hc]), if_neg hc]
end Go.Proofs.Ytemdmpgekegfhaa
