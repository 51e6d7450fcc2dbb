/- What the document's check of a history comes to, event by event. -/
import Derived.Test.YtemdmpgekegfhaaPaiQ2
namespace Go.Proofs.Ytemdmpgekegfhaa
open Go.RowKit
set_option linter.all false
set_option maxRecDepth 10000

theorem filled_l (b : Bool) : ∀ (r : List Op') (k : Nat), assayerref03_filled_l2 b k r = if r.any (fun o => pair_reads_f o && !(o.has == b)) = true then .inl false else .inr ()
  | [], k => rfl
  | x :: r, k => by
    unfold assayerref03_filled_l2
    show (if (pair_reads_f x && !(x.has == b)) = true then _ else _) = _
    by_cases h : (pair_reads_f x && !(x.has == b)) = true
    · rw [if_pos h]; simp only [List.any_cons, h, Bool.true_or, if_true]
    · rw [if_neg h, filled_l b r (k + 1)]; simp only [List.any_cons, Bool.eq_false_iff.2 h, Bool.false_or]
theorem filled_ok (l : List Op') (b : Bool) : assayerref03_filled_f l b = !l.any (fun o => pair_reads_f o && !(o.has == b)) := by
  unfold assayerref03_filled_f
  rw [filled_l]
  by_cases h : l.any (fun o => pair_reads_f o && !(o.has == b)) = true
  · rw [if_pos h, h]; rfl
  · rw [if_neg h, Bool.eq_false_iff.2 h]; rfl
/-- Do two operations, each of which may be, complete each other. -/
theorem comp_one {a b : Op'} (ha : canO a = true) (hb : canO b = true) : (((a.kind != b.kind) || (!(a.key.toList == b.key.toList))) || (((a.kind == 1) || (a.kind == 3)) && (a.value != b.value))) = !decide (bareO a = bareO b) := by
  have hka : a.kind = 1 ∨ a.kind = 2 ∨ a.kind = 3 ∨ a.kind = 4 := by
    unfold canO canK at ha
    by_cases h1 : a.kind = 1; · exact .inl h1
    by_cases h2 : a.kind = 2; · exact .inr (.inl h2)
    by_cases h3 : a.kind = 3; · exact .inr (.inr (.inl h3))
    by_cases h4 : a.kind = 4; · exact .inr (.inr (.inr h4))
    simp [h1, h2, h3, h4] at ha
  rw [key_eq]
  by_cases hk : a.kind = b.kind
  · by_cases he : a.key = b.key
    · by_cases hr : pair_reads_f a = true
      · have hr2 : pair_reads_f b = true := by unfold pair_reads_f at hr ⊢; rw [← hk]; exact hr
        have : bareO a = bareO b := by unfold bareO; rw [if_pos hr, if_pos hr2, hk, he]
        have h5 : ((a.kind == 1) || (a.kind == 3)) = false := by
          unfold pair_reads_f at hr
          rcases hka with e | e | e | e <;> rw [e] at hr ⊢ <;> first | rfl | (exfalso; simp at hr)
        rw [h5]; simp [hk, he, this]
      · have hr2 : ¬ pair_reads_f b = true := by unfold pair_reads_f at hr ⊢; rw [← hk]; exact hr
        have h5 : ((a.kind == 1) || (a.kind == 3)) = true := by
          unfold pair_reads_f at hr
          rcases hka with e | e | e | e <;> rw [e] at hr ⊢ <;> first | rfl | (exfalso; simp at hr)
        have w : ∀ x : Op', canO x = true → ((x.kind == 1) || (x.kind == 3)) = true → x.list = [] ∧ x.has = false ∧ x.isNil = false := by
          intro x hx h
          unfold canO canK at hx
          have : x.kind = 1 ∨ x.kind = 3 := by simpa using h
          rcases this with e | e <;> simp [e] at hx <;> exact ⟨hx.2.1.1, hx.2.1.2, hx.2.2⟩
        obtain ⟨a1, a2, a3⟩ := w a ha h5
        obtain ⟨b1, b2, b3⟩ := w b hb (by rw [← hk]; exact h5)
        have e1 : bareO a = a := if_neg hr
        have e2 : bareO b = b := if_neg hr2
        rw [e1, e2, h5]
        by_cases hv : a.value = b.value
        · have : a = b := by
            cases a; cases b
            simp only at hk he hv a1 a2 a3 b1 b2 b3
            subst hk he hv a1 a2 a3 b1 b2 b3; rfl
          simp [this]
        · have : a ≠ b := fun h => hv (by rw [h])
          simp [this, hv]
    · have : bareO a ≠ bareO b := fun h => he (by
        have := congrArg Op'.key h
        unfold bareO at this
        split at this <;> split at this <;> exact this)
      simp [he, this]
  · have : bareO a ≠ bareO b := fun h => hk (by
      have := congrArg Op'.kind h
      unfold bareO at this
      split at this <;> split at this <;> exact this)
    simp [hk, this]
theorem comp_l (ys : List Op') (hy : ∀ o ∈ ys, canO o = true) : ∀ (r : List Op') (k : Nat), k + r.length = ys.length → (∀ o ∈ r, canO o = true) → assayerref03_completes_l4 ys k r = some (if r.map bareO = (ys.drop k).map bareO then .inr () else .inl false)
  | [], k, h, _ => by
    unfold assayerref03_completes_l4
    rw [List.drop_of_length_le (by simp at h; omega), if_pos rfl]
  | x :: r, k, h, hr => by
    unfold assayerref03_completes_l4
    simp only [List.length_cons] at h
    have hk : k < ys.length := by omega
    rw [rdI_at hk]
    simp only [Option.bind_some]
    rw [List.drop_eq_getElem_cons hk, comp_one (hr x (by simp)) (hy _ (List.getElem_mem hk)), List.map_cons, List.map_cons]
    by_cases e : bareO x = bareO ys[k]
    · rw [if_neg (by simp [e]), comp_l ys hy r (k + 1) (by omega) fun o ho => hr o (List.mem_cons_of_mem _ ho)]
      simp only [e, List.cons.injEq, true_and]
    · rw [if_pos (by simp [e]), if_neg (fun h => e (List.cons.inj h).1)]
theorem comp_ok (xs ys : List Op') (hx : ∀ o ∈ xs, canO o = true) (hy : ∀ o ∈ ys, canO o = true) : assayerref03_completes_f xs ys = some (decide (xs.map bareO = ys.map bareO)) := by
  unfold assayerref03_completes_f
  by_cases h : xs.length = ys.length
  · rw [if_neg (by simp [h]), comp_l ys hy xs 0 (by omega) hx, List.drop_zero]
    by_cases e : xs.map bareO = ys.map bareO <;> simp [e]
  · rw [if_pos (by simp; omega)]
    have : xs.map bareO ≠ ys.map bareO := fun e => h (by simpa using congrArg List.length e)
    simp [this]
/-! ### keys of two kinds -/
def clash (o p : Op') : Bool := (p.key.toList == o.key.toList) && !(pair_listed_f p == pair_listed_f o)
theorem mixed9 (o : Op') : ∀ (r : List Op') (k : Nat), assayerref03_Mixed_l9 o k r = if r.any (clash o) = true then .inl true else .inr ()
  | [], k => rfl
  | x :: r, k => by
    unfold assayerref03_Mixed_l9
    show (if clash o x = true then _ else _) = _
    by_cases h : clash o x = true
    · rw [if_pos h]; simp only [List.any_cons, h, Bool.true_or, if_true]
    · rw [if_neg h, mixed9 o r (k + 1)]; simp only [List.any_cons, Bool.eq_false_iff.2 h, Bool.false_or]
theorem mixed6 (o : Op') (u : List (List Op')) : ∀ (r k : Nat), k + r = u.length → assayerref03_Mixed_l6 u o k r = some (if (u.drop k).any (fun l => l.any (clash o)) = true then .inl true else .inr ())
  | 0, k, h => by rw [List.drop_of_length_le (by omega)]; rfl
  | r + 1, k, h => by
    have hk : k < u.length := by omega
    unfold assayerref03_Mixed_l6
    rw [rdI_at hk, List.drop_eq_getElem_cons hk, List.any_cons]
    simp only [Option.bind_some]
    rw [mixed9, mixed6 o u r (k + 1) (by omega)]
    unfold letF
    by_cases h : u[k].any (clash o) = true
    · rw [if_pos h, h]; rfl
    · rw [if_neg h, Bool.eq_false_iff.2 h, Bool.false_or]
theorem mixed3 (u : List (List Op')) : ∀ (r : List Op') (k : Nat), assayerref03_Mixed_l3 u k r = some (if r.any (fun o => u.any (fun l => l.any (clash o))) = true then .inl true else .inr ())
  | [], k => rfl
  | x :: r, k => by
    unfold assayerref03_Mixed_l3
    rw [Int.toNat_natCast, mixed6 x u u.length 0 (by simp), mixed3 u r (k + 1), List.drop_zero, List.any_cons]
    simp only [Option.bind_some]
    by_cases h : u.any (fun l => l.any (clash x)) = true
    · rw [if_pos h, h]; rfl
    · rw [if_neg h, Bool.eq_false_iff.2 h, Bool.false_or]
theorem mixed_ok (a : List (List Op')) (l : List Op') (h : a.length ≤ 300) : assayerref03_Mixed_f a l = some (l.any fun o => (a ++ [l]).any fun q => q.any (clash o)) := by
  unfold assayerref03_Mixed_f
  rw [appL_ok (by simp; omega)]
  simp only [Option.bind_some]
  rw [List.nil_append, app_ok (by omega)]
  simp only [Option.bind_some]
  rw [mixed3]
  cases l.any fun o => (a ++ [l]).any fun q => q.any (clash o) <;> rfl
/-- The kinds of keys that were met are those of the operations ahead. -/
def Met (d : ByteArray → Option Bool) (a : List Op') : Prop := (∀ o ∈ a, d o.key = some (pair_listed_f o)) ∧ ∀ k, (∀ o ∈ a, o.key ≠ k) → d k = none
theorem clash_iff (o p : Op') : clash o p = true ↔ p.key = o.key ∧ pair_listed_f p ≠ pair_listed_f o := by
  unfold clash
  rw [key_eq]
  simp
theorem mix_met : ∀ (r a : List Op') (d : ByteArray → Option Bool), Met d a →
    ((∃ d', mixA r d = some d' ∧ Met d' (a ++ r)) ∧ ∀ o ∈ r, ∀ p ∈ a ++ r, clash o p = false) ∨ (mixA r d = none ∧ ∃ o ∈ r, ∃ p ∈ a ++ r, clash o p = true)
  | [], a, d, h => .inl ⟨⟨d, rfl, by simpa using h⟩, fun o ho => by cases ho⟩
  | x :: r, a, d, h => by
    unfold mixA
    have hd : d x.key = none ∨ ∃ p ∈ a, p.key = x.key ∧ d x.key = some (pair_listed_f p) := by
      by_cases hx : ∃ p ∈ a, p.key = x.key
      · obtain ⟨p, hp, e⟩ := hx
        exact .inr ⟨p, hp, e, by rw [← e]; exact h.1 p hp⟩
      · exact .inl (h.2 _ fun o ho e => hx ⟨o, ho, e⟩)
    by_cases c : ((d x.key).isSome && !((d x.key).getD false == pair_listed_f x)) = true
    · rw [if_pos c]
      refine .inr ⟨rfl, x, by simp, ?_⟩
      rcases hd with e | ⟨p, hp, e1, e2⟩
      · rw [e] at c; simp at c
      · rw [e2] at c
        exact ⟨p, List.mem_append_left _ hp, (clash_iff _ _).2 ⟨e1, by simpa using c⟩⟩
    · rw [if_neg c]
      have hno : ∀ p ∈ a, p.key = x.key → pair_listed_f p = pair_listed_f x := fun p hp e => by
        rw [← e, h.1 p hp] at c
        simp only [Option.isSome_some, Option.getD_some, Bool.true_and, Bool.not_eq_true', beq_eq_false_iff_ne, ne_eq, Decidable.not_not] at c
        exact c
      have hM : Met (fset d x.key (pair_listed_f x)) (a ++ [x]) := by
        refine ⟨fun o ho => ?_, fun k hk => ?_⟩
        · unfold fset
          rcases List.mem_append.1 ho with ho | ho
          · by_cases e : o.key = x.key
            · rw [if_pos e, hno o ho e]
            · rw [if_neg e]; exact h.1 o ho
          · rw [List.mem_singleton.1 ho, if_pos rfl]
        · unfold fset
          rw [if_neg (fun e => hk x (by simp) e.symm)]
          exact h.2 k fun o ho => hk o (List.mem_append_left _ ho)
      have ea : a ++ (x :: r) = a ++ [x] ++ r := by simp
      rcases mix_met r (a ++ [x]) _ hM with ⟨⟨d', h1, h2⟩, h3⟩ | ⟨h1, o, ho, p, hp, h2⟩
      · refine .inl ⟨⟨d', h1, by rw [ea]; exact h2⟩, fun o ho p hp => ?_⟩
        rw [ea] at hp
        rcases List.mem_cons.1 ho with e | ho
        · subst e
          rcases List.mem_append.1 hp with hp | hp
          · rcases List.mem_append.1 hp with hp | hp
            · rw [Bool.eq_false_iff]; intro hc
              obtain ⟨e1, e2⟩ := (clash_iff _ _).1 hc
              exact e2 (hno p hp e1)
            · rw [List.mem_singleton.1 hp]
              rw [Bool.eq_false_iff]; intro hc
              exact ((clash_iff _ _).1 hc).2 rfl
          · rw [Bool.eq_false_iff]; intro hc
            obtain ⟨e1, e2⟩ := (clash_iff _ _).1 hc
            have := h3 p hp o (List.mem_append_left _ (by simp))
            rw [Bool.eq_false_iff] at this
            exact this ((clash_iff _ _).2 ⟨e1.symm, fun e => e2 e.symm⟩)
        · exact h3 o ho p hp
      · exact .inr ⟨h1, o, List.mem_cons_of_mem _ ho, p, by rw [ea]; exact hp, h2⟩
/-! ### the document's state beside the program's -/
theorem ps_l : ∀ (r k : Nat) (ys : List Prc), k + r = ys.length → assayerref03_Check_l5 k r ys = some (ys.take k ++ (ys.drop k).map fun p => ⟨p.gone, -1⟩)
  | 0, k, ys, h => by rw [List.drop_of_length_le (by omega), List.take_of_length_le (by omega)]; simp [assayerref03_Check_l5]
  | r + 1, k, ys, h => by
    have hk : k < ys.length := by omega
    unfold assayerref03_Check_l5
    rw [rdI_at hk]
    simp only [Option.bind_some]
    rw [ps_l r (k + 1) _ (by rw [setI_len]; omega)]
    unfold setI
    rw [Int.toNat_natCast, (set_take hk _).1, (set_take hk _).2, List.drop_eq_getElem_cons hk, List.map_cons, List.append_assoc]; rfl
structure RelB (l : List Ev) (k : Nat) (ps : List Prc) (s : PS) : Prop where
  len : ps.length = 100
  op : ∀ (p : Nat) (h : p < ps.length), (ps[p].open_ = -1 ∧ s.op (p : Int) = none) ∨ ∃ n : Nat, ∃ hn : n < l.length, ps[p].open_ = (n : Int) ∧ s.op (p : Int) = some l[n].ops
  gn : ∀ (p : Nat) (h : p < ps.length), ps[p].gone = s.gn (p : Int)
theorem any_split (l : List Op') (e : Int) : (pair_reads_f = fun o => pair_reads_f o) ∧ ((e == 2) = true → (l.any (fun o => pair_reads_f o && !(o.has == (e == 2)))) = l.any pair_table_event_2_f) ∧ ((e == 2) = false → (l.any (fun o => pair_reads_f o && !(o.has == (e == 2)))) = l.any pair_table_event_1_f) := by
  refine ⟨rfl, fun h => ?_, fun h => ?_⟩
  · rw [h]; congr 1; funext o; unfold pair_table_event_2_f; cases o.has <;> rfl
  · rw [h]; congr 1; funext o; unfold pair_table_event_1_f; cases o.has <;> rfl
theorem step_ok {l : List Ev} {k : Nat} (hk : k < l.length) (hcan : ∀ e ∈ l, canE e = true) {ps : List Prc} {s : PS} (h : RelB l k ps s) :
    ∃ w ps', assayerref03_step_el2_f l (k : Int) ps l[k].proc = some (w, ps') ∧ ((errA s l[k] ≠ 0 ∧ w = errA s l[k]) ∨ (errA s l[k] = 0 ∧ w = 0 ∧ ∀ d', RelB l (k + 1) ps' (nextA s l[k] d'))) := by
  have hE := hcan _ (List.getElem_mem hk)
  have hops : ∀ (n : Nat) (hn : n < l.length), ∀ o ∈ l[n].ops, canO o = true := fun n hn o ho => by
    have := hcan _ (List.getElem_mem hn)
    unfold canE at this
    rw [Bool.and_eq_true] at this
    exact List.all_eq_true.1 this.2 o ho
  have hp : 0 ≤ l[k].proc ∧ l[k].proc ≤ 99 := by
    unfold canE badE at hE
    simp only [Bool.and_eq_true, Bool.not_eq_true', Bool.or_eq_false_iff, decide_eq_false_iff_not] at hE
    omega
  obtain ⟨p, hpp⟩ : ∃ p : Nat, l[k].proc = (p : Int) := ⟨l[k].proc.toNat, by omega⟩
  have hpl : p < ps.length := by rw [h.len]; omega
  unfold assayerref03_step_el2_f
  rw [rdI_at hk, hpp]
  simp only [Option.bind_some]
  rw [rdI_at hpl]
  simp only [Option.bind_some]
  have hset : ∀ x : Prc, setI ps (p : Int) x = ps.set p x := fun x => by unfold setI; rw [Int.toNat_natCast]
  have getset : ∀ (x : Prc) (q : Nat) (hq : q < (ps.set p x).length), (ps.set p x)[q] = if p = q then x else ps[q]'(by rw [List.length_set] at hq; exact hq) := fun x q hq => List.getElem_set ..
  rcases h.op p hpl with ⟨ho1, ho2⟩ | ⟨n, hn, ho1, ho2⟩
  · -- no open invocation
    by_cases hi : (l[k].kind == 1) = true
    · rw [if_pos hi, h.gn p hpl, ho1, filled_ok]
      by_cases hg : s.gn (p : Int) = true
      · rw [if_pos (by rw [hg]; rfl)]
        have : errA s l[k] = 30 := by unfold errA; rw [if_pos (by rw [hi, hpp, hg]; simp)]
        exact ⟨_, _, rfl, .inl ⟨by rw [this]; decide, this.symm⟩⟩
      · have hg' : s.gn (p : Int) = false := Bool.eq_false_iff.2 hg
        rw [if_neg (by rw [hg']; decide)]
        have hk2 : (l[k].kind == 2) = false := by rw [beq_eq_false_iff_ne]; have : l[k].kind = 1 := by simpa using hi
                                                  omega
        have hs := (any_split l[k].ops l[k].kind).2.2 hk2
        rw [hk2] at hs
        rw [hs]
        have hA : errA s l[k] = if l[k].ops.any pair_table_event_1_f = true then 32 else 0 := by
          unfold errA
          have hne : (l[k].kind != 1) = false := by rw [bne, hi]; rfl
          have hne2 : (l[k].kind != 2) = true := by rw [bne, hk2]; rfl
          rw [hpp, ho2, hg', hne, hk2, hne2]
          simp
        by_cases hf : l[k].ops.any pair_table_event_1_f = true
        · rw [if_pos (by rw [hf]; rfl)]
          rw [if_pos hf] at hA
          exact ⟨_, _, rfl, .inl ⟨by rw [hA]; decide, hA.symm⟩⟩
        · rw [if_neg (by rw [Bool.eq_false_iff.2 hf]; decide)]
          rw [if_neg hf] at hA
          refine ⟨_, _, rfl, .inr ⟨hA, rfl, fun d' => ?_⟩⟩
          unfold nextA
          rw [if_pos hi, hset]
          refine ⟨by rw [List.length_set]; exact h.len, fun q hq => ?_, fun q hq => ?_⟩
          · rw [getset]
            unfold fset
            dsimp only
            by_cases e : p = q
            · subst e
              exact .inr ⟨k, hk, by simp, by simp [hpp]⟩
            · have e' : ¬ (q : Int) = l[k].proc := by rw [hpp]; omega
              simp only [if_neg e, if_neg e']
              exact h.op q _
          · rw [getset]
            by_cases e : p = q
            · subst e; rw [if_pos rfl]
            · rw [if_neg e]; exact h.gn q _
    · rw [if_neg hi, ho1, if_pos (by decide)]
      have : errA s l[k] = 31 := by
        unfold errA
        have hi' : (l[k].kind == 1) = false := Bool.eq_false_iff.2 hi
        rw [hpp, ho2, bne, hi']; simp
      exact ⟨_, _, rfl, .inl ⟨by rw [this]; decide, this.symm⟩⟩
  · by_cases hi : (l[k].kind == 1) = true
    · rw [if_pos hi, ho1, if_pos (by simp)]
      have : errA s l[k] = 30 := by unfold errA; rw [if_pos (by rw [hi, hpp, ho2]; rfl)]
      exact ⟨_, _, rfl, .inl ⟨by rw [this]; decide, this.symm⟩⟩
    · have hi' : (l[k].kind == 1) = false := Bool.eq_false_iff.2 hi
      rw [if_neg hi, ho1, if_neg (by simp), rdI_at hn]
      simp only [Option.bind_some]
      rw [comp_ok _ _ (hops n hn) (hops k hk), filled_ok]
      simp only [Option.bind_some]
      have hA : errA s l[k] = if (l[k].ops.any (fun o => pair_reads_f o && !(o.has == (l[k].kind == 2)))) = true then 32 else if l[n].ops.map bareO = l[k].ops.map bareO then 0 else 32 := by
        unfold errA
        rw [hpp, ho2, bne, hi']
        obtain ⟨-, h1, h2⟩ := any_split l[k].ops l[k].kind
        cases h3 : (l[k].kind == 2)
        · rw [h3] at h2
          rw [h2 rfl, bne, h3]; simp
        · rw [h3] at h1
          rw [h1 rfl, bne, h3]; simp
      by_cases hf : l[k].ops.any (fun o => pair_reads_f o && !(o.has == (l[k].kind == 2))) = true
      · rw [if_pos (by rw [hf]; simp)]
        rw [if_pos hf] at hA
        exact ⟨_, _, rfl, .inl ⟨by rw [hA]; decide, hA.symm⟩⟩
      · rw [if_neg hf] at hA
        have hf' := Bool.eq_false_iff.2 hf
        by_cases hc : l[n].ops.map bareO = l[k].ops.map bareO
        · rw [if_neg (by rw [hf']; simp [hc])]
          rw [if_pos hc] at hA
          refine ⟨_, _, rfl, .inr ⟨hA, rfl, fun d' => ?_⟩⟩
          unfold nextA
          rw [if_neg hi, hset]
          have hset2 : ∀ x y : Prc, setI (ps.set p x) (p : Int) y = ps.set p y := fun x y => by unfold setI; rw [Int.toNat_natCast, List.set_set]
          rw [hset2]
          refine ⟨by rw [List.length_set]; exact h.len, fun q hq => ?_, fun q hq => ?_⟩
          · rw [getset]
            unfold fdel
            dsimp only
            by_cases e : p = q
            · subst e
              exact .inl ⟨by simp, by simp [hpp]⟩
            · have e' : ¬ (q : Int) = l[k].proc := by rw [hpp]; omega
              simp only [if_neg e, if_neg e']
              exact h.op q _
          · rw [getset]
            dsimp only
            by_cases e : p = q
            · subst e; simp [hpp]
            · have e' : ¬ (q : Int) = l[k].proc := by rw [hpp]; omega
              simp only [if_neg e, if_neg e']; exact h.gn q _
        · rw [if_pos (by simp [hc])]
          rw [if_neg hc] at hA
          exact ⟨_, _, rfl, .inl ⟨by rw [hA]; decide, hA.symm⟩⟩
theorem refs_l (l : List Ev) (hcan : ∀ e ∈ l, canE e = true) (hlen : l.length ≤ 300) : ∀ (r : List Ev) (k : Nat) (a : List (List Op')) (ps : List Prc) (s : PS), r = l.drop k → RelB l k ps s → a.length = k → Met s.kd a.flatten →
    ∃ x, assayerref03_Check_l11 l k r a ps = some (match runA s k r with | some (i, w) => .inl ((i : Int), w) | none => .inr x)
  | [], k, a, ps, s, _, _, _, _ => ⟨_, rfl⟩
  | e :: r, k, a, ps, s, hr, h, ha, hm => by
    obtain ⟨hk, rfl, hr'⟩ := drop_next hr.symm
    obtain ⟨w, ps', he, hc⟩ := step_ok hk hcan h
    have hE := hcan _ (List.getElem_mem hk)
    have hp : 0 ≤ l[k].proc ∧ l[k].proc ≤ 99 := by
      unfold canE badE at hE
      simp only [Bool.and_eq_true, Bool.not_eq_true', Bool.or_eq_false_iff, decide_eq_false_iff_not] at hE
      omega
    have hrd : ∃ y, rdI ps l[k].proc = some y := ⟨_, by unfold rdI; rw [if_pos hp.1, List.getElem?_eq_getElem (by rw [h.len]; omega)]⟩
    obtain ⟨y, hy⟩ := hrd
    unfold assayerref03_Check_l11 runA
    rw [hy, he]
    simp only [Option.bind_some]
    rcases hc with ⟨h1, rfl⟩ | ⟨h1, rfl, h3⟩
    · rw [if_pos (by simpa using h1), if_pos h1]
      exact ⟨(a, ps), rfl⟩
    · rw [if_neg (by decide), if_neg (by simp [h1]), mixed_ok _ _ (by omega)]
      simp only [Option.bind_some]
      have hflat : ∀ p : Op', p ∈ a.flatten ++ l[k].ops ↔ ∃ q ∈ a ++ [l[k].ops], p ∈ q := fun p => by
        rw [List.mem_append, List.mem_flatten]
        constructor
        · rintro (⟨q, h1, h2⟩ | h)
          · exact ⟨q, List.mem_append_left _ h1, h2⟩
          · exact ⟨l[k].ops, by simp, h⟩
        · rintro ⟨q, h1, h2⟩
          rcases List.mem_append.1 h1 with h1 | h1
          · exact .inl ⟨q, h1, h2⟩
          · rw [List.mem_singleton.1 h1] at h2; exact .inr h2
      rcases mix_met l[k].ops a.flatten s.kd hm with ⟨⟨d', m1, m2⟩, m3⟩ | ⟨m1, o, ho, p, hp2, m2⟩
      · rw [m1]
        have hno : (l[k].ops.any fun o => (a ++ [l[k].ops]).any fun q => q.any (clash o)) = false := by
          rw [Bool.eq_false_iff]
          intro hh
          obtain ⟨o, ho, hh⟩ := List.any_eq_true.1 hh
          obtain ⟨q, hq, hh⟩ := List.any_eq_true.1 hh
          obtain ⟨p, hp2, hh⟩ := List.any_eq_true.1 hh
          rw [m3 o ho p ((hflat p).2 ⟨q, hq, hp2⟩)] at hh; cases hh
        rw [hno, if_neg (by decide), app_ok (by omega)]
        simp only [Option.bind_some]
        refine refs_l l hcan hlen r (k + 1) _ _ _ hr' (h3 d') (by rw [List.length_append, ha]; rfl) ?_
        have : (nextA s l[k] d').kd = d' := by unfold nextA; split <;> rfl
        rw [this, List.flatten_append]
        simpa using m2
      · rw [m1]
        have hyes : (l[k].ops.any fun o => (a ++ [l[k].ops]).any fun q => q.any (clash o)) = true := by
          obtain ⟨q, hq, hq2⟩ := (hflat p).1 hp2
          exact List.any_eq_true.2 ⟨o, ho, List.any_eq_true.2 ⟨q, hq, List.any_eq_true.2 ⟨p, hq2, m2⟩⟩⟩
        rw [hyes, if_pos rfl]
        exact ⟨(a, ps), rfl⟩
theorem relB0 (l : List Ev) (n : Nat) (hn : n = 100) : RelB l 0 (List.replicate n (⟨false, -1⟩ : Prc)) s0 :=
  ⟨by simpa using hn, fun p hp => .inl ⟨by simp, rfl⟩, fun p hp => by simp [s0]⟩
theorem ref_ok (l : List Ev) (hk : KeysOk l) {fuel : Nat} (hf : 140737488351233 < fuel) : assayerref03_Check_f fuel l = some (if canH l = true then (match runA s0 0 l with | some (i, w) => ((i : Int), w) | none => (0, 0)) else (0, 1)) := by
  unfold assayerref03_Check_f
  rw [canB l hk hf]
  simp only [Option.bind_some]
  by_cases hc : canH l = true
  · rw [if_neg (by simp [hc]), if_pos hc]
    have hc2 := hc
    unfold canH at hc2
    rw [Bool.and_eq_true, decide_eq_true_eq] at hc2
    have h100 : assayerref03_Check_l5 0 ((100 : Int)).toNat (List.replicate 100 (⟨false, 0⟩ : Prc)) = some (List.replicate 100 ⟨false, -1⟩) := by
      rw [show ((100 : Int)).toNat = 100 from rfl, ps_l 100 0 _ (by simp)]
      simp
    rw [h100]
    simp only [Option.bind_some]
    obtain ⟨x, hx⟩ := refs_l l (fun e he => List.all_eq_true.1 hc2.2 e he) (by omega) l 0 [] (List.replicate 100 ⟨false, -1⟩) s0 rfl
      (relB0 l 100 rfl) rfl ⟨fun o ho => by simp at ho, fun k _ => rfl⟩
    rw [hx]
    cases runA s0 0 l with
    | none => rfl
    | some p => rfl
  · rw [if_pos (by simp [hc]), if_neg hc]
end Go.Proofs.Ytemdmpgekegfhaa
