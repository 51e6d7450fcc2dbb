/- InnerServed: what a store reads for a transaction that is alone is right. -/
import Derived.Test.YticpadjheelipaaAlikeQ
import Derived.Test.YticpadjheelipaaServedP
import Derived.Test.YticpadjheelipaaRefP
namespace Go.Proofs.Yticpadjheelipaa
open Go.RowKit
set_option linter.all false
set_option maxRecDepth 10000

/-- A register's last value. -/
def regOf (key : ByteArray) : Option Int → List Op' → Option Int
  | st, [] => st
  | st, p :: r => if wrK key p = true then regOf key (some p.value) r else regOf key st r
theorem regOf_some (key : ByteArray) : ∀ (D : List Op') (x : Int), ∃ u, regOf key (some x) D = some u
  | [], x => ⟨x, rfl⟩
  | p :: r, x => by
    simp only [regOf]
    split
    · exact regOf_some key r _
    · exact regOf_some key r _
theorem getR_reg (key : ByteArray) : ∀ (D : List Op') (b : Bool) (x : Int), getR key (b, x) D = match regOf key (if b = true then none else some x) D with | none => (true, x) | some v => (false, v)
  | [], b, x => by cases b <;> rfl
  | p :: r, b, x => by
    simp only [getR, regOf]
    split
    · rw [getR_reg key r false p.value]
      obtain ⟨u, hu⟩ := regOf_some key r p.value
      simp only [Bool.false_eq_true, if_false, hu]
    · exact getR_reg key r b x
theorem getR_eq (key : ByteArray) (D : List Op') (x : Int) : getR key (true, x) D = match regOf key none D with | none => (true, x) | some v => (false, v) := getR_reg key D true x
theorem regOf_snoc (key : ByteArray) (o : Op') : ∀ (D : List Op') (st : Option Int), regOf key st (D ++ [o]) = if wrK key o = true then some o.value else regOf key st D
  | [], st => by simp only [List.nil_append, regOf]
  | p :: r, st => by
    simp only [List.cons_append, regOf]
    split <;> exact regOf_snoc key o r _
theorem readL_snoc (key : ByteArray) (o : Op') : ∀ D, readL key (D ++ [o]) = if apK key o = true then readL key D ++ [o.value] else readL key D
  | [] => by simp only [List.nil_append, readL]
  | p :: r => by
    have := readL_snoc key o r
    simp only [List.cons_append, readL, this]
    split <;> split <;> rfl
/-- What the views know agrees with what was done. -/
structure Sv (f : Thing → View) (D : List Op') : Prop where
  suf : ∀ t, t.list = true → ∃ pre, readL t.key D = pre ++ (f t).list
  full : ∀ t, t.list = true → (f t).whole = true → (f t).list = readL t.key D
  reg : ∀ t, t.list = false → (f t).whole = true → (f t).none_ = (regOf t.key none D).isNone ∧ ∀ v, regOf t.key none D = some v → (f t).value = v
theorem sv_start (D : List Op') : Sv (fun _ => view0) D :=
  ⟨fun t _ => ⟨readL t.key D, by simp [view0]⟩, fun _ _ h => by simp [view0] at h, fun _ _ h => by simp [view0] at h⟩
theorem apK_iff {key : ByteArray} {o : Op'} (h : o.kind = 1) : apK key o = decide (o.key = key) := by
  unfold apK; rw [h, keq]; rfl
theorem wrK_iff {key : ByteArray} {o : Op'} (h : o.kind = 3) : wrK key o = decide (o.key = key) := by
  unfold wrK; rw [h, keq]; rfl
theorem apK_no {key : ByteArray} {o : Op'} (h : ¬ o.kind = 1) : apK key o = false := by
  unfold apK
  have : (o.kind == 1) = false := by simpa using h
  rw [this]; rfl
theorem wrK_no {key : ByteArray} {o : Op'} (h : ¬ o.kind = 3) : wrK key o = false := by
  unfold wrK
  have : (o.kind == 3) = false := by simpa using h
  rw [this]; rfl
theorem served_step {f : Thing → View} {D : List Op'} (h : Sv f D) (o : Op') :
    (isOf (toldOf D o) = true → (readsO (toldOf D o) && !rightV (f (thingOf (toldOf D o))) (toldOf D o)) = false) ∧
    Sv (if isOf (toldOf D o) = true then upd f (thingOf (toldOf D o)) (behindV (f (thingOf (toldOf D o))) (toldOf D o)) else f) (doneOf D o) := by
  by_cases h1 : o.kind = 1
  · obtain ⟨e1, e2⟩ := told_w1 (D := D) (o := o) (by simpa using h1)
    rw [e1, e2]
    have hof : isOf o = true := by unfold isOf; rw [h1]; rfl
    refine ⟨fun _ => ?_, ?_⟩
    · have : readsO o = false := by unfold readsO; rw [h1]; simp
      rw [this]; rfl
    · rw [if_pos hof]
      have hb : behindV (f (thingOf o)) o = { f (thingOf o) with list := (f (thingOf o)).list ++ [o.value] } := by unfold behindV; rw [if_pos h1]
      have htl : (thingOf o).list = true := by unfold thingOf; rw [h1]; rfl
      have htk : (thingOf o).key = o.key := rfl
      rw [hb]
      refine ⟨fun t ht => ?_, fun t ht hw => ?_, fun t ht hw => ?_⟩
      · rw [readL_snoc, apK_iff h1]
        unfold upd
        by_cases e : t = thingOf o
        · subst e
          rw [if_pos rfl, if_pos (by rw [htk]; simp)]
          obtain ⟨pre, hp⟩ := h.suf _ ht
          exact ⟨pre, by rw [hp, List.append_assoc]⟩
        · rw [if_neg e, if_neg]
          · exact h.suf t ht
          · intro hk
            refine e ?_
            have hk2 : o.key = t.key := of_decide_eq_true hk
            cases t; simp only at ht hk2; subst ht; subst hk2; unfold thingOf; rw [h1]; rfl
      · rw [readL_snoc, apK_iff h1]
        unfold upd at hw ⊢
        by_cases e : t = thingOf o
        · subst e
          rw [if_pos rfl] at hw ⊢
          rw [if_pos (by rw [htk]; simp)]
          simp only at hw ⊢
          rw [h.full _ ht hw]
        · rw [if_neg e] at hw ⊢
          rw [if_neg]
          · exact h.full t ht hw
          · intro hk
            refine e ?_
            have hk2 : o.key = t.key := of_decide_eq_true hk
            cases t; simp only at ht hk2; subst ht; subst hk2; unfold thingOf; rw [h1]; rfl
      · rw [regOf_snoc, wrK_no (by omega), if_neg (by simp)]
        unfold upd at hw ⊢
        have e : ¬ t = thingOf o := fun e => by rw [e, htl] at ht; cases ht
        rw [if_neg e] at hw ⊢
        exact h.reg t ht hw
  · by_cases h3 : o.kind = 3
    · obtain ⟨e1, e2⟩ := told_w3 (D := D) (o := o) (by simpa using h1) (by simpa using h3)
      rw [e1, e2]
      have hof : isOf o = true := by unfold isOf; rw [h3]; rfl
      refine ⟨fun _ => ?_, ?_⟩
      · have : readsO o = false := by unfold readsO; rw [h3]; simp
        rw [this]; rfl
      · rw [if_pos hof]
        have hb : behindV (f (thingOf o)) o = ⟨true, [], false, o.value⟩ := by unfold behindV; rw [if_neg h1, if_pos h3]
        have htl : (thingOf o).list = false := by unfold thingOf; rw [h3]; rfl
        have htk : (thingOf o).key = o.key := rfl
        rw [hb]
        refine ⟨fun t ht => ?_, fun t ht hw => ?_, fun t ht hw => ?_⟩
        · rw [readL_snoc, apK_no h1, if_neg (by simp)]
          unfold upd
          have e : ¬ t = thingOf o := fun e => by rw [e, htl] at ht; cases ht
          rw [if_neg e]; exact h.suf t ht
        · rw [readL_snoc, apK_no h1, if_neg (by simp)]
          unfold upd at hw ⊢
          have e : ¬ t = thingOf o := fun e => by rw [e, htl] at ht; cases ht
          rw [if_neg e] at hw ⊢; exact h.full t ht hw
        · rw [regOf_snoc, wrK_iff h3]
          unfold upd at hw ⊢
          by_cases e : t = thingOf o
          · subst e
            rw [if_pos rfl, if_pos (by rw [htk]; simp)]
            exact ⟨rfl, fun v hv => (Option.some.inj hv)⟩
          · rw [if_neg e] at hw ⊢
            rw [if_neg]
            · exact h.reg t ht hw
            · intro hk
              refine e ?_
              have hk2 : o.key = t.key := of_decide_eq_true hk
              cases t; simp only at ht hk2; subst ht; subst hk2; unfold thingOf; rw [h3]; rfl
    · by_cases h2 : o.kind = 2
      · obtain ⟨e1, e2⟩ := told_r2 (D := D) (o := o) (by simpa using h1) (by simpa using h3) (by simpa using h2)
        rw [e1, e2]
        generalize ho : ({ o with has := true, list := readL o.key D } : Op') = p
        have pk : p.kind = 2 := by rw [← ho]; exact h2
        have ph : p.has = true := by rw [← ho]
        have pl : p.list = readL p.key D := by rw [← ho]
        have hof : isOf p = true := by unfold isOf; rw [pk]; rfl
        have htl : (thingOf p).list = true := by unfold thingOf; rw [pk]; rfl
        have htk : (thingOf p).key = p.key := rfl
        refine ⟨fun _ => ?_, ?_⟩
        · have hr : rightV (f (thingOf p)) p = true := by
            unfold rightV
            rw [if_neg (by omega), pl]
            obtain ⟨pre, hp⟩ := h.suf _ htl
            have hfu := h.full _ htl
            rw [htk] at hp hfu
            have hn : ((readL p.key D).length : Int) - (f (thingOf p)).list.length = (pre.length : Int) := by rw [hp, List.length_append]; omega
            rw [hn, hp, Int.toNat_natCast, List.drop_left]
            simp only [decide_true, Bool.and_true, Bool.and_eq_true, Bool.or_eq_true, beq_iff_eq, Bool.not_eq_true', decide_eq_true_eq]
            refine ⟨by omega, ?_⟩
            cases hw : (f (thingOf p)).whole with
            | false => exact .inr rfl
            | true =>
              left
              have := congrArg List.length (hfu hw)
              rw [hp, List.length_append] at this
              omega
          rw [hr]; simp
        · rw [if_pos hof]
          have hb : behindV (f (thingOf p)) p = ⟨true, p.list, false, 0⟩ := by unfold behindV; rw [if_neg (by omega), if_neg (by omega), if_pos ⟨ph, pk⟩]
          rw [hb]
          refine ⟨fun t ht => ?_, fun t ht hw => ?_, fun t ht hw => ?_⟩
          · unfold upd
            by_cases e : t = thingOf p
            · subst e; rw [if_pos rfl]; exact ⟨[], by rw [htk]; simp only [List.nil_append]; exact pl.symm⟩
            · rw [if_neg e]; exact h.suf t ht
          · unfold upd at hw ⊢
            by_cases e : t = thingOf p
            · subst e; rw [if_pos rfl]; rw [htk]; exact pl
            · rw [if_neg e] at hw ⊢; exact h.full t ht hw
          · unfold upd at hw ⊢
            have e : ¬ t = thingOf p := fun e => by rw [e, htl] at ht; cases ht
            rw [if_neg e] at hw ⊢; exact h.reg t ht hw
      · by_cases h4 : o.kind = 4
        · obtain ⟨e1, e2⟩ := told_g4 (D := D) (o := o) (by simpa using h1) (by simpa using h3) (by simpa using h2) (by simpa using h4)
          rw [e1, e2]
          generalize ho : ({ o with has := true, isNil := (getR o.key (true, o.value) D).1, value := (getR o.key (true, o.value) D).2 } : Op') = p
          have pk : p.kind = 4 := by rw [← ho]; exact h4
          have ph : p.has = true := by rw [← ho]
          have pn : p.isNil = (regOf p.key none D).isNone ∧ ∀ v, regOf p.key none D = some v → p.value = v := by
            rw [← ho]; simp only [getR_eq]
            cases regOf o.key none D with
            | none => exact ⟨rfl, fun v hv => by cases hv⟩
            | some v => exact ⟨rfl, fun v hv => Option.some.inj hv⟩
          have hof : isOf p = true := by unfold isOf; rw [pk]; rfl
          have htl : (thingOf p).list = false := by unfold thingOf; rw [pk]; rfl
          have htk : (thingOf p).key = p.key := rfl
          refine ⟨fun _ => ?_, ?_⟩
          · have hr : rightV (f (thingOf p)) p = true := by
              unfold rightV
              rw [if_pos pk]
              cases hw : (f (thingOf p)).whole with
              | false => rfl
              | true =>
                obtain ⟨g1, g2⟩ := h.reg _ htl hw
                rw [htk] at g1 g2
                rw [g1, pn.1]
                cases hg : regOf p.key none D with
                | none => rfl
                | some v => rw [g2 v hg, pn.2 v hg]; simp
            rw [hr]; simp
          · rw [if_pos hof]
            have hb : behindV (f (thingOf p)) p = ⟨true, [], p.isNil, p.value⟩ := by unfold behindV; rw [if_neg (by omega), if_neg (by omega), if_neg (fun k => by omega), if_pos ph]
            rw [hb]
            refine ⟨fun t ht => ?_, fun t ht hw => ?_, fun t ht hw => ?_⟩
            · unfold upd
              have e : ¬ t = thingOf p := fun e => by rw [e, htl] at ht; cases ht
              rw [if_neg e]; exact h.suf t ht
            · unfold upd at hw ⊢
              have e : ¬ t = thingOf p := fun e => by rw [e, htl] at ht; cases ht
              rw [if_neg e] at hw ⊢; exact h.full t ht hw
            · unfold upd at hw ⊢
              by_cases e : t = thingOf p
              · subst e; rw [if_pos rfl]; rw [htk]; exact pn
              · rw [if_neg e] at hw ⊢; exact h.reg t ht hw
        · obtain ⟨e1, e2⟩ := told_no (D := D) (o := o) (by simpa using h1) (by simpa using h3) (by simpa using h2) (by simpa using h4)
          rw [e1, e2]
          have hof : ¬ isOf o = true := by
            unfold isOf
            simp only [Bool.and_eq_true, decide_eq_true_eq]
            omega
          refine ⟨fun hh => absurd hh hof, ?_⟩
          rw [if_neg hof]; exact h
theorem served_none : ∀ (ls D : List Op') (f : Thing → View) (i : Int), Sv f D → checkV f i (served D ls) = -1
  | [], _, _, _, _ => rfl
  | o :: r, D, f, i, h => by
    obtain ⟨h1, h2⟩ := served_step h o
    rw [served_cons]
    by_cases hof : isOf (toldOf D o) = true
    · rw [if_pos hof] at h2
      rw [checkV_go hof (h1 hof)]
      exact served_none r _ _ _ h2
    · rw [if_neg hof] at h2
      rw [checkV_skip (by simpa using hof)]
      exact served_none r _ _ _ h2
theorem served_true (D ls : List Op') : (checkV (fun _ => view0) 0 (served D ls) == -1) = true := by
  rw [beq_iff_eq]; exact served_none ls D _ 0 (sv_start D)
theorem served_len {B n : Nat} : ∀ (ls D : List Op'), (∀ o ∈ ls, o.list.length ≤ B) → D.length + ls.length ≤ n → ∀ o ∈ served D ls, o.list.length ≤ B ∨ o.list.length ≤ n
  | [], _, _, _ => fun o h => by cases h
  | o :: r, D, hB, hn => by
    intro p hp
    simp only [List.length_cons] at hn
    rw [served_cons] at hp
    rcases List.mem_cons.1 hp with e | hp
    · subst e
      have ho := hB o (by simp)
      unfold toldOf
      split
      · exact .inl ho
      · split
        · exact .inl ho
        · split
          · right; have := readL_len o.key D; simp only; omega
          · split
            · exact .inl ho
            · exact .inl ho
    · refine served_len r (doneOf D o) (fun q hq => hB q (by simp [hq])) ?_ p hp
      unfold doneOf
      split
      · rw [List.length_append, List.length_singleton]; omega
      · split
        · rw [List.length_append, List.length_singleton]; omega
        · omega
theorem values_ok {s : SH} {v : Value} {xs : List Op'} (h : kOp.Sl s v xs) : ∀ p ∈ xs, Kin.inI64 p.value := by
  intro p hp
  obtain ⟨i, hi, rfl⟩ := List.getElem_of_mem hp
  obtain ⟨A, cap, rfl, -⟩ := id h
  obtain ⟨b, off, c, rfl, hK, hC⟩ := h.elem i hi
  obtain ⟨v3, rfl, hsl, hr1, hr2, hr3⟩ := kOp_open hK
  exact hr3
end Go.Proofs.Yticpadjheelipaa
