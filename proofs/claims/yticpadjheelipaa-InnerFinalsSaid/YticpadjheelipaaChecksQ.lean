/- InnerChecks: the first reads and the last writes are the reference's. -/
import Derived.Test.YticpadjheelipaaBeginsQ
import Derived.Test.YticpadjheelipaaExt
import Derived.Test.YticpadjheelipaaFins
namespace Go.Proofs.Yticpadjheelipaa
open Go.RowKit
set_option linter.all false
set_option maxRecDepth 10000

def setC (p : Op') : Bool := isOf p && ((p.kind == 1 || p.kind == 3) || p.has)
theorem extS_at (g : Thing → Bool) (o : Op') (t : Thing) : extS g o t = (g t || (decide (thingOf o = t) && setC o)) := by
  unfold extS setC
  by_cases e : t = thingOf o
  · subst e; rw [if_pos rfl]; simp
  · rw [if_neg e, decide_eq_false (fun h => e h.symm)]; simp
theorem gfold : ∀ (P : List Op') (g : Thing → Bool) (t : Thing), P.foldl extS g t = (g t || P.any fun p => decide (thingOf p = t) && setC p)
  | [], g, t => by simp
  | p :: P, g, t => by
    rw [List.foldl_cons, gfold P, extS_at, List.any_cons, Bool.or_assoc]
theorem like_b {p o : Op'} (ho : isOf o = true) : likeB p o = (isOf p && decide (thingOf p = thingOf o)) := by
  rw [Bool.eq_iff_iff, like_iff ho]; simp
theorem firstF_any (o : Op') : ∀ (P : List Op') (b : Bool), firstF o b P = (b && !P.any fun p => likeB p o && ((p.kind == 1 || p.kind == 3) || p.has))
  | [], b => by simp [firstF]
  | p :: P, b => by
    rw [firstF, firstF_any o P, List.any_cons]
    cases (likeB p o && ((p.kind == 1 || p.kind == 3) || p.has)) <;> simp
theorem lastF_any (o : Op') : ∀ (P : List Op') (b : Bool), lastF o b P = (b && !P.any fun p => (p.kind == 1 || p.kind == 3) && likeB p o)
  | [], b => by simp [lastF]
  | p :: P, b => by
    rw [lastF, lastF_any o P, List.any_cons]
    cases ((p.kind == 1 || p.kind == 3) && likeB p o) <;> simp
theorem any_congr' {α : Type} {l : List α} {p q : α → Bool} (h : ∀ x ∈ l, p x = q x) : l.any p = l.any q := by
  induction l with
  | nil => rfl
  | cons x l ih => rw [List.any_cons, List.any_cons, h x (List.mem_cons_self ..), ih (fun y hy => h y (List.mem_cons_of_mem _ hy))]
theorem ext_go : ∀ (r P : List Op'), extF (P.foldl extS fun _ => false) P.length r = refExt (P ++ r) P.length r
  | [], P => rfl
  | o :: r, P => by
    have ih := ext_go r (P ++ [o])
    rw [List.foldl_append, List.append_assoc, List.length_append] at ih
    simp only [List.foldl_cons, List.foldl_nil, List.length_cons, List.length_nil, Nat.zero_add, List.cons_append, List.nil_append] at ih
    simp only [extF, refExt]
    rw [ih, List.take_left']
    · by_cases hr : ((o.kind == 2 || o.kind == 4) && o.has) = true
      · have hof : isOf o = true := by
          unfold isOf
          simp only [Bool.and_eq_true, Bool.or_eq_true, beq_iff_eq] at hr
          simp only [Bool.and_eq_true, decide_eq_true_eq]; omega
        have e1 : (!((o.kind == 2 || o.kind == 4) && o.has)) = false := by rw [hr]; rfl
        have hc : (isOf o && readsO o && !P.foldl extS (fun _ => false) (thingOf o)) = firstF o true P := by
          rw [firstF_any, gfold, hof]
          have h2 : readsO o = true := by unfold readsO; rw [Bool.and_comm]; exact hr
          rw [h2]
          simp only [Bool.false_or, Bool.true_and]
          congr 1
          refine any_congr' fun p _ => ?_
          rw [like_b hof]; unfold setC
          cases isOf p <;> cases decide (thingOf p = thingOf o) <;> simp
        rw [hc, e1, if_neg (show ¬ (false = true) by simp)]
      · have hr2 : ((o.kind == 2 || o.kind == 4) && o.has) = false := by simpa using hr
        have h2 : readsO o = false := by unfold readsO; rw [Bool.and_comm]; exact hr2
        have e1 : (!((o.kind == 2 || o.kind == 4) && o.has)) = true := by rw [hr2]; rfl
        have e2 : (isOf o && readsO o && !P.foldl extS (fun _ => false) (thingOf o)) = false := by rw [h2]; simp
        rw [e1, e2, if_neg (show ¬ (false = true) by simp), if_pos rfl]
    · rfl
theorem ext_eq (xs : List Op') : extF (fun _ => false) 0 xs = refExt xs 0 xs := ext_go xs []
def wrT (t : Thing) (q : Op') : Bool := (isOf q && (q.kind == 1 || q.kind == 3)) && decide (thingOf q = t)
theorem mput_perm {l : List (Thing × Value)} (hu : Uniq l) (t : Thing) (v : Value) : (mput l t v).Perm (l.filter (fun p => !decide (p.1 = t)) ++ [(t, v)]) := by
  induction l with
  | nil => exact List.Perm.refl _
  | cons p l ih =>
    obtain ⟨h1, h2⟩ := List.pairwise_cons.1 hu
    by_cases e : p.1 = t
    · have hnone : ∀ q ∈ l, q.1 ≠ t := fun q hq e2 => h1 q hq (e.trans e2.symm)
      have hm : mput (p :: l) t v = (t, v) :: l := by
        unfold mput
        rw [if_pos (by simp [e]), List.map_cons, if_pos e]
        congr 1
        refine (List.map_congr_left fun q hq => if_neg (hnone q hq)).trans ?_
        simp
      rw [hm, List.filter_cons_of_neg (by simp [e]), List.filter_eq_self.2 (fun q hq => by simpa using hnone q hq)]
      exact (List.perm_append_singleton (t, v) l).symm
    · have hm : mput (p :: l) t v = p :: mput l t v := by
        unfold mput
        rw [List.any_cons, decide_eq_false e, Bool.false_or]
        split
        · rw [List.map_cons, if_neg e]
        · rfl
      rw [hm, List.filter_cons_of_pos (by simpa using e)]
      exact (ih h2).cons p
theorem fin_go : ∀ (r : List Op') (i : Nat) (l : List (Thing × Value)), Uniq l → ((finV i r l).map fun p => intOf p.2).Perm (((l.filter fun p => !r.any (wrT p.1)).map fun p => intOf p.2) ++ refFin i r)
  | [], i, l, hu => by
    simp only [finV, refFin, List.append_nil]
    rw [show (l.filter fun p => !([] : List Op').any (wrT p.1)) = l from List.filter_eq_self.2 (fun p _ => rfl)]
  | o :: r, i, l, hu => by
    simp only [finV, refFin]
    by_cases hw : (o.kind == 1 || o.kind == 3) = true
    · have hof : isOf o = true := by
        unfold isOf
        simp only [Bool.or_eq_true, beq_iff_eq] at hw
        simp only [Bool.and_eq_true, decide_eq_true_eq]; omega
      have hwo : writesO o = true := hw
      rw [if_pos (by rw [hof, hw]; rfl), if_neg (by rw [hwo]; simp)]
      refine (fin_go r (i + 1) _ (mput_uniq hu _ _)).trans ?_
      have hp := (((mput_perm hu (thingOf o) (.int .i64 i)).filter (fun p => !r.any (wrT p.1))).map (fun p : Thing × Value => intOf p.2)).append_right (refFin (i + 1) r)
      refine hp.trans ?_
      rw [List.filter_append, List.filter_filter, List.map_append, List.append_assoc]
      have hf : (l.filter fun p => (!r.any (wrT p.1)) && !decide (p.1 = thingOf o)) = l.filter fun p => !(o :: r).any (wrT p.1) := by
        congr 1
        funext p
        have : wrT p.1 o = decide (p.1 = thingOf o) := by
          unfold wrT; rw [hof, hw]
          by_cases e : p.1 = thingOf o
          · rw [e]; simp
          · rw [decide_eq_false e, decide_eq_false (fun h => e h.symm)]; rfl
        rw [List.any_cons, this]
        cases decide (p.1 = thingOf o) <;> cases r.any (wrT p.1) <;> rfl
      rw [hf]
      have hl : lastF o true r = !r.any (wrT (thingOf o)) := by
        rw [lastF_any, Bool.true_and]
        congr 1
        refine any_congr' fun p _ => ?_
        rw [like_b hof]; unfold wrT
        cases (p.kind == 1 || p.kind == 3) <;> cases isOf p <;> cases decide (thingOf p = thingOf o) <;> rfl
      have hs : ([(thingOf o, Value.int .i64 i)]).filter (fun p => !r.any (wrT p.1)) = if r.any (wrT (thingOf o)) = true then [] else [(thingOf o, Value.int .i64 i)] := by
        simp only [List.filter_cons, List.filter_nil]
        cases r.any (wrT (thingOf o)) <;> rfl
      rw [hl, hs]
      cases r.any (wrT (thingOf o)) <;> exact List.Perm.refl _
    · have hw2 : (o.kind == 1 || o.kind == 3) = false := by simpa using hw
      have hwo : writesO o = false := hw2
      rw [if_neg (by rw [hw2]; simp), if_pos (by rw [hwo]; rfl)]
      refine (fin_go r (i + 1) l hu).trans ?_
      have hf : (l.filter fun p => !r.any (wrT p.1)) = l.filter fun p => !(o :: r).any (wrT p.1) := by
        congr 1
        funext p
        have : wrT p.1 o = false := by unfold wrT; rw [hw2]; simp
        rw [List.any_cons, this, Bool.false_or]
      rw [hf]
theorem refFin_ge : ∀ (r : List Op') (i : Nat), ∀ x ∈ refFin i r, (i : Int) ≤ x
  | [], i, x, hx => by simp [refFin] at hx
  | o :: r, i, x, hx => by
    simp only [refFin] at hx
    have ih := refFin_ge r (i + 1)
    split at hx
    · have := ih x hx; omega
    · split at hx
      · rcases List.mem_cons.1 hx with e | h
        · omega
        · have := ih x h; omega
      · have := ih x hx; omega
theorem refFin_up : ∀ (r : List Op') (i : Nat), (refFin i r).Pairwise (· < ·)
  | [], i => List.Pairwise.nil
  | o :: r, i => by
    simp only [refFin]
    split
    · exact refFin_up r _
    · split
      · exact List.Pairwise.cons (fun x hx => by have := refFin_ge r (i + 1) x hx; omega) (refFin_up r _)
      · exact refFin_up r _
theorem fin_eq {xs : List Op'} {R : List Int} (hp : List.Perm R ((finV 0 xs []).map fun p => intOf p.2)) (hs : R.Pairwise (· ≤ ·)) : R = refFin 0 xs := by
  have h := hp.trans (fin_go xs 0 [] List.Pairwise.nil)
  simp only [List.filter_nil, List.map_nil, List.nil_append] at h
  exact List.Perm.eq_of_pairwise (le := (· ≤ ·)) (fun a b _ _ h1 h2 => by omega) hs ((refFin_up xs 0).imp (fun h => by omega)) h
end Go.Proofs.Yticpadjheelipaa
