/- The inner layer: the views tell what the reference tells; a beginning's first fault is the whole's. -/
import Derived.Test.YticpadjheelipaaAlikeQ
import Derived.Test.YticpadjheelipaaRefP
namespace Go.Proofs.Yticpadjheelipaa
open Go.RowKit
set_option linter.all false
set_option maxRecDepth 10000

def stepV (f : Thing → View) (o : Op') : Thing → View := if isOf o = true then upd f (thingOf o) (behindV (f (thingOf o)) o) else f
theorem isOf_rw (o : Op') : isOf o = rwK o.kind := by
  unfold isOf rwK
  rw [Bool.eq_iff_iff]
  simp only [Bool.and_eq_true, decide_eq_true_eq, Bool.or_eq_true, beq_iff_eq]
  omega
theorem like_iff {p o : Op'} (ho : isOf o = true) : likeB p o = true ↔ isOf p = true ∧ thingOf p = thingOf o := by
  unfold likeB likeF
  rw [show rwK p.kind = isOf p from (isOf_rw p).symm, show rwK o.kind = isOf o from (isOf_rw o).symm, ho, keq]
  simp only [Bool.and_true, Bool.and_eq_true, decide_eq_true_eq, beq_iff_eq]
  constructor
  · rintro ⟨⟨h1, h2⟩, h3⟩
    refine ⟨h1, ?_⟩
    unfold thingOf; rw [h2, h3]
  · rintro ⟨h1, h2⟩
    unfold thingOf at h2
    injection h2 with h3 h4
    exact ⟨⟨h1, h4⟩, h3⟩
theorem stepV_unlike {f : Thing → View} {p o : Op'} (ho : isOf o = true) (h : (!likeB p o) = true) : stepV f p (thingOf o) = f (thingOf o) := by
  unfold stepV
  by_cases hp : isOf p = true
  · rw [if_pos hp]
    unfold upd
    rw [if_neg]
    intro e
    have := (like_iff ho).2 ⟨hp, e.symm⟩
    rw [this] at h; cases h
  · rw [if_neg hp]
theorem stepV_like {f : Thing → View} {p o : Op'} (ho : isOf o = true) (h : likeB p o = true) : stepV f p (thingOf o) = behindV (f (thingOf o)) p := by
  obtain ⟨h1, h2⟩ := (like_iff ho).1 h
  unfold stepV
  rw [if_pos h1]
  unfold upd
  rw [h2, if_pos rfl]
theorem refView_fold {o : Op'} (ho : o.kind = 2) : ∀ (P : List Op') (f : Thing → View) (kn : Bool) (vw : List Int), (f (thingOf o)).whole = kn → (f (thingOf o)).list = vw →
    ((P.foldl stepV f) (thingOf o)).whole = (refView o kn vw P).1 ∧ ((P.foldl stepV f) (thingOf o)).list = (refView o kn vw P).2
  | [], f, kn, vw, h1, h2 => ⟨h1, h2⟩
  | p :: P, f, kn, vw, h1, h2 => by
    have hof : isOf o = true := by unfold isOf; rw [ho]; rfl
    simp only [List.foldl_cons, refView]
    by_cases hl : (!likeB p o) = true
    · rw [if_pos hl]
      exact refView_fold ho P _ kn vw (by rw [stepV_unlike hof hl]; exact h1) (by rw [stepV_unlike hof hl]; exact h2)
    · rw [if_neg hl]
      have hl2 : likeB p o = true := by simpa using hl
      have hs := stepV_like (f := f) hof hl2
      obtain ⟨hp, ht⟩ := (like_iff hof).1 hl2
      have hpk : p.kind = 1 ∨ p.kind = 2 := by
        unfold thingOf at ht
        injection ht with h3 h4
        rw [ho] at h3
        simpa using h3
      rcases hpk with e | e
      · rw [if_pos (by simpa using e)]
        have hb : behindV (f (thingOf o)) p = { f (thingOf o) with list := (f (thingOf o)).list ++ [p.value] } := by unfold behindV; rw [if_pos e]
        exact refView_fold ho P _ kn _ (by rw [hs, hb]; exact h1) (by rw [hs, hb]; simp only; rw [h2])
      · rw [if_neg (by simp [e])]
        by_cases hh : p.has = true
        · rw [if_pos hh]
          have hb : behindV (f (thingOf o)) p = ⟨true, p.list, false, 0⟩ := by unfold behindV; rw [if_neg (by omega), if_neg (by omega), if_pos ⟨hh, e⟩]
          exact refView_fold ho P _ true _ (by rw [hs, hb]) (by rw [hs, hb])
        · rw [if_neg hh]
          have hb : behindV (f (thingOf o)) p = f (thingOf o) := by unfold behindV; rw [if_neg (by omega), if_neg (by omega), if_neg (fun h => hh h.1), if_neg hh]
          exact refView_fold ho P _ kn _ (by rw [hs, hb]; exact h1) (by rw [hs, hb]; exact h2)
theorem rightList_eq {o : Op'} {v : View} {P : List Op'} (ho : o.kind = 2) (h1 : v.whole = (refView o false [] P).1) (h2 : v.list = (refView o false [] P).2) : rightV v o = rightLR o P := by
  unfold rightV rightLR
  rw [if_neg (by omega), ← h1, ← h2]
  generalize v.list = vw
  generalize v.whole = kn
  by_cases hlt : o.list.length < vw.length
  · rw [if_pos (by simp [hlt]), decide_eq_false (by omega)]; simp
  · have e : ((o.list.length : Int) - vw.length).toNat = o.list.length - vw.length := by omega
    rw [e, decide_eq_true (show (0 : Int) ≤ (o.list.length : Int) - vw.length by omega)]
    have e2 : (((o.list.length : Int) - vw.length) == 0) = ((o.list.length : Int) == (vw.length : Int)) := by
      rw [Bool.eq_iff_iff]; simp only [beq_iff_eq]; omega
    rw [e2, decide_eq_false hlt]
    cases kn <;> cases ((o.list.length : Int) == (vw.length : Int)) <;> simp
theorem rightReg_eq {o : Op'} (ho : o.kind = 4) : ∀ (R : List Op'), rightV ((R.reverse.foldl stepV (fun _ => view0)) (thingOf o)) o = rightRR o R
  | [] => by simp only [List.reverse_nil, List.foldl_nil, rightRR]; unfold rightV view0; rw [if_pos ho]; rfl
  | p :: R => by
    have hof : isOf o = true := by unfold isOf; rw [ho]; rfl
    have ih := rightReg_eq ho R
    rw [List.reverse_cons, List.foldl_append]
    simp only [List.foldl_cons, List.foldl_nil, rightRR]
    generalize R.reverse.foldl stepV (fun _ => view0) = f at ih ⊢
    by_cases hl : (!likeB p o) = true
    · rw [if_pos (by rw [hl]; rfl), stepV_unlike hof hl]; exact ih
    · have hl2 : likeB p o = true := by simpa using hl
      have hs := stepV_like (f := f) hof hl2
      obtain ⟨hp, ht⟩ := (like_iff hof).1 hl2
      have hpk : p.kind = 3 ∨ p.kind = 4 := by
        have h5 : 1 ≤ p.kind ∧ p.kind ≤ 4 := by unfold isOf at hp; simpa using hp
        unfold thingOf at ht
        injection ht with h3 h4
        rw [ho] at h3
        have h6 : ¬ (p.kind = 1 ∨ p.kind = 2) := by simpa using h3
        omega
      rw [hs, hl2]
      rcases hpk with e | e
      · rw [if_neg (by simp [e]), if_pos (by simpa using e)]
        have hb : behindV (f (thingOf o)) p = ⟨true, [], false, p.value⟩ := by unfold behindV; rw [if_neg (by omega), if_pos e]
        rw [hb]; unfold rightV; rw [if_pos ho]
        cases o.isNil <;> simp
      · by_cases hh : p.has = true
        · rw [if_neg (by simp [hh]), if_neg (by simp [e])]
          have hb : behindV (f (thingOf o)) p = ⟨true, [], p.isNil, p.value⟩ := by unfold behindV; rw [if_neg (by omega), if_neg (by omega), if_neg (fun h => by omega), if_pos hh]
          rw [hb]; unfold rightV; rw [if_pos ho]
          cases o.isNil <;> cases p.isNil <;> simp
        · have hh2 : p.has = false := by simpa using hh
          rw [if_pos (by simp [e, hh2])]
          have hb : behindV (f (thingOf o)) p = f (thingOf o) := by unfold behindV; rw [if_neg (by omega), if_neg (by omega), if_neg (fun h => hh h.1), if_neg hh]
          rw [hb]; exact ih
theorem chk_eq {all : List Op'} : ∀ (r : List Op') (i : Nat), all.drop i = r → i ≤ all.length → checkV ((all.take i).foldl stepV (fun _ => view0)) i r = refChk all i r
  | [], _, _, _ => rfl
  | o :: r, i, hdr, hi => by
    have hlt : i < all.length := by
      rcases Nat.lt_or_ge i all.length with h | h
      · exact h
      · rw [List.drop_of_length_le h] at hdr; cases hdr
    rw [List.drop_eq_getElem_cons hlt] at hdr
    simp only [List.cons.injEq] at hdr
    obtain ⟨ho, hr⟩ := hdr
    have ih := chk_eq r (i + 1) hr (by omega)
    rw [List.take_succ_eq_append_getElem hlt, ho, List.foldl_append] at ih
    simp only [List.foldl_cons, List.foldl_nil] at ih
    generalize hf : (all.take i).foldl stepV (fun _ => view0) = f at ih ⊢
    have e1 : ((i : Int) + 1) = ((i + 1 : Nat) : Int) := by omega
    have hrd : readsO o = ((o.kind == 2 || o.kind == 4) && o.has) := by unfold readsO; rw [Bool.and_comm]
    by_cases hof : isOf o = true
    · have hst : stepV f o = upd f (thingOf o) (behindV (f (thingOf o)) o) := by unfold stepV; rw [if_pos hof]
      rw [hst] at ih
      simp only [refChk]
      by_cases hread : readsO o = true
      · rw [if_neg (by rw [← hrd, hread]; simp)]
        have hk : o.kind = 2 ∨ o.kind = 4 := by rw [hrd] at hread; simp only [Bool.and_eq_true, Bool.or_eq_true, beq_iff_eq] at hread; exact hread.1
        have hright : (!rightV (f (thingOf o)) o) = ((o.kind == 2 && !rightLR o (all.take i)) || (o.kind == 4 && !rightRR o (all.take i).reverse)) := by
          rcases hk with e | e
          · have h := refView_fold e (all.take i) (fun _ => view0) false [] rfl rfl
            rw [hf] at h
            rw [rightList_eq e h.1 h.2, e]; simp
          · have h := rightReg_eq e (all.take i).reverse
            rw [List.reverse_reverse, hf] at h
            rw [h, e]; simp
        cases hc : (!rightV (f (thingOf o)) o) with
        | true => rw [checkV_stop hof (by rw [hread, hc]; rfl), if_pos (by rw [← hright, hc])]
        | false => rw [checkV_go hof (by rw [hread, hc]; rfl), if_neg (by rw [← hright, hc]; simp), e1]; exact ih
      · have hread2 : readsO o = false := by simpa using hread
        rw [if_pos (by rw [← hrd, hread2]; rfl), checkV_go hof (by rw [hread2]; rfl), e1]; exact ih
    · have hof2 : isOf o = false := by simpa using hof
      have hst : stepV f o = f := by unfold stepV; rw [if_neg hof]
      rw [hst] at ih
      rw [checkV_skip (by rw [hof2]; rfl), e1]
      simp only [refChk]
      rw [if_pos]
      · exact ih
      · have : ¬ (o.kind = 2 ∨ o.kind = 4) := fun h => hof (by unfold isOf; rcases h with e | e <;> rw [e] <;> rfl)
        rw [Bool.not_eq_true', Bool.and_eq_false_iff]
        left
        simpa using this
theorem check_ref (xs : List Op') : checkV (fun _ => view0) 0 xs = refChk xs 0 xs := chk_eq (all := xs) xs 0 (by simp) (Nat.zero_le _)
theorem cv_range : ∀ (r : List Op') (f : Thing → View) (i : Int), 0 ≤ i → checkV f i r = -1 ∨ (i ≤ checkV f i r ∧ checkV f i r < i + r.length)
  | [], _, _, _ => .inl rfl
  | o :: r, f, i, hi => by
    simp only [checkV, List.length_cons]
    split
    · split
      · right; omega
      · rcases cv_range r (upd f (thingOf o) (behindV (f (thingOf o)) o)) (i + 1) (by omega) with h | h
        · exact .inl h
        · right; omega
    · rcases cv_range r f (i + 1) (by omega) with h | h
      · exact .inl h
      · right; omega
theorem cv_take : ∀ (r : List Op') (m : Nat) (f : Thing → View) (i : Int), 0 ≤ i → checkV f i (r.take m) = if i ≤ checkV f i r ∧ checkV f i r < i + m then checkV f i r else -1
  | [], m, f, i, hi => by
    rw [List.take_nil]
    by_cases hh : i ≤ checkV f i [] ∧ checkV f i [] < i + m
    · rw [if_pos hh]
    · rw [if_neg hh]; rfl
  | o :: r, 0, f, i, hi => by
    rw [if_neg (by omega)]; rfl
  | o :: r, m + 1, f, i, hi => by
    have h1 := cv_take r m (upd f (thingOf o) (behindV (f (thingOf o)) o)) (i + 1) (by omega)
    have h2 := cv_take r m f (i + 1) (by omega)
    have g1 := cv_range r (upd f (thingOf o) (behindV (f (thingOf o)) o)) (i + 1) (by omega)
    have g2 := cv_range r f (i + 1) (by omega)
    simp only [List.take_succ_cons, checkV]
    by_cases hof : isOf o = true
    · simp only [hof, if_true]
      by_cases hc : (readsO o && !rightV (f (thingOf o)) o) = true
      · simp only [hc, if_true]
        rw [if_pos (by omega)]
      · simp only [hc, if_false, Bool.false_eq_true]
        rw [h1]
        generalize checkV (upd f (thingOf o) (behindV (f (thingOf o)) o)) (i + 1) r = c at *
        by_cases hh : i + 1 ≤ c ∧ c < i + 1 + m
        · rw [if_pos hh, if_pos (by omega)]
        · rw [if_neg hh]
          rcases g1 with g | g
          · split <;> omega
          · rw [if_neg (by omega)]
    · simp only [hof, Bool.false_eq_true, if_false]
      rw [h2]
      generalize checkV f (i + 1) r = c at *
      by_cases hh : i + 1 ≤ c ∧ c < i + 1 + m
      · rw [if_pos hh, if_pos (by omega)]
      · rw [if_neg hh]
        rcases g2 with g | g
        · split <;> omega
        · rw [if_neg (by omega)]
theorem begins_true (xs : List Op') (m : Nat) : ((checkV (fun _ => view0) 0 xs == refChk xs 0 xs) && (((decide (0 ≤ checkV (fun _ => view0) 0 xs) && decide (checkV (fun _ => view0) 0 xs < (m : Int))) == decide (0 ≤ checkV (fun _ => view0) 0 (xs.take m)))) &&
    (decide (checkV (fun _ => view0) 0 (xs.take m) < 0) || (checkV (fun _ => view0) 0 (xs.take m) == checkV (fun _ => view0) 0 xs))) = true := by
  have ht := cv_take xs m (fun _ => view0) 0 (by omega)
  have hr := cv_range xs (fun _ => view0) 0 (by omega)
  rw [← check_ref, ht]
  generalize checkV (fun _ => view0) 0 xs = c at *
  simp only [beq_self_eq_true, Bool.true_and, Bool.and_eq_true, beq_iff_eq, Bool.or_eq_true, decide_eq_true_eq]
  by_cases hh : 0 ≤ c ∧ c < 0 + (m : Int)
  · rw [if_pos hh]
    refine ⟨?_, .inr rfl⟩
    rw [decide_eq_true hh.1, decide_eq_true (by omega)]; rfl
  · rw [if_neg hh]
    refine ⟨?_, .inl (by omega)⟩
    rw [Bool.eq_iff_iff]
    simp only [Bool.and_eq_true, decide_eq_true_eq]
    omega
end Go.Proofs.Yticpadjheelipaa
