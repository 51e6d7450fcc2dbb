/- InnerAlike: without writes all reads of a thing must be alike: that what is computed is true. -/
import Derived.Test.YticpadjheelipaaAlikeP
namespace Go.Proofs.Yticpadjheelipaa
open Go.RowKit
set_option linter.all false
set_option maxRecDepth 10000

theorem keq {a b : ByteArray} : (a.toList == b.toList) = decide (a = b) := by
  rw [Bool.eq_iff_iff, beq_iff_eq, decide_eq_true_eq]
  constructor
  · intro h
    have h2 : a.data.toList = b.data.toList := by
      rw [← ByteArray.toList_eq, ← ByteArray.toList_eq]; exact h
    cases a; cases b; simp only at h2
    congr 1; exact Array.toList_inj.1 h2
  · intro h; rw [h]
def viewOf (p : Op') : View := if p.kind = 2 then ⟨true, p.list, false, 0⟩ else ⟨true, [], p.isNil, p.value⟩
theorem rd_kind {o : Op'} (h : isRd o = true) : o.kind = 2 ∨ o.kind = 4 := by
  unfold isRd at h
  simpa using h
theorem right_view0 {o : Op'} (h : isRd o = true) : rightV view0 o = true := by
  unfold rightV view0
  rcases rd_kind h with e | e
  · rw [if_neg (by omega)]; simp
  · rw [if_pos e]; simp
theorem right_viewOf {o p : Op'} (ho : isRd o = true) (hk : o.kind = p.kind) : rightV (viewOf p) o = sameR o p := by
  unfold rightV viewOf sameR
  rcases rd_kind ho with e | e
  · have hp : p.kind = 2 := by omega
    rw [if_pos hp, if_neg (by omega), if_neg (by omega)]
    simp only
    rw [Bool.eq_iff_iff]
    simp only [Bool.and_eq_true, Bool.or_eq_true, decide_eq_true_eq, beq_iff_eq, Bool.not_true, Bool.false_eq_true, or_false]
    constructor
    · rintro ⟨⟨h1, h2⟩, h3⟩
      rw [h2] at h3; simpa using h3
    · intro h
      rw [h]; simp
  · have hp : ¬ p.kind = 2 := by omega
    rw [if_neg hp, if_pos e, if_pos e]
    simp only [Bool.not_true, Bool.false_or]
    cases p.isNil <;> cases o.isNil <;> simp [Bool.beq_eq_decide_eq, eq_comm]
theorem behind_rd {o : Op'} (v : View) (h : isRd o = true) : behindV v o = if o.has = true then viewOf o else v := by
  unfold behindV viewOf
  rcases rd_kind h with e | e
  · rw [if_neg (by omega), if_neg (by omega)]
    by_cases hh : o.has = true
    · rw [if_pos ⟨hh, e⟩, if_pos hh, if_pos e]
    · rw [if_neg (fun k => hh k.1), if_neg hh, if_neg hh]
  · rw [if_neg (by omega), if_neg (by omega)]
    by_cases hh : o.has = true
    · rw [if_neg (fun k => by omega), if_pos hh, if_pos hh, if_neg (by omega)]
    · rw [if_neg (fun k => hh k.1), if_neg hh, if_neg hh]
theorem thing_same {o p : Op'} (ho : isRd o = true) (hp : isRd p = true) : thingOf o = thingOf p ↔ o.kind = p.kind ∧ o.key = p.key := by
  unfold thingOf
  constructor
  · intro h
    injection h with h1 h2
    refine ⟨?_, h2⟩
    rcases rd_kind ho with e | e <;> rcases rd_kind hp with e2 | e2 <;> rw [e, e2] at h1 ⊢ <;> simp at h1 ⊢
  · rintro ⟨h1, h2⟩; rw [h1, h2]
theorem sameR_trans {o p q : Op'} (h1 : o.kind = p.kind) (a : sameR o p = true) (b : sameR q p = true) (h2 : q.kind = p.kind) : sameR o q = true := by
  unfold sameR at *
  by_cases e : p.kind = 4
  · rw [if_pos (by omega)] at a b ⊢
    simp only [Bool.and_eq_true, Bool.or_eq_true, beq_iff_eq] at a b ⊢
    obtain ⟨a1, a2⟩ := a
    obtain ⟨b1, b2⟩ := b
    refine ⟨a1.trans b1.symm, ?_⟩
    rcases a2 with a2 | a2
    · exact .inl a2
    · rcases b2 with b2 | b2
      · left; rw [a1, ← b1]; exact b2
      · right; rw [a2, b2]
  · rw [if_neg (by omega)] at a b ⊢
    simp only [decide_eq_true_eq] at a b ⊢
    rw [a, b]
theorem sameR_symm {o p : Op'} (h1 : o.kind = p.kind) (a : sameR o p = true) : sameR p o = true := by
  unfold sameR at *
  by_cases e : p.kind = 4
  · rw [if_pos (by omega)] at a ⊢
    simp only [Bool.and_eq_true, Bool.or_eq_true, beq_iff_eq] at a ⊢
    obtain ⟨a1, a2⟩ := a
    exact ⟨a1.symm, a2.imp (fun h => by rw [← a1]; exact h) (fun h => h.symm)⟩
  · rw [if_neg (by omega)] at a ⊢
    simp only [decide_eq_true_eq] at a ⊢
    exact a.symm
theorem sameR_refl (o : Op') : sameR o o = true := by unfold sameR; split <;> simp
/-- What is known behind some reads that were alike. -/
def Alk (f : Thing → View) (done : List Op') : Prop :=
  ∀ t, (f t = view0 ∧ ∀ p ∈ done, p.has = true → thingOf p ≠ t) ∨ (∃ p ∈ done, p.has = true ∧ thingOf p = t ∧ f t = viewOf p ∧ ∀ q ∈ done, q.has = true → thingOf q = t → sameR q p = true)
theorem clash {f : Thing → View} {done : List Op'} {o : Op'} (hA : Alk f done) (hd : ∀ p ∈ done, isRd p = true) (ho : isRd o = true) : (readsO o && !rightV (f (thingOf o)) o) = done.any (wantC (-1) o) := by
  have hr : readsO o = o.has := by unfold readsO; unfold isRd at ho; rw [ho, Bool.and_true]
  rw [hr]
  have hw : ∀ p ∈ done, wantC (-1) o p = (o.has && (p.has && (decide (thingOf o = thingOf p) && !sameR o p))) := fun p hp => by
    unfold wantC
    rw [keq]
    have : ((o.kind == p.kind) && decide (o.key = p.key)) = decide (thingOf o = thingOf p) := by
      rw [Bool.eq_iff_iff]; simp only [Bool.and_eq_true, beq_iff_eq, decide_eq_true_eq]; exact (thing_same ho (hd p hp)).symm
    rw [← this]
    cases o.has <;> cases p.has <;> cases (o.kind == p.kind) <;> cases decide (o.key = p.key) <;> simp
  rw [Bool.eq_iff_iff, List.any_eq_true]
  rcases hA (thingOf o) with ⟨h1, h2⟩ | ⟨p, hp, hph, hpt, h1, h2⟩
  · rw [h1, right_view0 ho]
    simp only [Bool.not_true, Bool.and_false, Bool.false_eq_true, false_iff]
    rintro ⟨p, hp, h⟩
    rw [hw p hp] at h
    simp only [Bool.and_eq_true, decide_eq_true_eq] at h
    exact h2 p hp h.2.1 h.2.2.1.symm
  · have hk := (thing_same ho (hd p hp)).1 hpt.symm
    rw [h1, right_viewOf ho hk.1]
    constructor
    · intro h
      refine ⟨p, hp, ?_⟩
      rw [hw p hp]
      simp only [Bool.and_eq_true] at h ⊢
      exact ⟨h.1, hph, by simpa using hpt.symm, h.2⟩
    · rintro ⟨q, hq, h⟩
      rw [hw q hq] at h
      simp only [Bool.and_eq_true, decide_eq_true_eq, Bool.not_eq_true'] at h ⊢
      refine ⟨h.1, ?_⟩
      cases hs : sameR o p with
      | false => rfl
      | true =>
        have hq2 := h2 q hq h.2.1 h.2.2.1.symm
        have := sameR_trans hk.1 hs hq2 ((thing_same (hd q hq) (hd p hp)).1 (h.2.2.1.symm.trans hpt.symm)).1
        rw [h.2.2.2] at this; cases this
theorem alk_step {f : Thing → View} {done : List Op'} {o : Op'} (hA : Alk f done) (hd : ∀ p ∈ done, isRd p = true) (ho : isRd o = true) (hn : (readsO o && !rightV (f (thingOf o)) o) = false) :
    Alk (upd f (thingOf o) (behindV (f (thingOf o)) o)) (done ++ [o]) := by
  have hr : readsO o = o.has := by unfold readsO; unfold isRd at ho; rw [ho, Bool.and_true]
  intro t
  unfold upd
  by_cases e : t = thingOf o
  · rw [if_pos e]
    rw [behind_rd _ ho]
    by_cases hh : o.has = true
    · rw [if_pos hh]
      refine .inr ⟨o, by simp, hh, e.symm, rfl, fun q hq hqh hqt => ?_⟩
      rcases List.mem_append.1 hq with hq | hq
      · rcases hA (thingOf o) with ⟨h1, h2⟩ | ⟨p, hp, hph, hpt, h1, h2⟩
        · exact absurd (hqt.trans e) (h2 q hq hqh)
        · have hk := (thing_same ho (hd p hp)).1 hpt.symm
          rw [h1, right_viewOf ho hk.1, hr, hh] at hn
          have hs : sameR o p = true := by simpa using hn
          have hq2 := h2 q hq hqh (hqt.trans e)
          have hkq := ((thing_same (hd q hq) (hd p hp)).1 ((hqt.trans e).trans hpt.symm)).1
          exact sameR_symm (hk.1.trans hkq.symm) (sameR_trans hk.1 hs hq2 hkq)
      · rw [List.mem_singleton.1 hq]; exact sameR_refl o
    · rw [if_neg hh]
      rcases hA (thingOf o) with ⟨h1, h2⟩ | ⟨p, hp, hph, hpt, h1, h2⟩
      · refine .inl ⟨h1, fun q hq hqh => ?_⟩
        rcases List.mem_append.1 hq with hq | hq
        · rw [e]; exact h2 q hq hqh
        · rw [List.mem_singleton.1 hq] at hqh; exact absurd hqh hh
      · refine .inr ⟨p, List.mem_append_left _ hp, hph, hpt.trans e.symm, h1, fun q hq hqh hqt => ?_⟩
        rcases List.mem_append.1 hq with hq | hq
        · exact h2 q hq hqh (hqt.trans e)
        · rw [List.mem_singleton.1 hq] at hqh; exact absurd hqh hh
  · rw [if_neg e]
    rcases hA t with ⟨h1, h2⟩ | ⟨p, hp, hph, hpt, h1, h2⟩
    · refine .inl ⟨h1, fun q hq hqh => ?_⟩
      rcases List.mem_append.1 hq with hq | hq
      · exact h2 q hq hqh
      · rw [List.mem_singleton.1 hq]; exact fun h => e h.symm
    · refine .inr ⟨p, List.mem_append_left _ hp, hph, hpt, h1, fun q hq hqh hqt => ?_⟩
      rcases List.mem_append.1 hq with hq | hq
      · exact h2 q hq hqh hqt
      · rw [List.mem_singleton.1 hq] at hqt; exact absurd hqt.symm e
theorem wantIn_old {o : Op'} {i w : Int} (hw : 0 ≤ w) : ∀ l, wantIn o i w l = w
  | [] => rfl
  | p :: l => by
    have : wantC w o p = false := by unfold wantC; rw [decide_eq_false (by omega)]; rfl
    simp only [wantIn, this, Bool.false_eq_true, if_false]
    exact wantIn_old hw l
theorem wantIn_new {o : Op'} {i : Int} (hi : 0 ≤ i) : ∀ l, wantIn o i (-1) l = if l.any (wantC (-1) o) = true then i else -1
  | [] => rfl
  | p :: l => by
    have ih := wantIn_new (o := o) hi l
    have hany : (p :: l).any (wantC (-1) o) = (wantC (-1) o p || l.any (wantC (-1) o)) := rfl
    simp only [wantIn]
    by_cases h : wantC (-1) o p = true
    · rw [if_pos h, wantIn_old hi, if_pos (by rw [hany, h]; rfl)]
    · have h2 : wantC (-1) o p = false := by simpa using h
      rw [if_neg h, ih]
      by_cases h3 : l.any (wantC (-1) o) = true
      · rw [if_pos h3, if_pos (by rw [hany, h3, Bool.or_true])]
      · rw [if_neg h3, if_neg (by rw [hany, h2, Bool.false_or]; exact h3)]
theorem wantAll_old {all : List Op'} {w : Int} (hw : 0 ≤ w) : ∀ (r : List Op') (i : Nat), wantAll all i w r = w
  | [], _ => rfl
  | o :: r, i => by
    simp only [wantAll]
    rw [wantIn_old hw]; exact wantAll_old hw r _
theorem alike_main {all : List Op'} (hall : ∀ p ∈ all, isRd p = true) : ∀ (r : List Op') (i : Nat) (f : Thing → View), all.drop i = r → i ≤ all.length → Alk f (all.take i) → checkV f i r = wantAll all i (-1) r
  | [], _, _, _, _, _ => rfl
  | o :: r, i, f, hdr, hi, hA => by
    have hlt : i < all.length := by
      rcases Nat.lt_or_ge i all.length with h | h
      · exact h
      · rw [List.drop_of_length_le h] at hdr; cases hdr
    rw [List.drop_eq_getElem_cons hlt] at hdr
    simp only [List.cons.injEq] at hdr
    obtain ⟨ho, hr⟩ := hdr
    have hor : isRd o = true := hall o (by rw [← ho]; exact List.getElem_mem hlt)
    have hd : ∀ p ∈ all.take i, isRd p = true := fun p hp => hall p (List.mem_of_mem_take hp)
    have hof : isOf o = true := by
      unfold isOf
      rcases rd_kind hor with e | e <;> rw [e] <;> rfl
    have hcl := clash hA hd hor
    simp only [wantAll]
    rw [wantIn_new (by omega), ← hcl]
    cases hc : (readsO o && !rightV (f (thingOf o)) o) with
    | true =>
      rw [checkV_stop hof hc, if_pos rfl, wantAll_old (by omega)]
    | false =>
      rw [checkV_go hof hc, if_neg (by simp)]
      have := alike_main hall r (i + 1) (upd f (thingOf o) (behindV (f (thingOf o)) o)) hr (by omega) (by rw [List.take_succ_eq_append_getElem hlt, ho]; exact alk_step hA hd hor hc)
      rw [← this]; simp
theorem alike_true (xs : List Op') : (checkV (fun _ => view0) 0 (xs.filter isRd) == wantAll (xs.filter isRd) 0 (-1) (xs.filter isRd)) = true := by
  rw [beq_iff_eq]
  exact alike_main (fun p hp => (List.mem_filter.1 hp).2) _ 0 _ (by simp) (Nat.zero_le _) (fun t => .inl ⟨rfl, fun p hp => by simp at hp⟩)
end Go.Proofs.Yticpadjheelipaa
