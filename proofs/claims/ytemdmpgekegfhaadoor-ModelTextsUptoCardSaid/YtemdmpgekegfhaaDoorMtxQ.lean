/- Two states have one text just if they are the same: the plain law of ModelTexts. -/
import Derived.Test.YtemdmpgekegfhaaDoorMtx1
import Derived.Test.YtemdmpgekegfhaaDoorAb1
namespace Go.Proofs.YtemdmpgekegfhaaDoor
open Go.RowKit
set_option linter.all false
set_option maxRecDepth 10000

theorem behind_ok {fuel : Nat} (hf : 2000000000001 < fuel) (a : List Op') (ha : a.length ≤ 1048576) : ∃ f g l, assayerlaw16_behind_f fuel a = some (⟨f, g⟩, ⟨l⟩) ∧ Abs f g l ∧ Wf f g ∧ l.length ≤ a.length ∧ ∀ p ∈ l, p ∈ a := by
  obtain ⟨b, f, g, l, e1, e2, hA, hW, hl, hm, -⟩ := apply_both (f := fnil) (g := fnil) (l := []) (r := a) ⟨fun k => rfl, fun k => rfl⟩ wf_nil true (by simp; omega) hf
  refine ⟨f, g, l, ?_, hA, hW, by simpa using hl, fun p hp => (hm p hp).elim (fun h => by cases h) id⟩
  unfold assayerlaw16_behind_f
  rw [show model_New_f = ⟨fnil, fnil⟩ from rfl, e1, e2]; rfl
open Classical in
theorem same_l {fuel : Nat} (hf : 2000000000001 < fuel) {l m u : List Op'} (hl : l.length ≤ 2000000000000) (hm : m.length ≤ 2000000000000) : ∀ (r k : Nat), k + r = u.length → assayerref16_State_Same_l2 fuel u ⟨l⟩ ⟨m⟩ k r = some (if ∀ p ∈ u.drop k, rg l p.key = rg m p.key ∧ ls l p.key = ls m p.key then .inr () else .inl false)
  | 0, k, h => by
    unfold assayerref16_State_Same_l2
    rw [if_pos]
    intro p hp
    rw [List.drop_of_length_le (by omega)] at hp; cases hp
  | r + 1, k, h => by
    unfold assayerref16_State_Same_l2
    have hk : k < u.length := by omega
    rw [rdI_ok (List.drop_eq_getElem_cons hk), List.drop_eq_getElem_cons hk]
    simp only [Option.bind_some]
    generalize u[k] = q
    rw [val_ok l _ hl hf, val_ok m _ hm hf]
    simp only [Option.bind_some]
    have ih := same_l hf hl hm r (k + 1) (u := u) (by omega)
    by_cases h1 : rg l q.key = rg m q.key
    · rw [h1, if_neg (by simp), if_neg (by simp), list_ok l _ hl, list_ok m _ hm]
      simp only [Option.bind_some]
      rw [eqB_ok]
      simp only [Option.bind_some]
      by_cases h2 : ls l q.key = ls m q.key
      · rw [if_neg (by simp [h2]), ih]
        by_cases hd : ∀ p ∈ u.drop (k + 1), rg l p.key = rg m p.key ∧ ls l p.key = ls m p.key
        · have hd2 : ∀ p ∈ q :: u.drop (k + 1), rg l p.key = rg m p.key ∧ ls l p.key = ls m p.key := fun p hp => (List.mem_cons.1 hp).elim (fun e => by subst e; exact ⟨h1, h2⟩) (hd p)
          rw [if_pos hd, if_pos hd2]
        · have hd2 : ¬ ∀ p ∈ q :: u.drop (k + 1), rg l p.key = rg m p.key ∧ ls l p.key = ls m p.key := fun h => hd fun p hp => h p (by simp [hp])
          rw [if_neg hd, if_neg hd2]
      · have hd2 : ¬ ∀ p ∈ q :: u.drop (k + 1), rg l p.key = rg m p.key ∧ ls l p.key = ls m p.key := fun h => h2 (h q (by simp)).2
        rw [if_neg hd2, if_pos (by simp [h2])]
    · have hd2 : ¬ ∀ p ∈ q :: u.drop (k + 1), rg l p.key = rg m p.key ∧ ls l p.key = ls m p.key := fun h => h1 (h q (by simp)).1
      rw [if_neg hd2]
      have h3 : ((rg l q.key).getD 0 != (rg m q.key).getD 0) = true ∨ (!((rg l q.key).isSome == (rg m q.key).isSome)) = true := by
        cases ha : rg l q.key with
        | none =>
          cases hb : rg m q.key with
          | none => rw [ha, hb] at h1; exact (h1 rfl).elim
          | some y => right; rfl
        | some x =>
          cases hb : rg m q.key with
          | none => right; rfl
          | some y =>
            left
            rw [ha, hb] at h1
            simp only [Option.getD_some, bne_iff_ne, ne_eq]
            intro e; exact h1 (by rw [e])
      by_cases h4 : ((rg l q.key).getD 0 != (rg m q.key).getD 0) = true
      · rw [if_pos h4]
      · rw [if_neg h4, if_pos (h3.resolve_left h4)]
open Classical in
theorem same_ok {fuel : Nat} (hf : 2000000000001 < fuel) {l m : List Op'} (hl : l.length ≤ 1048576) (hm : m.length ≤ 1048576) : assayerref16_State_Same_f fuel ⟨l⟩ ⟨m⟩ = some (decide (SameL l m)) := by
  unfold assayerref16_State_Same_f
  have h1 : appL 64 [] l = some l := by unfold appL; rw [if_pos (by simp only [List.length_nil]; omega)]; rfl
  have h2 : appL 64 l m = some (l ++ m) := by unfold appL; rw [if_pos (by omega)]
  dsimp only
  rw [h1]
  simp only [Option.bind_some]
  rw [h2]
  simp only [Option.bind_some]
  rw [same_l hf (by omega) (by omega) _ 0 (by rw [Int.toNat_natCast]; omega), List.drop_zero]
  by_cases h : ∀ p ∈ l ++ m, rg l p.key = rg m p.key ∧ ls l p.key = ls m p.key
  · rw [if_pos h, decide_eq_true (show SameL l m from h)]; rfl
  · rw [if_neg h, decide_eq_false (show ¬ SameL l m from h)]; rfl
theorem toList_eq (a b : ByteArray) : (a.toList == b.toList) = decide (a = b) := key_eq a b
theorem Okk.of {a l : List Op'} (h : Okk a) (hm : ∀ p ∈ l, p ∈ a) : Okk l := fun o ho => h o (hm o ho)
theorem modelTexts_true (a0 a1 : List Op') (h0 : a0.length ≤ 1048576) (h1 : a1.length ≤ 1048576) (k0 : Okk a0) (k1 : Okk a1) : assayerlaw16_ModelTexts_f 2000000000002 a0 a1 = some true := by
  unfold assayerlaw16_ModelTexts_f
  obtain ⟨f, g, l, e1, hA, hW, hl, hm⟩ := behind_ok (fuel := 2000000000002) (by omega) a0 h0
  obtain ⟨f', g', l', e1', hA', hW', hl', hm'⟩ := behind_ok (fuel := 2000000000002) (by omega) a1 h1
  have t0 := text_ok hA hW (by omega) (k0.of hm)
  have t1 := text_ok hA' hW' (by omega) (k1.of hm')
  rw [e1, e1']
  simp only [Option.bind_some]
  rw [t0, t1]
  simp only [Option.bind_some]
  rw [same_ok (by omega) (by omega) (by omega)]
  simp only [Option.bind_some]
  rw [toList_eq]
  have hs : decide (ba (textS f g) = ba (textS f' g')) = @decide (SameL l l') (Classical.propDecidable _) := by
    apply decide_eq_decide.2
    rw [← text_same hA hW hA' hW']
    exact ⟨ba_inj, fun h => by rw [h]⟩
  rw [hs]
  simp only [beq_self_eq_true, if_true]
  show (model_State_Text_f ⟨f, g⟩).bind _ = _
  rw [t0]
  simp only [Option.bind_some]
  rw [toList_eq]; simp
end Go.Proofs.YtemdmpgekegfhaaDoor
