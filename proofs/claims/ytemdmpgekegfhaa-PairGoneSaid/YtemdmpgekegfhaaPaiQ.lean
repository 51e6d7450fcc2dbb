/- The plain laws of PairChecks, PairBegins and PairGone. -/
import Derived.Test.YtemdmpgekegfhaaPaiQ3
namespace Go.Proofs.Ytemdmpgekegfhaa
open Go.RowKit
set_option linter.all false
set_option maxRecDepth 10000

structure HypE (l : List Ev) : Prop where
  keys : KeysOk l
  len : l.length * 40 ≤ 140737488355328
  ops : ∀ e ∈ l, e.ops.length * 64 ≤ 140737488355328
theorem hypE {s : SH} {v : Value} {l : List Ev} (h : kEv.Sl s v l) : HypE l := by
  obtain ⟨A, c, rfl, h1, h2, -⟩ := id h
  have hel : ∀ (i : Nat) (hi : i < l.length), ∃ A2 c2, kOp.Sl s (.slice A2 l[i].ops.length c2) l[i].ops := fun i hi => by
    obtain ⟨b, off, cs, -, hK, -⟩ := h.elem i hi
    obtain ⟨A2, c2, -, -, -, h⟩ := kEv_op hK
    exact ⟨A2, c2, h⟩
  refine ⟨fun e he o ho => ?_, h2, fun e he => ?_⟩
  · obtain ⟨i, hi, rfl⟩ := List.mem_iff_getElem.1 he
    obtain ⟨A2, c2, h3⟩ := hel i hi
    obtain ⟨j, hj, rfl⟩ := List.mem_iff_getElem.1 ho
    obtain ⟨b, off, cs, -, hK, -⟩ := h3.elem j hj
    obtain ⟨A3, c3, -, -, h4, -⟩ := kOp_op hK
    exact h4
  · obtain ⟨i, hi, rfl⟩ := List.mem_iff_getElem.1 he
    obtain ⟨A2, c2, A', c', -, -, h3, -⟩ := hel i hi
    exact h3
theorem ops_l : ∀ (r : List Op') (k : Nat) (ys : List Op'), (ys.length + r.length) * 64 ≤ 140737488355328 → assayerplain_Ops_l3 k r ys = some (ys ++ r)
  | [], k, ys, _ => by simp [assayerplain_Ops_l3]
  | x :: r, k, ys, h => by
    simp only [List.length_cons] at h
    unfold assayerplain_Ops_l3
    rw [app_ok (by omega)]
    simp only [Option.bind_some]
    rw [ops_l r (k + 1) _ (by rw [List.length_append, List.length_singleton]; omega)]
    simp
theorem ops_ok (l : List Op') (h : l.length * 64 ≤ 140737488355328) : assayerplain_Ops_f l = some l := by
  unfold assayerplain_Ops_f
  rw [ops_l l 0 [] (by simpa using h)]; rfl
theorem evs_l : ∀ (r : List Ev) (k : Nat) (ys : List Ev), (ys.length + r.length) * 40 ≤ 140737488355328 → (∀ e ∈ r, e.ops.length * 64 ≤ 140737488355328) → assayerplain_Events_l3 k r ys = some (ys ++ r)
  | [], k, ys, _, _ => by simp [assayerplain_Events_l3]
  | x :: r, k, ys, h, ho => by
    simp only [List.length_cons] at h
    unfold assayerplain_Events_l3
    rw [ops_ok x.ops (ho x (by simp))]
    simp only [Option.bind_some]
    rw [app_ok (by omega)]
    simp only [Option.bind_some]
    rw [evs_l r (k + 1) _ (by rw [List.length_append, List.length_singleton]; omega) fun e he => ho e (List.mem_cons_of_mem _ he)]
    simp
theorem evs_ok {l : List Ev} (h : HypE l) : assayerplain_Events_f l = some l := by
  unfold assayerplain_Events_f
  rw [evs_l l 0 [] (by simpa using h.len) h.ops]; rfl
theorem sameO (a : Op') : assayerplain_SameOps_1_f a a = some true := by
  unfold assayerplain_SameOps_1_f
  rw [eqA_ok]
  simp
theorem sameOs_l (ys : List Op') : ∀ (r : List Op') (k : Nat), r = ys.drop k → slices_EqualFunc_Op_assayerplain_SameOps_1_l4 ys k r = some (.inr ())
  | [], k, h => rfl
  | x :: r, k, h => by
    obtain ⟨hk, rfl, h'⟩ := drop_next h.symm
    unfold slices_EqualFunc_Op_assayerplain_SameOps_1_l4
    rw [rdI_at hk]
    simp only [Option.bind_some]
    rw [sameO]
    simp only [Option.bind_some]
    rw [if_neg (by decide)]
    exact sameOs_l ys r (k + 1) h'
theorem sameOs (l : List Op') : assayerplain_SameOps_f l l = some true := by
  unfold assayerplain_SameOps_f slices_EqualFunc_Op_assayerplain_SameOps_1_f
  rw [if_neg (by simp), sameOs_l l l 0 rfl]; rfl
theorem sameE (e : Ev) : assayerplain_SameEvents_1_f e e = some true := by
  unfold assayerplain_SameEvents_1_f
  rw [sameOs]
  simp
theorem sameEs_l (ys : List Ev) : ∀ (r : List Ev) (k : Nat), r = ys.drop k → slices_EqualFunc_Event_assayerplain_SameEvents_1_l4 ys k r = some (.inr ())
  | [], k, h => rfl
  | x :: r, k, h => by
    obtain ⟨hk, rfl, h'⟩ := drop_next h.symm
    unfold slices_EqualFunc_Event_assayerplain_SameEvents_1_l4
    rw [rdI_at hk]
    simp only [Option.bind_some]
    rw [sameE]
    simp only [Option.bind_some]
    rw [if_neg (by decide)]
    exact sameEs_l ys r (k + 1) h'
theorem sameEs (l : List Ev) : assayerplain_SameEvents_f l l = some true := by
  unfold assayerplain_SameEvents_f slices_EqualFunc_Event_assayerplain_SameEvents_1_f
  rw [if_neg (by simp), sameEs_l l l 0 rfl]; rfl
/-- The program's answer and the document's are one. -/
theorem both (l : List Ev) (hk : KeysOk l) {fuel : Nat} (hf : 140737488351233 < fuel) :
    ∃ e at_ why, pair_Check_f l = some e ∧ assayerref03_Check_f fuel l = some (at_, why) ∧ assayerplain_Is_f e at_ why = true ∧ (why = 0 → canH l = true ∧ runA s0 0 l = none) := by
  rw [check_ok, ref_ok l hk hf]
  by_cases hc : canH l = true
  · rw [if_pos hc, if_pos hc]
    cases hr : runA s0 0 l with
    | none => exact ⟨none, 0, 0, rfl, rfl, rfl, fun _ => ⟨hc, rfl⟩⟩
    | some p =>
      refine ⟨some ⟨(p.1 : Int), p.2⟩, _, _, rfl, rfl, ?_, fun h => ?_⟩
      · unfold assayerplain_Is_f assayerplain_Why_f; simp
      · exfalso
        have ne : ∀ (r : List Ev) (s : PS) (k : Nat) (q : Nat × Int), runA s k r = some q → q.2 ≠ 0 := by
          intro r
          induction r with
          | nil => intro s k q h; cases h
          | cons x r ih =>
            intro s k q h
            unfold runA at h
            split at h
            · rename_i h1; cases h; exact h1
            · split at h
              · cases h; exact (by decide : (33 : Int) ≠ 0)
              · exact ih _ _ _ h
        exact ne l s0 0 p hr h
  · rw [if_neg hc, if_neg hc]
    exact ⟨some ⟨0, 1⟩, 0, 1, rfl, rfl, by decide, fun h => by cases h⟩
theorem pairChecks_true (l : List Ev) (h : HypE l) {fuel : Nat} (hf : 140737488351233 < fuel) : assayerlaw03_PairChecks_f fuel l = some true := by
  unfold assayerlaw03_PairChecks_f
  obtain ⟨e, at_, why, h1, h2, h3, -⟩ := both l h.keys hf
  rw [evs_ok h]
  simp only [Option.bind_some]
  rw [h1, h2]
  simp only [Option.bind_some]
  rw [h3, if_pos rfl, sameEs]; rfl
theorem take_run : ∀ (l : List Ev) (s : PS) (k m : Nat), runA s k l = none → runA s k (l.take m) = none
  | [], s, k, m, _ => by simp [runA]
  | x :: l, s, k, 0, _ => by simp [runA]
  | x :: l, s, k, m + 1, h => by
    rw [List.take_succ_cons]
    unfold runA at h ⊢
    by_cases h1 : errA s x ≠ 0
    · rw [if_pos h1] at h; cases h
    · rw [if_neg h1] at h ⊢
      cases hm : mixA x.ops s.kd with
      | none => rw [hm] at h; cases h
      | some d => rw [hm] at h; exact take_run l _ _ m h
theorem take_can (l : List Ev) (m : Nat) (h : canH l = true) : canH (l.take m) = true := by
  unfold canH at h ⊢
  rw [Bool.and_eq_true, decide_eq_true_eq] at h ⊢
  refine ⟨by rw [List.length_take]; omega, ?_⟩
  rw [List.all_eq_true] at h ⊢
  exact fun e he => h.2 e (List.mem_of_mem_take he)
theorem u64_small {x : Int} (h0 : 0 ≤ x) (h1 : x < 18446744073709551616) : IntKind.u64.wrap x = x := by
  have e1 : (2 : Int) ^ 64 = 18446744073709551616 := rfl
  simp only [IntKind.wrap, IntKind.bits, IntKind.signed, e1, Bool.false_and, Bool.false_eq_true, if_false]
  omega
theorem u64_nn (x : Int) : 0 ≤ IntKind.u64.wrap x := by
  have e1 : (2 : Int) ^ 64 = 18446744073709551616 := rfl
  simp only [IntKind.wrap, IntKind.bits, IntKind.signed, e1, Bool.false_and, Bool.false_eq_true, if_false]
  omega
theorem rem_take {α : Type} (l : List α) (n : Int) (hl : l.length ≤ 140737488355328) : ∃ m : Nat, ∃ u, remI .u64 (IntKind.u64.wrap n) (IntKind.u64.wrap (IntKind.i64.wrap ((l.length : Int) + 1))) = some u ∧ sliJ l (IntKind.i64.wrap u) = some (l.take m) := by
  rw [wrap_small (by omega) (by omega), u64_small (x := (l.length : Int) + 1) (by omega) (by omega)]
  have h0 := u64_nn n
  generalize IntKind.u64.wrap n = x at h0 ⊢
  unfold remI
  rw [if_neg (by omega)]
  have h1 : x.tmod ((l.length : Int) + 1) = x % ((l.length : Int) + 1) := Int.tmod_eq_emod_of_nonneg h0
  rw [h1]
  have h2 := Int.emod_nonneg x (b := (l.length : Int) + 1) (by omega)
  have h3 := Int.emod_lt_of_pos x (b := (l.length : Int) + 1) (by omega)
  refine ⟨(x % ((l.length : Int) + 1)).toNat, _, rfl, ?_⟩
  rw [wrap_small (by omega) (by omega)]
  unfold sliJ
  rw [if_pos ⟨h2, by omega⟩]
theorem pairBegins_true (l : List Ev) (n : Int) (h : HypE l) {fuel : Nat} (hf : 140737488351233 < fuel) : assayerlaw03_PairBegins_f fuel l n = some true := by
  unfold assayerlaw03_PairBegins_f
  obtain ⟨e, at_, why, h1, h2, h3, h4⟩ := both l h.keys hf
  rw [h1, h2]
  simp only [Option.bind_some]
  obtain ⟨m, u, h5, h6⟩ := rem_take l n (by have := h.len; omega)
  rw [h5]
  simp only [Option.bind_some]
  rw [h6]
  simp only [Option.bind_some]
  rw [check_ok]
  simp only [Option.bind_some]
  rw [h3]
  by_cases hw : why = 0
  · obtain ⟨h7, h8⟩ := h4 hw
    rw [if_pos (take_can l m h7), take_run l s0 0 m h8]
    simp
  · have : (why != 0) = true := by simpa using hw
    rw [this]; rfl
theorem gone_l0 (u : Int × Int) (hu : (u.2 == 0) = false) : ∀ (r : List Ev) (k : Nat) (o g : Int → Option Bool), ∃ x, assayerlaw03_PairGone_l7 u k r o g = .inr x
  | [], k, o, g => ⟨_, rfl⟩
  | x :: r, k, o, g => by
    unfold assayerlaw03_PairGone_l7
    rw [hu, if_neg (by simp)]
    exact gone_l0 u hu r (k + 1) _ _
theorem gone_l (u : Int × Int) : ∀ (r : List Ev) (k j : Nat) (o g : Int → Option Bool) (s : PS), runA s j r = none → (∀ p, (o p).getD false = (s.op p).isSome) → (∀ p, (g p).getD false = s.gn p) → (∀ p, (s.op p).isSome = true → s.gn p = false) →
    ∃ x, assayerlaw03_PairGone_l7 u k r o g = .inr x
  | [], k, j, o, g, s, _, _, _, _ => ⟨_, rfl⟩
  | x :: r, k, j, o, g, s, hr, ho, hg, hn => by
    unfold runA at hr
    by_cases h1 : errA s x ≠ 0
    · rw [if_pos h1] at hr; cases hr
    · rw [if_neg h1] at hr
      cases hm : mixA x.ops s.kd with
      | none => rw [hm] at hr; cases hr
      | some d =>
        rw [hm] at hr
        simp only at hr
        have hE : errA s x = 0 := Classical.not_not.1 h1
        unfold errA at hE
        by_cases c1 : (x.kind == 1 && ((s.op x.proc).isSome || s.gn x.proc)) = true
        · rw [if_pos c1] at hE; cases hE
        · by_cases c2 : (x.kind != 1 && !(s.op x.proc).isSome) = true
          · rw [if_neg c1, if_pos c2] at hE; cases hE
          · have hcond : (((g x.proc).getD false) || (!(((o x.proc).getD false) == (x.kind != 1)))) = false := by
              rw [hg, ho]
              cases hk : (x.kind == 1) with
              | true =>
                rw [hk] at c1
                rw [bne, hk]
                cases h2 : (s.op x.proc).isSome <;> cases h3 : s.gn x.proc <;> simp_all
              | false =>
                rw [bne, hk] at c2
                rw [bne, hk]
                cases h2 : (s.op x.proc).isSome with
                | false => rw [h2] at c2; simp at c2
                | true => rw [hn _ h2]; rfl
            unfold assayerlaw03_PairGone_l7
            rw [hcond, Bool.and_false, if_neg (by decide)]
            refine gone_l u r (k + 1) (j + 1) _ _ (nextA s x d) hr (fun p => ?_) (fun p => ?_) (fun p => ?_)
            · unfold nextA fset
              cases hk : (x.kind == 1) with
              | true =>
                simp only [if_true]
                by_cases e : p = x.proc
                · simp only [if_pos e]; rfl
                · simp only [if_neg e]; exact ho p
              | false =>
                simp only [Bool.false_eq_true, if_false]
                unfold fdel
                by_cases e : p = x.proc
                · simp only [if_pos e]; rfl
                · simp only [if_neg e]; exact ho p
            · unfold nextA fset
              cases hk : (x.kind == 1) with
              | true =>
                simp only [if_true]
                by_cases e : p = x.proc
                · simp only [if_pos e]
                  have hk' : x.kind = 1 := by simpa using hk
                  rw [hk] at c1
                  have : s.gn x.proc = false := by
                    cases h3 : s.gn x.proc
                    · rfl
                    · rw [h3] at c1; simp at c1
                  rw [e, this, hk']; rfl
                · simp only [if_neg e]; exact hg p
              | false =>
                simp only [Bool.false_eq_true, if_false]
                by_cases e : p = x.proc
                · simp only [if_pos e]; rfl
                · simp only [if_neg e]; exact hg p
            · unfold nextA
              cases hk : (x.kind == 1) with
              | true =>
                simp only [if_true]
                unfold fset
                by_cases e : p = x.proc
                · intro _
                  rw [hk] at c1
                  cases h3 : s.gn x.proc
                  · rw [e]; exact h3
                  · rw [h3] at c1; simp at c1
                · simp only [if_neg e]; exact hn p
              | false =>
                simp only [Bool.false_eq_true, if_false]
                unfold fdel
                by_cases e : p = x.proc
                · simp only [if_pos e]; intro h; cases h
                · simp only [if_neg e]; exact hn p
theorem pairGone_true (l : List Ev) (h : HypE l) {fuel : Nat} (hf : 140737488351233 < fuel) : assayerlaw03_PairGone_f fuel l = some true := by
  unfold assayerlaw03_PairGone_f
  obtain ⟨e, at_, why, h1, h2, h3, h4⟩ := both l h.keys hf
  rw [h1, h2]
  simp only [Option.bind_some]
  rw [h3, if_neg (by decide)]
  have hx : ∃ x, assayerlaw03_PairGone_l7 (at_, why) 0 l fnil fnil = .inr x := by
    by_cases hw : why = 0
    · exact gone_l (at_, why) l 0 0 fnil fnil s0 (h4 hw).2 (fun _ => rfl) (fun _ => rfl) (fun _ h => by cases h)
    · exact gone_l0 (at_, why) (by simpa using hw) l 0 fnil fnil
  obtain ⟨x, hx⟩ := hx
  rw [hx]; rfl
end Go.Proofs.Ytemdmpgekegfhaa
