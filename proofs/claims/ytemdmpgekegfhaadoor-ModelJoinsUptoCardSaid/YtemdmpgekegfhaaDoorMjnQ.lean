/- Operations in two parts come to what they come to together: the plain law of ModelJoins. -/
import Derived.Test.YtemdmpgekegfhaaDoorMjn1
import Derived.Test.YtemdmpgekegfhaaDoorAb1
namespace Go.Proofs.YtemdmpgekegfhaaDoor
open Go.RowKit
set_option linter.all false
set_option maxRecDepth 10000

theorem behind_ok {fuel : Nat} (hf : 2000000000001 < fuel) (a : List Op') (ha : a.length ≤ 1048576) : ∃ f g l, assayerlaw16_behind_f fuel a = some (⟨f, g⟩, ⟨l⟩) ∧ Abs f g l ∧ Wf f g ∧ l.length ≤ a.length ∧ ∀ p ∈ l, p ∈ a := by
  obtain ⟨b, f, g, l, e1, e2, hA, hW, hl, hm, -⟩ := apply_both (f := fnil) (g := fnil) (l := []) (r := a) ⟨fun k => rfl, fun k => rfl⟩ wf_nil true (by simp; omega) hf
  refine ⟨f, g, l, ?_, hA, hW, by simpa using hl, fun p hp => (hm p hp).elim (fun h => by cases h) id⟩
  unfold assayerlaw16_behind_f
  rw [show model_New_f = ⟨fnil, fnil⟩ from rfl, e1, e2]; rfl
theorem toList_eq (a b : ByteArray) : (a.toList == b.toList) = decide (a = b) := key_eq a b
theorem Okk.of {a l : List Op'} (h : Okk a) (hm : ∀ p ∈ l, p ∈ a) : Okk l := fun o ho => h o (hm o ho)
/-- What one operation does; none: out of bounds. -/
def opF (o : Op') (f : ByteArray → Option (List Int)) (g : ByteArray → Option Int) : Option ((ByteArray → Option (List Int)) × (ByteArray → Option Int)) :=
  if o.kind = 1 then (app 8 ((f o.key).getD []) o.value).bind fun u => some (fset f o.key u, g) else if o.kind = 3 then some (f, fset g o.key o.value) else some (f, g)
/-- What operations come to; some none: one reads otherwise. -/
def runF (b : Bool) : List Op' → (ByteArray → Option (List Int)) → (ByteArray → Option Int) → Option (Option ((ByteArray → Option (List Int)) × (ByteArray → Option Int)))
  | [], f, g => some (some (f, g))
  | o :: r, f, g => (if b = true then some true else model_State_right_f ⟨f, g⟩ o).bind fun u => if u = false then some none else (opF o f g).bind fun p => runF b r p.1 p.2
theorem l6_run (b : Bool) (m0 : MSt) : ∀ (r : List Op') (k : Nat) (f : ByteArray → Option (List Int)) (g : ByteArray → Option Int), model_State_Apply_l6 b m0 k r f g = (runF b r f g).bind fun x => match x with | none => some (.inl (false, m0)) | some p => some (.inr p)
  | [], k, f, g => rfl
  | o :: r, k, f, g => by
    have ih := l6_run b m0 r (k + 1)
    have step : (if ((decide (o.kind > 0)) && (decide (o.kind < 5))) = true then (if (o.kind == 0) = true then (model_State_Apply_l6 b m0 (k + 1) r f g) else (if (o.kind == 1) = true then ((model_State_append_f (⟨f, g⟩ : MSt) o).bind fun u2 => model_State_Apply_l6 b m0 (k + 1) r u2.lists u2.regs) else (if (o.kind == 2) = true then (model_State_Apply_l6 b m0 (k + 1) r f g) else (if (o.kind == 3) = true then (model_State_Apply_l6 b m0 (k + 1) r ((model_State_write_f (⟨f, g⟩ : MSt) o).lists) ((model_State_write_f (⟨f, g⟩ : MSt) o).regs)) else (if (o.kind == 4) = true then (model_State_Apply_l6 b m0 (k + 1) r f g) else (none)))))) else (model_State_Apply_l6 b m0 (k + 1) r f g))
        = ((opF o f g).bind fun p => runF b r p.1 p.2).bind fun x => match x with | none => some (.inl (false, m0)) | some p => some (.inr p) := by
      unfold opF
      by_cases h1 : o.kind = 1
      · unfold model_State_append_f
        dsimp only
        simp only [h1]
        cases ha : app 8 ((f o.key).getD []) o.value with
        | none => simp
        | some u => simp [ih]
      · by_cases h3 : o.kind = 3
        · unfold model_State_write_f
          simp [h3, ih]
        · rw [if_neg h1, if_neg h3]
          simp only [Option.bind_some]
          rw [← ih f g]
          by_cases hc : ((decide (o.kind > 0)) && (decide (o.kind < 5))) = true
          · rw [if_pos hc]
            simp only [Bool.and_eq_true, decide_eq_true_eq] at hc
            have : o.kind = 2 ∨ o.kind = 4 := by omega
            rcases this with e | e <;> simp [e]
          · rw [if_neg hc]
    unfold model_State_Apply_l6 runF
    cases b with
    | true => simpa using step
    | false =>
      simp only [Bool.not_false, if_true, Bool.false_eq_true, if_false]
      cases hr : model_State_right_f (⟨f, g⟩ : MSt) o with
      | none => simp
      | some u =>
        simp only [Option.bind_some]
        cases u with
        | false => simp
        | true => simpa using step
theorem runF_app (b : Bool) : ∀ (r1 r2 : List Op') (f : ByteArray → Option (List Int)) (g : ByteArray → Option Int), runF b (r1 ++ r2) f g = (runF b r1 f g).bind fun x => match x with | none => some none | some p => runF b r2 p.1 p.2
  | [], r2, f, g => rfl
  | o :: r1, r2, f, g => by
    simp only [List.cons_append, runF]
    generalize (if b = true then some true else model_State_right_f ⟨f, g⟩ o) = X
    cases X with
    | none => rfl
    | some u =>
      simp only [Option.bind_some]
      cases u with
      | false => rfl
      | true =>
        simp only [Bool.true_eq_false, if_false]
        cases opF o f g with
        | none => rfl
        | some p =>
          simp only [Option.bind_some]
          exact runF_app b r1 r2 p.1 p.2
theorem apply_run (b : Bool) (m : MSt) (r : List Op') : model_State_Apply_f m r b = (runF b r m.lists m.regs).bind fun x => match x with | none => some (false, m) | some p => some (true, ⟨p.1, p.2⟩) := by
  have h : model_State_Apply_f m r b = (model_State_Apply_l6 b m 0 r m.lists m.regs).bind fun | .inl z => (some z) | .inr (p, q) => (some (true, (⟨p, q⟩ : MSt))) := rfl
  rw [h, l6_run]
  cases runF b r m.lists m.regs with
  | none => rfl
  | some x => cases x <;> rfl
/-- Two parts, one behind the other. -/
theorem apply_two {m m1 m2 m3 : MSt} {b1 b2 b3 : Bool} {r1 r2 : List Op'} (h1 : model_State_Apply_f m r1 false = some (b1, m1)) (h3 : model_State_Apply_f m (r1 ++ r2) false = some (b3, m3)) :
    (b1 = false → b3 = false) ∧ (b1 = true → model_State_Apply_f m1 r2 false = some (b2, m2) → b3 = b2 ∧ (b2 = true → m3 = m2)) := by
  rw [apply_run] at h1 h3
  rw [runF_app] at h3
  cases hr : runF false r1 m.lists m.regs with
  | none => rw [hr] at h1; cases h1
  | some x =>
    rw [hr] at h1 h3
    simp only [Option.bind_some] at h1 h3
    cases x with
    | none =>
      cases h1
      simp only [Option.bind_some] at h3
      cases h3
      exact ⟨fun _ => rfl, fun h => (by cases h)⟩
    | some p =>
      cases h1
      simp only at h3
      refine ⟨fun h => (by cases h), fun _ h2 => ?_⟩
      rw [apply_run] at h2
      simp only at h2
      cases hq : runF false r2 p.1 p.2 with
      | none => rw [hq] at h2; cases h2
      | some y =>
        rw [hq] at h2 h3
        simp only [Option.bind_some] at h2 h3
        cases y with
        | none => cases h2; cases h3; exact ⟨rfl, fun h => (by cases h)⟩
        | some q => cases h2; cases h3; exact ⟨rfl, fun _ => rfl⟩
theorem rem_ok {a n : Int} (hn : 0 ≤ n) (hn2 : n ≤ 140737488355328) : ∃ k : Nat, remI .u64 (IntKind.u64.wrap a) (IntKind.u64.wrap (IntKind.i64.wrap (n + 1))) = some (k : Int) ∧ (k : Int) ≤ n := by
  have e1 : IntKind.i64.wrap (n + 1) = n + 1 := wrap_small (by omega) (by omega)
  have e2 : IntKind.u64.wrap (n + 1) = n + 1 := by rw [IntKind.wrap_u64]; omega
  rw [e1, e2]
  have e3 : 0 ≤ IntKind.u64.wrap a := by rw [IntKind.wrap_u64]; omega
  generalize IntKind.u64.wrap a = x at e3
  unfold remI
  rw [if_neg (by omega)]
  have h1 := Int.tmod_nonneg (n + 1) e3
  have h2 := Int.tmod_lt_of_pos x (show (0 : Int) < n + 1 by omega)
  exact ⟨(x.tmod (n + 1)).toNat, by rw [Int.toNat_of_nonneg h1], by rw [Int.toNat_of_nonneg h1]; omega⟩
theorem modelJoins_true (a0 a1 : List Op') (a2 : Int) (hb : a0.length + a1.length ≤ 1048576) (k0 : Okk a0) (k1 : Okk a1) : assayerlaw16_ModelJoins_f 2000000000002 a0 a1 a2 = some true := by
  unfold assayerlaw16_ModelJoins_f
  obtain ⟨n, hn, hle⟩ := rem_ok (a := a2) (n := (a1.length : Int)) (by omega) (by omega)
  rw [hn]
  simp only [Option.bind_some]
  have hw : IntKind.i64.wrap (n : Int) = n := wrap_small (by omega) (by omega)
  rw [hw]
  obtain ⟨f, g, l, e0, hA, hW, hl, hm⟩ := behind_ok (fuel := 2000000000002) (by omega) a0 (by omega)
  rw [e0]
  simp only [Option.bind_some]
  have okl : Okk l := k0.of hm
  have sj : sliJ a1 (n : Int) = some (a1.take n) := by unfold sliJ; rw [if_pos (by omega)]; rfl
  have si : sliI a1 (n : Int) = some (a1.drop n) := by unfold sliI; rw [if_pos (by omega)]; rfl
  have t0 := text_ok hA hW (by omega) okl
  obtain ⟨b1, f1, g1, l1, p1, -, hA1, hW1, hl1, hm1, hz1⟩ := apply_both (r := a1.take n) hA hW false (by rw [List.length_take]; omega) (fuel := 2000000000002) (by omega)
  obtain ⟨b2, f2, g2, l2, p2, -, hA2, hW2, hl2, hm2, hz2⟩ := apply_both (r := a1.drop n) hA1 hW1 false (by rw [List.length_take] at hl1; rw [List.length_drop]; omega) (fuel := 2000000000002) (by omega)
  obtain ⟨b3, f3, g3, l3, p3, q3, hA3, hW3, hl3, hm3, hz3⟩ := apply_both (r := a1) hA hW false (by omega) (fuel := 2000000000002) (by omega)
  have p3' : model_State_Apply_f ⟨f, g⟩ (a1.take n ++ a1.drop n) false = some (b3, ⟨f3, g3⟩) := by rw [List.take_append_drop]; exact p3
  obtain ⟨c1, c2⟩ := apply_two (b2 := b2) (m2 := ⟨f2, g2⟩) p1 p3'
  have ok1 : Okk l1 := fun o ho => (hm1 o ho).elim (fun h => okl o h) (fun h => k1 o (List.mem_of_mem_take h))
  have ok2 : Okk l2 := fun o ho => (hm2 o ho).elim (fun h => ok1 o h) (fun h => k1 o (List.mem_of_mem_drop h))
  have ok3 : Okk l3 := fun o ho => (hm3 o ho).elim (fun h => okl o h) (fun h => k1 o h)
  have b1l : l1.length ≤ 1048576 := by rw [List.length_take] at hl1; omega
  have b2l : l2.length ≤ 1048576 := by rw [List.length_take] at hl1; rw [List.length_drop] at hl2; omega
  have t1 := text_ok hA1 hW1 b1l ok1
  have t2 := text_ok hA2 hW2 b2l ok2
  have t3 := text_ok hA3 hW3 (by omega) ok3
  rw [t0]
  simp only [Option.bind_some]
  rw [sj]
  simp only [Option.bind_some]
  rw [p1]
  simp only [Option.bind_some]
  cases b1 with
  | false =>
    have hb3 := c1 rfl
    subst hb3
    obtain ⟨rfl, rfl, rfl⟩ := hz1 rfl
    obtain ⟨rfl, rfl, rfl⟩ := hz3 rfl
    simp only [Bool.not_false, if_true, Bool.false_eq_true, if_false]
    rw [t0]
    simp only [Option.bind_some]
    rw [toList_eq]
    simp only [decide_true, Bool.not_true, Bool.false_eq_true, if_false]
    rw [p3]
    simp only [Option.bind_some, beq_self_eq_true, Bool.not_true, Bool.false_eq_true, if_false, if_true]
    rw [t0]
    simp only [Option.bind_some]
    rw [toList_eq]; simp
  | true =>
    obtain ⟨rfl, hm3⟩ := c2 rfl p2
    simp only [Bool.not_true, Bool.false_eq_true, if_false, if_true]
    rw [si]
    simp only [Option.bind_some]
    rw [p2]
    simp only [Option.bind_some]
    rw [p3]
    simp only [Option.bind_some, beq_self_eq_true, Bool.not_true, Bool.false_eq_true, if_false]
    cases b3 with
    | false =>
      obtain ⟨rfl, rfl, rfl⟩ := hz3 rfl
      simp only [Bool.not_false, if_true]
      rw [t0]
      simp only [Option.bind_some]
      rw [toList_eq]; simp
    | true =>
      have e := hm3 rfl
      cases e
      simp only [Bool.not_true, Bool.false_eq_true, if_false]
      rw [t2]
      simp only [Option.bind_some]
      rw [toList_eq]
      simp only [decide_true, if_true]
      rw [q3]; rfl
end Go.Proofs.YtemdmpgekegfhaaDoor
