/- Control, a step at a time; loops and joins over the slots that are written. -/
import Derived.Test.YtemdmpgekegfhaaDoorPlainO
import Derived.Test.YtemdmpgekegfhaaDoorGd
import Derived.Test.YtemdmpgekegfhaaDoorRet
import Derived.Test.YtemdmpgekegfhaaDoorSmall
import Derived.Test.YtemdmpgekegfhaaDoorSame
namespace Go.Proofs.YtemdmpgekegfhaaDoor
open Go.RowKit
set_option linter.all false
set_option maxRecDepth 10000

section
variable {P : Program} {Q : Exit → Act → World → Prop} {a : Act} {w : World} {next : Act → World → Prop} {ops : Array Oper} {id id' : Nat}
theorem list_end (h : Q .normal a w) : wpList P ops Q [] a w := h
theorem then_norm (h : next a w) : Exit.then next Q .normal a w := h
theorem then_exit (h : Q (.exit id) a w) : Exit.then next Q (.exit id) a w := h
theorem then_goto (h : Q (.goto id) a w) : Exit.then next Q (.goto id) a w := h
theorem then_ret (h : Q .ret a w) : Exit.then next Q .ret a w := h
theorem block_norm (h : Q .normal a w) : Exit.inBlock id Q .normal a w := h
theorem block_exit (h : Q .normal a w) : Exit.inBlock id Q (.exit id) a w := by simp only [Exit.inBlock, if_true]; exact h
theorem block_pass (hne : id' ≠ id) (h : Q (.exit id') a w) : Exit.inBlock id Q (.exit id') a w := by simp only [Exit.inBlock, hne, if_false]; exact h
theorem block_goto (h : Q (.goto id') a w) : Exit.inBlock id Q (.goto id') a w := h
theorem block_ret (h : Q .ret a w) : Exit.inBlock id Q .ret a w := h
/-- An operation that leaves the world as it is. -/
theorem seq_op {o : Oper} {r : List Oper} {V : Value} (hg : o.guard = none) (h : ∀ Φ : Value → World → Prop, Φ V w → OpG P o a w Φ) (h2 : wpList P ops Q r (a.put o.dst V) w) : wpList P ops Q (o :: r) a w :=
  OpG.list hg (h _ h2)
theorem seq_opg {o : Oper} {r : List Oper} {V : Value} {c : Bool} (hw : Region.wanted o (yielded ops a.tmps) = c) (h : c = true → ∀ Φ : Value → World → Prop, Φ V w → OpG P o a w Φ) (h2 : wpList P ops Q r (a.put o.dst (vg c V)) w) : wpList P ops Q (o :: r) a w := by
  cases hc : c with
  | true => rw [hc] at h2; exact OpG.listW (by rw [hw, hc]) (h hc _ (by simpa only [vg_true] using h2))
  | false =>
    rw [hc] at h2
    refine wpList_step fun K hK => ?_
    rw [if_neg (by rw [hw, hc]; simp)]
    exact hK _ _ (by simpa only [vg_false] using h2)
end

section
variable {P : Program} {o : Oper} {a : Act} {w : World} {Φ : Value → World → Prop} {E : World} {s : SH} {L : List HP}
/-- The looks at owned rows, with what is read told as it stands. -/
theorem L_1 (i : Nat) (ty : TypeId) (x : Operand) (ho : o.op = .load ty x) (hna : (isAgg ty).run P w = .ok false w) {b q : Nat} (hx : a.eval x = .pointer (some ⟨b, q, none⟩))
    {l : List Value} {t : TypeId} {fr : Nat × Nat} (H : Holds E s L w) (hi : L[i]? = some (pt b (.cells l.toArray t fr))) {u : Value} (hu : l[q]? = some u) (h : Φ u w) : OpG P o a w Φ :=
  G_p1i i ty x ho hna hx H hi (by simpa using hu) h
theorem S_1 (i : Nat) (ty : TypeId) (x : Operand) (y : Tmp) (ho : o.op = .store ty x (.tmp y)) (hsz : (sizeOf ty).run P w = .ok 1 w) {b q : Nat} (hx : a.eval x = .pointer (some ⟨b, q, none⟩)) {v : Value} (hy : a.tmps.toList[y]? = some v)
    {l : List Value} {t : TypeId} (H : Holds E s L w) (hi : L[i]? = some (pt b (.cells l.toArray t (0, 0)))) (h1 : v.oneCell' = true) (hq : q < l.length)
    (h : ∀ w', Holds E s (L.set i (pt b (.cells (l.set q v).toArray t (0, 0)))) w' → Φ undef w') : OpG P o a w Φ :=
  G_set1i i ty x (.tmp y) ho hsz hx (by simp only [Act.eval]; rw [Array.getElem?_toList] at hy; simp [hy]) h1 H hi (by simpa using hq) (by simpa using h)
theorem S_1c (i : Nat) (ty : TypeId) (x : Operand) {v : Value} (ho : o.op = .store ty x (.const v)) (hsz : (sizeOf ty).run P w = .ok 1 w) {b q : Nat} (hx : a.eval x = .pointer (some ⟨b, q, none⟩))
    {l : List Value} {t : TypeId} (H : Holds E s L w) (hi : L[i]? = some (pt b (.cells l.toArray t (0, 0)))) (h1 : v.oneCell' = true) (hq : q < l.length)
    (h : ∀ w', Holds E s (L.set i (pt b (.cells (l.set q v).toArray t (0, 0)))) w' → Φ undef w') : OpG P o a w Φ :=
  G_set1i (v := v) i ty x (.const v) ho hsz hx rfl h1 H hi (by simpa using hq) (by simpa using h)
theorem B_x (ty : TypeId) (x : Tmp) {v : Value} (ho : o.op = .box ty (.tmp x)) (hx : a.tmps.toList[x]? = some v) (H : Holds E s L w)
    (h : ∀ b w', Holds E s (pt b (.cells v.cells ty (0, 0)) :: L) w' → Φ (.pointer (some ⟨b, 0, none⟩)) w') : OpG P o a w Φ :=
  G_box ty (.tmp x) ho (by simp only [Act.eval]; rw [Array.getElem?_toList] at hx; simp [hx]) H h
end
section
variable {P : Program} {Q : Exit → Act → World → Prop} {a : Act} {w : World} {ops : Array Oper}
/-- A call by its contract. -/
theorem seq_call {o : Oper} {r : List Oper} {f : FuncId} {args : Array Value} {R : Ending → World → Prop} (hg : o.guard = none)
    (hrun : ∀ Φ : Value → World → Prop, (Calls P f args w fun e w'' => ∃ v, e = .returned v ∧ Φ v w'') → OpG P o a w Φ) (hc : Calls P f args w R)
    (h2 : ∀ e w', R e w' → ∃ v, e = .returned v ∧ wpList P ops Q r (a.put o.dst v) w') : wpList P ops Q (o :: r) a w :=
  OpG.list hg (hrun _ (hc.mono h2))
end
/-- A frame where some slots are written over: a mask tells which ('some t' at place t). -/
def mixM : List (Option Nat) → List Value → (Nat → Value) → List Value
  | some t :: m, _ :: r, f => f t :: mixM m r f
  | none :: m, v :: r, f => v :: mixM m r f
  | _, r, _ => r
def ovm (a : Act) (m : List (Option Nat)) (f : Nat → Value) : Act := ⟨(mixM m a.tmps.toList f).toArray, a.defers⟩
def wfM : List (Option Nat) → Nat → Bool
  | some t :: m, i => t == i && wfM m (i + 1)
  | none :: m, i => wfM m (i + 1)
  | [], _ => true
def eqM : List (Option Nat) → List Value → List Value → Prop
  | some _ :: m, _ :: us, _ :: vs => eqM m us vs
  | none :: m, a :: us, b :: vs => a = b ∧ eqM m us vs
  | [], us, vs => us = vs
  | _, _, _ => False
theorem mixM_eq : ∀ (m : List (Option Nat)) (i : Nat) (us vs : List Value) (f : Nat → Value), wfM m i = true → eqM m us vs → (∀ t v, vs[t]? = some v → f (i + t) = v) → mixM m us f = vs
  | some t :: m, i, _ :: us, b :: vs, f, hw, h, hf => by
    simp only [wfM, Bool.and_eq_true, beq_iff_eq] at hw
    simp only [mixM]
    rw [mixM_eq m (i + 1) us vs f hw.2 h (fun t v hv => by have := hf (t + 1) v (by simpa using hv); rw [← this]; congr 1; omega)]
    have := hf 0 b rfl
    rw [Nat.add_zero] at this
    rw [hw.1, this]
  | none :: m, i, a :: us, b :: vs, f, hw, h, hf => by
    obtain ⟨h1, h2⟩ := h
    simp only [mixM]
    rw [mixM_eq m (i + 1) us vs f hw h2 (fun t v hv => by have := hf (t + 1) v (by simpa using hv); rw [← this]; congr 1; omega), h1]
  | [], _, us, vs, _, _, h, _ => by simp only [eqM] at h; subst h; cases us <;> rfl
  | some _ :: _, _, [], _, _, _, h, _ => by simp [eqM] at h
  | some _ :: _, _, _ :: _, [], _, _, h, _ => by simp [eqM] at h
  | none :: _, _, [], _, _, _, h, _ => by simp [eqM] at h
  | none :: _, _, _ :: _, [], _, _, h, _ => by simp [eqM] at h
theorem ovm_eq {a0 a : Act} {m : List (Option Nat)} (hw : wfM m 0 = true) (h : eqM m a0.tmps.toList a.tmps.toList) (hd : a.defers = a0.defers) : ovm a0 m (fun t => a.tmps.getD t undef) = a := by
  unfold ovm
  rw [mixM_eq m 0 _ a.tmps.toList _ hw h (fun t v hv => by rw [Nat.zero_add]; rw [Array.getElem?_toList] at hv; simp [hv])]
  cases a; simp only at hd; subst hd; rfl
theorem eqM_self : ∀ (m : List (Option Nat)) (us : List Value), m.length ≤ us.length → eqM m us us
  | [], _, _ => rfl
  | some _ :: m, _ :: us, h => eqM_self m us (by simpa using h)
  | none :: m, _ :: us, h => ⟨rfl, eqM_self m us (by simpa using h)⟩
  | some _ :: _, [], h => by simp at h
  | none :: _, [], h => by simp at h
section
variable {P : Program} {Q : Exit → Act → World → Prop} {a0 : Act} {w0 : World} {c rest : Code}
theorem wp_loopF (m : List (Option Nat)) (hw : wfM m 0 = true) (hl : m.length ≤ a0.tmps.toList.length) (I : (Nat → Value) → World → Prop) (μ : (Nat → Value) → World → Nat) (h0 : I (fun t => a0.tmps.getD t undef) w0)
    (round : ∀ f w, I f w → c.wp P (Exit.then (fun a' w' => (eqM m a0.tmps.toList a'.tmps.toList ∧ a'.defers = a0.defers) ∧ I (fun t => a'.tmps.getD t undef) w' ∧ μ (fun t => a'.tmps.getD t undef) w' < μ f w) Q) (ovm a0 m f) w) : (Code.loop c).wp P Q a0 w0 := by
  refine wp_loop (fun a w => ovm a0 m (fun t => a.tmps.getD t undef) = a ∧ I (fun t => a.tmps.getD t undef) w) (fun a w => μ (fun t => a.tmps.getD t undef) w) ⟨ovm_eq hw (eqM_self _ _ hl) rfl, h0⟩ ?_
  rintro a w ⟨ha, hI⟩
  have hr := round _ w hI
  rw [ha] at hr
  refine wp_mono hr ?_
  intro e a' w' h
  cases e <;> first | exact h | exact ⟨⟨ovm_eq hw h.1.1 h.1.2, h.2.1⟩, h.2.2⟩
theorem wp_joinF (m : List (Option Nat)) (hw : wfM m 0 = true) (J : (Nat → Value) → World → Prop) (h1 : c.wp P (Exit.then (fun a' w' => (eqM m a0.tmps.toList a'.tmps.toList ∧ a'.defers = a0.defers) ∧ J (fun t => a'.tmps.getD t undef) w') Q) a0 w0)
    (h2 : ∀ f w, J f w → rest.wp P Q (ovm a0 m f) w) : (Code.seq c rest).wp P Q a0 w0 := by
  refine wp_seq (wp_mono h1 ?_)
  intro e a' w' h
  cases e <;> first | exact h | (have k := h2 _ _ h.2; rw [ovm_eq hw h.1.1 h.1.2] at k; exact k)
end
end Go.Proofs.YtemdmpgekegfhaaDoor
