/- Maps of numbers, bools and the like, as lists of pairs: asking, writing, striking. -/
import Derived.Test.YtemdmpgekegfhaaDoorMap
import Derived.Test.YtemdmpgekegfhaaDoorFx
namespace Go.Proofs.YtemdmpgekegfhaaDoor
open Go.RowKit
set_option linter.all false
set_option maxRecDepth 10000

/-- A map as the list of its pairs, in the order in which they came. -/
def mgt {κ β : Type} [DecidableEq κ] (m : List (κ × β)) (k : κ) : Option β := (m.find? fun p => p.1 = k).map (·.2)
def mpt {κ β : Type} [DecidableEq κ] (m : List (κ × β)) (k : κ) (v : β) : List (κ × β) := if m.any (fun p => p.1 = k) then m.map (fun p => if p.1 = k then (k, v) else p) else m ++ [(k, v)]
def mdl {κ β : Type} [DecidableEq κ] (m : List (κ × β)) (k : κ) : List (κ × β) := m.filter fun p => decide (p.1 ≠ k)
def Uq {κ β : Type} (m : List (κ × β)) : Prop := m.Pairwise fun p q => p.1 ≠ q.1
structure KC (κ : Type) where
  enc : κ → Value
  ok : κ → Prop
structure VC (β : Type) where
  enc : β → Value
  ok : β → Prop
def kcS : KC ByteArray := ⟨fun s => .string s, fun s => s.size ≤ maxLen⟩
def kcI : KC Int := ⟨fun i => .int .i64 i, Kin.inI64⟩
def vcI : VC Int := ⟨fun i => .int .i64 i, fun _ => True⟩
def vcB : VC Bool := ⟨fun b => .bool b, fun _ => True⟩
section
variable {κ β : Type} [DecidableEq κ]
def em (V : VC β) (m : List (κ × β)) : List (κ × Value) := m.map fun p => (p.1, V.enc p.2)
theorem em_get (V : VC β) (m : List (κ × β)) (k : κ) : mget (em V m) k = (mgt m k).map V.enc := by
  unfold mget mgt em
  induction m with
  | nil => rfl
  | cons p m ih =>
    simp only [List.map_cons, List.find?_cons]
    by_cases h : p.1 = k
    · simp [h]
    · simp only [h, decide_false]; exact ih
theorem em_put (V : VC β) (m : List (κ × β)) (k : κ) (v : β) : mput (em V m) k (V.enc v) = em V (mpt m k v) := by
  unfold mput mpt em
  rw [List.any_map]
  have e : ((fun p : κ × Value => decide (p.1 = k)) ∘ fun p : κ × β => (p.1, V.enc p.2)) = fun p => decide (p.1 = k) := rfl
  rw [e]
  split
  · rw [List.map_map, List.map_map]
    congr 1; funext p
    simp only [Function.comp]
    by_cases h : p.1 = k <;> simp [h]
  · rw [List.map_append]; rfl
theorem em_uq (V : VC β) {m : List (κ × β)} (h : Uq m) : Uniq (em V m) := by unfold Uniq em; rw [List.pairwise_map]; exact h
theorem em_ok (V : VC β) {m : List (κ × β)} {ok : κ → Prop} (h : ∀ p ∈ m, ok p.1) : ∀ p ∈ em V m, ok p.1 := fun p hp => by
  obtain ⟨q, hq, rfl⟩ := List.mem_map.1 hp; exact h q hq
theorem mpt_mem {m : List (κ × β)} {k : κ} {v : β} {p : κ × β} (h : p ∈ mpt m k v) : p = (k, v) ∨ p ∈ m := by
  unfold mpt at h
  split at h
  · obtain ⟨q, hq, e⟩ := List.mem_map.1 h
    split at e
    · exact .inl e.symm
    · subst e; exact .inr hq
  · rcases List.mem_append.1 h with h | h
    · exact .inr h
    · exact .inl (List.mem_singleton.1 h)
theorem mpt_uq {m : List (κ × β)} (hu : Uq m) (k : κ) (v : β) : Uq (mpt m k v) := by
  unfold mpt
  split
  · unfold Uq
    rw [List.pairwise_map]
    refine hu.imp fun {p q} hpq => ?_
    by_cases e1 : p.1 = k
    · by_cases e2 : q.1 = k
      · exact absurd (e1.trans e2.symm) hpq
      · rw [if_pos e1, if_neg e2]; exact fun h => e2 h.symm
    · by_cases e2 : q.1 = k
      · rw [if_neg e1, if_pos e2]; exact e1
      · rw [if_neg e1, if_neg e2]; exact hpq
  · rename_i h
    refine List.pairwise_append.2 ⟨hu, by simp, fun p hp q hq => ?_⟩
    rw [List.mem_singleton.1 hq]
    intro e
    exact h (List.any_eq_true.2 ⟨p, hp, by simpa using e⟩)
theorem mdl_uq {m : List (κ × β)} (hu : Uq m) (k : κ) : Uq (mdl m k) := hu.filter _
theorem mgt_mem {m : List (κ × β)} {k : κ} {v : β} (h : mgt m k = some v) : (k, v) ∈ m := by
  unfold mgt at h
  cases hf : m.find? (fun p => decide (p.1 = k)) with
  | none => rw [hf] at h; cases h
  | some p =>
    rw [hf] at h
    have h1 := List.mem_of_find?_eq_some hf
    have h2 : p.1 = k := by simpa using List.find?_some hf
    have h3 : p.2 = v := Option.some.inj h
    rw [← h2, ← h3]; exact h1
theorem mgt_put (m : List (κ × β)) (k a : κ) (v : β) : mgt (mpt m k v) a = if a = k then some v else mgt m a := by
  induction m with
  | nil =>
    unfold mpt mgt; simp only [List.any_nil, Bool.false_eq_true, if_false, List.nil_append, List.find?_cons, List.find?_nil]
    by_cases h : a = k
    · subst h; simp
    · have : ¬ k = a := fun e => h e.symm
      simp [h, this]
  | cons p m ih =>
    by_cases hp : p.1 = k
    · have e1 : mpt (p :: m) k v = (k, v) :: m.map (fun q => if q.1 = k then (k, v) else q) := by unfold mpt; simp [hp]
      rw [e1]; unfold mgt
      by_cases h : a = k
      · subst h; simp
      · have h1 : ¬ k = a := fun e => h e.symm
        have h2 : ¬ p.1 = a := by rw [hp]; exact h1
        simp only [List.find?_cons, h1, h2, decide_false, if_neg h]
        clear ih e1
        induction m with
        | nil => rfl
        | cons q m ih2 =>
          simp only [List.map_cons, List.find?_cons]
          by_cases hq : q.1 = k
          · have h3 : ¬ q.1 = a := by rw [hq]; exact h1
            simp only [hq, if_true, h1, decide_false, h3]; exact ih2
          · simp only [hq, if_false]
            by_cases h4 : q.1 = a
            · simp [h4]
            · simp only [h4, decide_false]; exact ih2
    · have e1 : mpt (p :: m) k v = p :: mpt m k v := by
        unfold mpt; simp only [List.any_cons, hp, decide_false, Bool.false_or, List.map_cons, if_false]
        split <;> rfl
      rw [e1]
      unfold mgt at ih ⊢
      simp only [List.find?_cons]
      by_cases h : p.1 = a
      · have : ¬ a = k := fun e => hp (h.trans e)
        simp [h, this]
      · simp only [h, decide_false]; exact ih
theorem mgt_del (m : List (κ × β)) (k a : κ) : mgt (mdl m k) a = if a = k then none else mgt m a := by
  unfold mgt mdl
  induction m with
  | nil => simp
  | cons p m ih =>
    simp only [List.filter_cons]
    by_cases hp : p.1 = k
    · simp only [hp, ne_eq, not_true_eq_false, decide_false, Bool.false_eq_true, if_false]
      rw [ih]
      by_cases h : a = k
      · rw [if_pos h, if_pos h]
      · have : ¬ k = a := fun e => h e.symm
        rw [if_neg h, if_neg h, List.find?_cons]; simp [hp, this]
    · simp only [hp, ne_eq, not_false_eq_true, decide_true, if_true, List.find?_cons]
      by_cases h : p.1 = a
      · have : ¬ a = k := fun e => hp (h.trans e)
        simp [h, this]
      · simp only [h, decide_false]; exact ih
theorem mdl_erase {k : κ} : ∀ {m : List (κ × β)} {j : Nat} {v : β}, Uq m → m[j]? = some (k, v) → mdl m k = m.eraseIdx j
  | [], j, v, _, h => by simp at h
  | p :: m, 0, v, hu, h => by
    obtain ⟨hp, hu'⟩ := List.pairwise_cons.1 hu
    simp at h; subst h
    unfold mdl
    simp only [List.filter_cons, ne_eq, not_true_eq_false, decide_false, Bool.false_eq_true, if_false, List.eraseIdx_cons_zero]
    exact List.filter_eq_self.2 fun q hq => by simpa using fun e => hp q hq e.symm
  | p :: m, j + 1, v, hu, h => by
    obtain ⟨hp, hu'⟩ := List.pairwise_cons.1 hu
    simp only [List.getElem?_cons_succ] at h
    have hne : p.1 ≠ k := hp _ (List.mem_of_getElem? h)
    have ih := mdl_erase hu' h
    unfold mdl at ih ⊢
    simp only [List.filter_cons, ne_eq, hne, not_false_eq_true, decide_true, if_true, List.eraseIdx_cons_succ]
    rw [← ih]
/-- Block r is a map with these pairs. -/
def mpS (K : KC κ) (V : VC β) (r : Nat) (m : List (κ × β)) : HP := fun h => (Uq m ∧ ∀ p ∈ m, K.ok p.1 ∧ V.ok p.2) ∧ mpP K.enc r (em V m) h
end
section
variable {P : Program} {o : Oper} {a : Act} {w : World} {Φ : Value → World → Prop} {E : World} {s : SH} {L : List HP}
variable {κ β : Type} [DecidableEq κ] {kt : TypeId} {K : KC κ} {V : VC β}
theorem G_lookup2 {enc : κ → Value} {ok : κ → Prop} (M : MK P kt enc ok) (i : Nat) (t : TypeId) (x y : Operand) (ho : o.op = .lookup t x y true) {et : TypeId} (ht : P.underlying t = some (.map kt et)) {r : Nat} {l : List (κ × Value)} {k : κ} (hk : ok k) (hl : ∀ p ∈ l, ok p.1) (hu : Uniq l)
    (hx : a.eval x = .map (some r)) (hy : a.eval y = enc k) (H : Holds E s L w) (hi : L[i]? = some (mpP enc r l)) {z : Value} (hz : (zeroValue et).run P w = .ok z w) (h : Φ (.tuple #[(mget l k).getD z, .bool (mget l k).isSome]) w) : OpG P o a w Φ := by
  obtain ⟨es, c, ⟨he, hwf⟩, H1⟩ := mp_open (H.front i hi)
  have hb := H1.at_pt
  obtain ⟨lx, hlx⟩ := M.lit k hk
  have hr : (Instr.lookup t (.map (some r)) (enc k) true).run P w = .ok (.tuple #[(mget l k).getD z, .bool (mget l k).isSome]) w := by
    rcases mp_find M hk hl he w with ⟨h1, h2⟩ | ⟨j, e, v, h1, h2, h3, h4, h5⟩
    · simp [Instr.lookup, run_underlying ht, MapKept.run_getObj_map hb, M.K.check w _ hlx, h1, hz, Result.andThen, mget_none h2]
    · simp [Instr.lookup, run_underlying ht, MapKept.run_getObj_map hb, M.K.check w _ hlx, h1, Result.andThen, mget_mem hu (List.mem_of_getElem? h5)]
  unfold OpG execOp
  simp only [ho, hx, hy, Sem.run_bind, Sem.run_pure, Result.andThen_ok, hr, Oper.gives]
  exact h
theorem mps_open {i r : Nat} {m : List (κ × β)} (H : Holds E s L w) (hi : L[i]? = some (mpS K V r m)) : (Uq m ∧ ∀ p ∈ m, K.ok p.1 ∧ V.ok p.2) ∧ Holds E s (mpP K.enc r (em V m) :: L.eraseIdx i) w := Holds.pure_ (H.front i hi)
theorem M_make (t : TypeId) (ho : o.op = .makeMap t none) (H : Holds E s L w) (h : ∀ r w', Holds E s (mpS K V r [] :: L) w' → Φ (.map (some r)) w') : OpG P o a w Φ :=
  G_makeMap (enc := K.enc) t ho H fun r w' H' => h r w' (H'.map fun _ k => ⟨⟨List.Pairwise.nil, fun p hp => (List.not_mem_nil hp).elim⟩, k⟩)
theorem M_get (M : MK P kt K.enc K.ok) (i : Nat) (t : TypeId) (x y : Operand) (ho : o.op = .lookup t x y false) {et : TypeId} (ht : P.underlying t = some (.map kt et)) {r : Nat} {m : List (κ × β)} {k : κ} (hk : K.ok k)
    (hx : a.eval x = .map (some r)) (hy : a.eval y = K.enc k) (H : Holds E s L w) (hi : L[i]? = some (mpS K V r m)) {z : β} (hz : (zeroValue et).run P w = .ok (V.enc z) w) (h : Φ (V.enc ((mgt m k).getD z)) w) : OpG P o a w Φ := by
  obtain ⟨⟨hu, hok⟩, H1⟩ := mps_open H hi
  refine G_lookup M 0 t x y ho ht hk (em_ok V fun p hp => (hok p hp).1) (em_uq V hu) hx hy H1 rfl hz ?_
  rw [em_get]
  cases hg : mgt m k <;> (rw [hg] at h; exact h)
theorem M_get2 (M : MK P kt K.enc K.ok) (i : Nat) (t : TypeId) (x y : Operand) (ho : o.op = .lookup t x y true) {et : TypeId} (ht : P.underlying t = some (.map kt et)) {r : Nat} {m : List (κ × β)} {k : κ} (hk : K.ok k)
    (hx : a.eval x = .map (some r)) (hy : a.eval y = K.enc k) (H : Holds E s L w) (hi : L[i]? = some (mpS K V r m)) {z : β} (hz : (zeroValue et).run P w = .ok (V.enc z) w) (h : Φ (.tuple #[V.enc ((mgt m k).getD z), .bool (mgt m k).isSome]) w) : OpG P o a w Φ := by
  obtain ⟨⟨hu, hok⟩, H1⟩ := mps_open H hi
  refine G_lookup2 M 0 t x y ho ht hk (em_ok V fun p hp => (hok p hp).1) (em_uq V hu) hx hy H1 rfl hz ?_
  rw [em_get]
  cases hg : mgt m k <;> (rw [hg] at h; exact h)
theorem M_put (M : MK P kt K.enc K.ok) (i : Nat) (t : TypeId) (x y z : Operand) (ho : o.op = .mapUpdate t x y z) {et : TypeId} (ht : P.underlying t = some (.map kt et)) {r : Nat} {m : List (κ × β)} {k : κ} {v : β} (hk : K.ok k) (hv : V.ok v)
    (hx : a.eval x = .map (some r)) (hy : a.eval y = K.enc k) (hz : a.eval z = V.enc v) (H : Holds E s L w) (hi : L[i]? = some (mpS K V r m)) (h : ∀ w', Holds E s (L.set i (mpS K V r (mpt m k v))) w' → Φ undef w') : OpG P o a w Φ := by
  obtain ⟨⟨hu, hok⟩, H1⟩ := mps_open H hi
  refine G_mapUpdate M 0 t x y z ho ht hk (em_ok V fun p hp => (hok p hp).1) (em_uq V hu) hx hy hz H1 rfl fun w' H' => h w' (Holds.back i hi ?_)
  rw [List.set_cons_zero, em_put] at H'
  exact H'.map fun _ q => ⟨⟨mpt_uq hu k v, fun p hp => (mpt_mem hp).elim (fun e => by subst e; exact ⟨hk, hv⟩) (hok p)⟩, q⟩
theorem M_del (M : MK P kt K.enc K.ok) (i : Nat) (t : TypeId) (x y : Operand) (ho : o.op = .call { callee := .builtin .delete, args := #[x, y], argTypes := #[t, kt] }) {et : TypeId} (ht : P.underlying t = some (.map kt et)) {r : Nat} {m : List (κ × β)} {k : κ} (hk : K.ok k)
    (hx : a.eval x = .map (some r)) (hy : a.eval y = K.enc k) (H : Holds E s L w) (hi : L[i]? = some (mpS K V r m)) (h : ∀ w', Holds E s (L.set i (mpS K V r (mdl m k))) w' → Φ (.tuple #[]) w') : OpG P o a w Φ := by
  obtain ⟨⟨hu, hok⟩, H1⟩ := mps_open H hi
  obtain ⟨es, c, ⟨he, hwf⟩, H2⟩ := mp_open H1
  have hb := H2.at_pt
  have hlt : r < w.heap.size := (Array.getElem?_eq_some_iff.1 hb).1
  obtain ⟨lx, hlx⟩ := M.lit k hk
  obtain ⟨es', hr, he', hwf'⟩ : ∃ es', (Builtin.delete_ #[t, kt] o.type #[.map (some r), K.enc k]).run P w = .ok (.tuple #[]) { w with heap := w.heap.setIfInBounds r (.map es' c) } ∧ es'.toList.map (fun e => (e.key, e.val)) = ((em V (mdl m k)).map fun p => (K.enc p.1, p.2)) ∧ wfE es' c := by
    rcases mp_find M hk (em_ok V fun p hp => (hok p hp).1) he w with ⟨h1, h2⟩ | ⟨j, e, v0, h1, h2, h3, h4, h5⟩
    · refine ⟨es, ?_, ?_, hwf⟩
      · simp [Builtin.delete_, run_underlying ht, MapKept.run_getObj_map hb, M.K.check w _ hlx, h1, MapKept.run_setObj_map _ hb, Result.andThen]
      · have : mdl m k = m := List.filter_eq_self.2 fun p hp => by
          have := h2 (p.1, V.enc p.2) (List.mem_map.2 ⟨p, hp, rfl⟩)
          simpa using this
        rw [this, he]
    · have hjs : j < es.size := by have := (List.getElem?_eq_some_iff.1 h2).1; simpa using this
      have hsub : (es.eraseIdxIfInBounds j).toList = es.toList.eraseIdx j := by
        unfold Array.eraseIdxIfInBounds
        rw [dif_pos hjs]
        simp
      refine ⟨es.eraseIdxIfInBounds j, ?_, ?_, ?_⟩
      · simp [Builtin.delete_, run_underlying ht, MapKept.run_getObj_map hb, M.K.check w _ hlx, h1, MapKept.run_setObj_map _ hb, Result.andThen]
      · rw [hsub]
        have hm : mdl m k = m.eraseIdx j := by
          have hjm : ∃ v, m[j]? = some (k, v) := by
            unfold em at h5; rw [List.getElem?_map] at h5
            cases hmj : m[j]? with
            | none => rw [hmj] at h5; cases h5
            | some p => rw [hmj] at h5; simp only [Option.map_some, Option.some.injEq, Prod.mk.injEq] at h5; exact ⟨p.2, by rw [← h5.1]⟩
          obtain ⟨v, hv⟩ := hjm
          exact mdl_erase hu hv
        rw [hm]
        have e1 : ∀ (α γ : Type) (f : α → γ) (l : List α) (j : Nat), (l.eraseIdx j).map f = (l.map f).eraseIdx j := fun α γ f l j => by
          induction l generalizing j with
          | nil => rfl
          | cons x l ih => cases j with
            | zero => rfl
            | succ j => simp only [List.eraseIdx_cons_succ, List.map_cons, ih]
        rw [e1, he]
        unfold em
        rw [e1, e1]
      · refine ⟨?_, fun e hm => ?_⟩
        · rw [hsub]; exact hwf.1.sublist ((List.eraseIdx_sublist _ _).map _)
        · rw [hsub] at hm; exact hwf.2 e ((List.eraseIdx_sublist _ _).subset hm)
  unfold OpG execOp
  simp only [ho, resolve, invoke, builtin, Sem.run_bind, Sem.run_pure, Result.andThen_ok, List.map_toArray, List.map_cons, List.map_nil, hx, hy, hr, Oper.gives]
  refine h _ (Holds.back i hi ?_)
  have H3 := H2.upd (w' := { w with heap := w.heap.setIfInBounds r (.map es' c) }) (o' := .map es' c) rfl rfl rfl (fun m _ hm => by simp only; rw [Array.getElem?_setIfInBounds_ne (fun e => hm e.symm)]) (by simp [hlt])
  exact H3.map fun _ q => ⟨⟨mdl_uq hu k, fun p hp => hok p (List.mem_filter.1 hp).1⟩, es', c, ⟨he', hwf'⟩, q⟩
end
theorem mk_S : MK Tryd.prog 9 kcS.enc kcS.ok where
  K := Maps.string_keyed Tryd.underlying9
  lit := fun a ha => ⟨.string a.data.toList, by
    unfold keyOf
    rw [Tryd.underlying9]
    simp only [kcS, mapKey, Tryd.underlying9]
    exact if_pos ha⟩
  inj := fun a b _ _ h => by simpa [kcS] using h
theorem mk_I : MK Tryd.prog 3 kcI.enc kcI.ok where
  K := Maps.int_keyed Tryd.underlying3
  lit := fun a ha => ⟨.int .i64 a, by
    unfold keyOf
    rw [Tryd.underlying3]
    simp only [kcI, mapKey, Tryd.underlying3]
    have h1 := ha.1; have h2 := ha.2
    refine if_pos ?_
    simp [Lit.wf, IntKind.min, IntKind.max, IntKind.signed, IntKind.bits]; omega⟩
  inj := fun a b _ _ h => by simpa [kcI] using h
end Go.Proofs.YtemdmpgekegfhaaDoor
