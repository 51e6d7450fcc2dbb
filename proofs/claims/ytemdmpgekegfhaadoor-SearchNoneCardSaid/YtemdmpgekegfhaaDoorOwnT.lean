/- Owned slices whose elements have several cells: elements are read and written; slice literals of several elements. -/
import Derived.Test.YtemdmpgekegfhaaDoorOwnS
namespace Go.Proofs.YtemdmpgekegfhaaDoor
open Go.RowKit
set_option linter.all false
set_option maxRecDepth 10000

/-- xs[i] = x. -/
def setI {α : Type} (xs : List α) (i : Int) (x : α) : List α := xs.set i.toNat x
theorem setI_drop {α : Type} {xs : List α} {i : Int} {k : Nat} {x : α} (hk : i = (k : Int)) (hl : k < xs.length) : (setI xs i x).drop k = x :: (setI xs i x).drop (k + 1) ∧ k < (setI xs i x).length := by
  subst hk
  unfold setI
  have h1 : k < (xs.set (k : Int).toNat x).length := by simpa using hl
  refine ⟨?_, h1⟩
  rw [List.drop_eq_getElem_cons h1]
  simp
theorem setI_len {α : Type} (xs : List α) (i : Int) (x : α) : (setI xs i x).length = xs.length := by unfold setI; simp
section
variable {α : Type} {d : Kin α} {P : Program} {o : Oper} {a : Act} {w : World} {Φ : Value → World → Prop} {E : World} {s s0 : SH} {L : List HP}
theorem O_ixn {t e : TypeId} {x y : Operand} {b n c k sz : Nat} {kd : IntKind} {i : Int} (ho : o.op = .indexAddr t x y) (ht : P.underlying t = some (.slice e)) (hs : (sizeOf e).run P w = .ok sz w) (hx : a.eval x = .slice (some ⟨b, 0, none⟩) n c) (hy : a.eval y = .int kd i)
    (hi : i = (k : Int)) (hk : k < n) (h : Φ (.pointer (some ⟨b, k * sz, none⟩)) w) : OpG P o a w Φ := O_ix ho ht hs hx hy hi hk (by simpa using h)
theorem osl_len {A : Option Addr} {n c : Nat} {xs : List α} (i : Nat) (H : Holds E s L w) (hi : L[i]? = some (d.Osl (.slice A n c) xs)) : n = xs.length := by
  obtain ⟨A', c', e, -⟩ := (H.front i hi).len
  cases e; rfl
theorem osl_i {A : Option Addr} {n c : Nat} {xs : List α} (i : Nat) (H : Holds E s L w) (hi : L[i]? = some (d.Osl (.slice A n c) xs)) (hb : 0 < d.by_) : Kin.inI64 (n : Int) := by
  obtain ⟨A', c', e, -, h, -⟩ := (H.front i hi).len
  cases e
  have := Nat.le_mul_of_pos_right xs.length hb
  constructor <;> omega
theorem S_1f (i : Nat) (ty : TypeId) (x : Operand) {f : Nat} (ho : o.op = .store ty x (.func f)) (hsz : (sizeOf ty).run P w = .ok 1 w) {b q : Nat} (hx : a.eval x = .pointer (some ⟨b, q, none⟩))
    {l : List Value} {t : TypeId} (H : Holds E s L w) (hi : L[i]? = some (pt b (.cells l.toArray t (0, 0)))) (h1 : (Value.func (.func f) #[] #[]).oneCell' = true) (hq : q < l.length)
    (h : ∀ w', Holds E s (L.set i (pt b (.cells (l.set q (.func (.func f) #[] #[])).toArray t (0, 0)))) w' → Φ undef w') : OpG P o a w Φ :=
  G_set1i (v := .func (.func f) #[] #[]) i ty x (.func f) ho hsz hx rfl h1 H hi (by simpa using hq) (by simpa using h)
theorem sl_n {A : Option Addr} {n c : Nat} {xs : List α} (h : d.Sl s (.slice A n c) xs) : n = xs.length := by
  obtain ⟨A', c', e, -⟩ := h
  cases e; rfl
theorem own_has {v : Value} {k : Nat} {x : α} {xs r : List α} (i : Nat) (H : Holds E s L w) (hi : L[i]? = some ((d.sh s0).Osl v xs)) (hd : xs.drop k = x :: r) : ∃ cs, d.K s0 x cs := by
  have hk : k < xs.length := Classical.byContradiction fun hn => by rw [List.drop_of_length_le (by omega)] at hd; cases hd
  have hxk : xs[k] = x := by rw [List.drop_eq_getElem_cons hk] at hd; exact (List.cons.inj hd).1
  obtain ⟨b', cap, cur, ⟨e, k1, k2, k3, k4⟩, hrow, H1⟩ := Kin.Osl.openS (H.front i hi) (fun e => by rw [e] at hk; simp at hk)
  obtain ⟨c, hc, -⟩ := hrow.get k hk
  rw [hxk] at hc
  exact ⟨c, hc⟩
theorem G_setO (i : Nat) (ty : TypeId) (x y : Operand) (ho : o.op = .store ty x y) {c : List Value} {v : Value} (hvc : v.cells = c.toArray) (hsz : (sizeOf ty).run P w = .ok c.length w) {b q : Nat} (hx : a.eval x = .pointer (some ⟨b, q, none⟩)) (hy : a.eval y = v)
    (h1 : ∀ u ∈ c, u.oneCell' = true) {cs : Array Value} {t : TypeId} (H : Holds E s L w) (hi : L[i]? = some (pt b (.cells cs t (0, 0)))) (hq : q + c.length ≤ cs.size)
    (h : ∀ w', Holds E s (L.set i (pt b (.cells (cs.toList.take q ++ c ++ cs.toList.drop (q + c.length)).toArray t (0, 0)))) w' → Φ undef w') : OpG P o a w Φ := by
  unfold OpG execOp
  have H1 := H.front i hi
  have hb := H1.at_pt
  have hst := run_storeCells_at P b q t c 0 cs w hb (by simpa using hq) h1
  have hr : (storeVar ty ⟨b, q, none⟩ v).run P w = .ok () (w.setRow b (cs.toList.take q ++ c ++ cs.toList.drop (q + c.length)).toArray) := by
    simp only [storeVar, hvc, Sem.run_bind, hsz, Result.andThen_ok]
    simp only [List.size_toArray, ne_eq, not_true_eq_false, if_false, Sem.run_pure, Result.andThen_ok, hst, Nat.add_zero]
  simp only [ho, hx, hy, Instr.storeAt, Instr.sureAddr, Sem.run_bind, Sem.run_pure, Result.andThen_ok, hr, Oper.gives]
  exact h (w.setRow b (cs.toList.take q ++ c ++ cs.toList.drop (q + c.length)).toArray) (Holds.back i hi (Holds.upd (w' := w.setRow b (cs.toList.take q ++ c ++ cs.toList.drop (q + c.length)).toArray) H1 rfl rfl rfl (fun k _ hk => setRow_other w b k _ hk) (setRow_heap w b cs _ t _ hb)))
/-- xs[k] as a whole is written anew. -/
theorem G_ownsetN (i : Nat) (ty : TypeId) (x y : Operand) (ho : o.op = .store ty x y) {b n cp k q : Nat} {j : Int} {c : List Value} {v : Value} (hvc : v.cells = c.toArray) (hsz : (sizeOf ty).run P w = .ok c.length w) {x' : α} {xs : List α} (hx : a.eval x = .pointer (some ⟨b, q, none⟩)) (hq : q = k * d.sz) (hy : a.eval y = v)
    (H : Holds E s L w) (hi : L[i]? = some ((d.sh s0).Osl (.slice (some ⟨b, 0, none⟩) n cp) xs)) (hj : j = (k : Int)) (hk : k < xs.length) (hK : d.K s0 x' c)
    (h : ∀ w', Holds E s (L.set i ((d.sh s0).Osl (.slice (some ⟨b, 0, none⟩) n cp) (setI xs j x'))) w' → Φ undef w') : OpG P o a w Φ := by
  obtain ⟨b', cap, cur, ⟨e, k1, k2, k3, k4⟩, hrow, H1⟩ := Kin.Osl.openS (H.front i hi) (fun e => by rw [e] at hk; simp at hk)
  cases e
  have hcl := d.len hK
  have hm : (k + 1) * d.sz ≤ xs.length * d.sz := Nat.mul_le_mul_right _ hk
  have hm2 : xs.length * d.sz ≤ cp * d.sz := Nat.mul_le_mul_right _ k1
  have hs : (k + 1) * d.sz = k * d.sz + d.sz := Nat.succ_mul _ _
  have e1 : j.toNat = k := by omega
  subst hq
  refine G_setO 0 ty x y ho hvc hsz hx hy (d.one hK) H1 rfl (by rw [hcl, k3]; omega) fun w' H' => h w' (Holds.back i hi ?_)
  rw [List.set_cons_zero] at H'
  unfold setI
  rw [e1]
  rw [show xs.length = (xs.set k x').length from (List.length_set ..).symm]
  refine Kin.Osl.shutS H' (by rw [List.length_set]; exact k1) k2 ?_ (by rw [List.length_set]; exact k4) ?_
  · simp only [List.size_toArray, List.length_append, List.length_take, List.length_drop, Array.length_toList, hcl, k3]
    omega
  · have e2 : ((cur.toList.take (k * d.sz) ++ c ++ cur.toList.drop (k * d.sz + c.length)).take ((xs.set k x').length * d.sz)) = ((cur.toList.take (xs.length * d.sz)).take (k * d.sz) ++ c ++ (cur.toList.take (xs.length * d.sz)).drop ((k + 1) * d.sz)) := by
      rw [List.length_set, List.take_take, Nat.min_eq_left (by omega), List.drop_take]
      have hl1 : (cur.toList.take (k * d.sz) ++ c).length = (k + 1) * d.sz := by
        rw [List.length_append, List.length_take, Array.length_toList, hcl, k3]; omega
      rw [List.take_append, List.take_of_length_le (by rw [hl1]; exact hm), hl1, hcl, ← hs]
    show d.Row s0 (xs.set k x') ((cur.toList.take (k * d.sz) ++ c ++ cur.toList.drop (k * d.sz + c.length)).take ((xs.set k x').length * d.sz))
    rw [e2]
    exact row_set k hk hrow hK
/-- One cell of xs[k] is written anew. -/
theorem G_ownsetF (i : Nat) (ty : TypeId) (x y : Operand) (ho : o.op = .store ty x y) (hsz : (sizeOf ty).run P w = .ok 1 w) {b n cp k q f : Nat} {j : Int} {v : Value} {x0 x' : α} {xs r : List α} (hx : a.eval x = .pointer (some ⟨b, q, none⟩)) (hq : q = k * d.sz + f) (hf : f < d.sz) (hy : a.eval y = v)
    (H : Holds E s L w) (hi : L[i]? = some ((d.sh s0).Osl (.slice (some ⟨b, 0, none⟩) n cp) xs)) (hj : j = (k : Int)) (hd : xs.drop k = x0 :: r) (h1 : v.oneCell' = true) (hK : ∀ cs, d.K s0 x0 cs → d.K s0 x' (cs.set f v))
    (h : ∀ w', Holds E s (L.set i ((d.sh s0).Osl (.slice (some ⟨b, 0, none⟩) n cp) (setI xs j x'))) w' → Φ undef w') : OpG P o a w Φ := by
  have hk : k < xs.length := Classical.byContradiction fun hn => by rw [List.drop_of_length_le (by omega)] at hd; cases hd
  have hxk : xs[k] = x0 := by rw [List.drop_eq_getElem_cons hk] at hd; exact (List.cons.inj hd).1
  obtain ⟨b', cap, cur, ⟨e, k1, k2, k3, k4⟩, hrow, H1⟩ := Kin.Osl.openS (H.front i hi) (fun e => by rw [e] at hk; simp at hk)
  cases e
  have hm : (k + 1) * d.sz ≤ xs.length * d.sz := Nat.mul_le_mul_right _ hk
  have hm2 : xs.length * d.sz ≤ cp * d.sz := Nat.mul_le_mul_right _ k1
  have hs : (k + 1) * d.sz = k * d.sz + d.sz := Nat.succ_mul _ _
  have e1 : j.toNat = k := by omega
  subst hq
  refine G_set1i 0 ty x y ho hsz hx hy h1 H1 rfl (by rw [k3]; omega) fun w' H' => h w' (Holds.back i hi ?_)
  rw [List.set_cons_zero] at H'
  unfold setI
  rw [e1]
  rw [show xs.length = (xs.set k x').length from (List.length_set ..).symm]
  refine Kin.Osl.shutS H' (by rw [List.length_set]; exact k1) k2 (by simpa using k3) (by rw [List.length_set]; exact k4) ?_
  have e2 : (cur.setIfInBounds (k * d.sz + f) v).toList.take ((xs.set k x').length * d.sz) = (cur.toList.take (xs.length * d.sz)).set (k * d.sz + f) v := by
    rw [Array.toList_setIfInBounds, List.length_set, List.take_set]
  rw [e2]
  obtain ⟨c, hc, hg⟩ := hrow.get k hk
  rw [hxk] at hc
  exact row_put k hk hrow hg (d.len hc) hf (hK c hc)
/-- xs[k] as a whole is read, or one cell of it of which not all is known. -/
theorem G_owngetN (i : Nat) (ty : TypeId) (x : Operand) (ho : o.op = .load ty x) (hna : (isAgg ty).run P w = .ok true w) (hsz : (sizeOf ty).run P w = .ok d.sz w) {b n c k q : Nat} {x' : α} {xs r : List α} (hx : a.eval x = .pointer (some ⟨b, q, none⟩)) (hq : q = k * d.sz)
    (H : Holds E s L w) (hi : L[i]? = some ((d.sh s0).Osl (.slice (some ⟨b, 0, none⟩) n c) xs)) (hd : xs.drop k = x' :: r) (h : ∀ cs, d.K s0 x' cs → Φ (.agg cs.toArray) w) : OpG P o a w Φ := by
  have hk : k < xs.length := Classical.byContradiction fun hn => by rw [List.drop_of_length_le (by omega)] at hd; cases hd
  have hxk : xs[k] = x' := by rw [List.drop_eq_getElem_cons hk] at hd; exact (List.cons.inj hd).1
  obtain ⟨cs, hc, hr⟩ := Kin.Osl.readAt (H.front i hi) k hk
  rw [hxk] at hc
  subst hq
  exact G_agg ty x ho hna (by rw [d.len hc]; exact hsz) hx hr (h cs hc)
theorem G_owngetF (i : Nat) (ty : TypeId) (x : Operand) (ho : o.op = .load ty x) (hna : (isAgg ty).run P w = .ok false w) {b n c k f q : Nat} {x' : α} {xs r : List α} (hx : a.eval x = .pointer (some ⟨b, q, none⟩)) (hq : q = k * d.sz + f) (hf : f < d.sz)
    (H : Holds E s L w) (hi : L[i]? = some ((d.sh s0).Osl (.slice (some ⟨b, 0, none⟩) n c) xs)) (hd : xs.drop k = x' :: r) (h : ∀ cs v, d.K s0 x' cs → cs[f]? = some v → Φ v w) : OpG P o a w Φ := by
  have hk : k < xs.length := Classical.byContradiction fun hn => by rw [List.drop_of_length_le (by omega)] at hd; cases hd
  have hxk : xs[k] = x' := by rw [List.drop_eq_getElem_cons hk] at hd; exact (List.cons.inj hd).1
  obtain ⟨cs, hc, hr⟩ := Kin.Osl.readAt (H.front i hi) k hk
  rw [hxk] at hc
  have hl := d.len hc
  have hv : cs[f]? = some cs[f] := List.getElem?_eq_getElem (by omega)
  have := hr f _ hv
  have e : (⟨b, k * d.sz, none⟩ : Addr).add f = ⟨b, q, none⟩ := by rw [hq]; unfold Addr.add; split <;> simp_all
  rw [e] at this
  exact G_cell ty x ho hna hx this (h cs _ hc hv)

/-! ### a field of a struct -/
theorem O_fd {t : TypeId} {x : Operand} {i : Nat} {fs : Array Field} {f : Field} {cs : Array Value} {v : Value} (ho : o.op = .field t x i) (ht : P.underlying t = some (.struct fs)) (hf : fs[i]? = some f) (hx : a.eval x = .agg cs)
    (hna : (isAgg f.type).run P w = .ok false w) (hv : cs[f.offset]? = some v) (h : Φ v w) : OpG P o a w Φ := by
  have hr : (Instr.field t (.agg cs) i).run P w = .ok v w := by
    simp [Instr.field, run_underlying ht, hf, asAgg, part, hna, hv, Result.andThen]
  unfold OpG execOp
  simp only [ho, hx, Sem.run_bind, Sem.run_pure, Result.andThen_ok, hr, Oper.gives]
  exact h
/-! ### what is left of a division -/
def remI (_k : IntKind) (x y : Int) : Option Int := if y = 0 then none else some (x.tmod y)
theorem r_rem {k : IntKind} {x y v : Int} {t : TypeId} (h : remI k x y = some v) : (binOp .rem t (.int k x) (.int k y)).run P w = .ok (.int k v) w := by
  unfold remI at h
  split at h
  · cases h
  · rename_i hy
    cases h
    rw [Go.binOp_rem]
    unfold Op.intDiv
    rw [if_neg hy]
    rfl
/-! ### slice literals -/
theorem fill_list {k : Nat} : ∀ (vs : List Value) (i : Nat) (cs : Array Value), (∀ v ∈ vs, v.cells.size = k) → (i + vs.length) * k ≤ cs.size →
    Instr.fill (fun i => some (i * k, k)) cs ((vs.zipIdx i).map fun p => (p.2, p.1)) = some (cs.toList.take (i * k) ++ vs.flatMap (fun v => v.cells.toList) ++ cs.toList.drop ((i + vs.length) * k)).toArray
  | [], i, cs, _, _ => by simp [Instr.fill]
  | v :: vs, i, cs, hv, hl => by
    have hvk : v.cells.size = k := hv v (by simp)
    have hl' : (i + 1 + vs.length) * k ≤ cs.size := by simp only [List.length_cons] at hl; rw [show i + 1 + vs.length = i + (vs.length + 1) by omega]; exact hl
    have h3 : i * k + k ≤ (i + 1 + vs.length) * k := by rw [← Nat.succ_mul]; exact Nat.mul_le_mul_right _ (by omega)
    have hc : ¬ (v.cells.size ≠ k ∨ i * k + v.cells.size > cs.size) := by rw [hvk]; omega
    have hfold := foldl_set v.cells.toList (i * k) cs (by simp only [Array.length_toList, hvk]; omega)
    have hz : v.cells.zipIdx.foldl (fun cs (p : Value × Nat) => cs.setIfInBounds (i * k + p.2) p.1) cs = (cs.toList.take (i * k) ++ v.cells.toList ++ cs.toList.drop (i * k + v.cells.toList.length)).toArray := by
      rw [← hfold, ← Array.foldl_toList, Array.toList_zipIdx]
      have : ∀ (l : List Value) (m : Nat) (cs : Array Value), (l.zipIdx m).foldl (fun cs (p : Value × Nat) => cs.setIfInBounds (i * k + p.2) p.1) cs = (l.zipIdx (i * k + m)).foldl (fun cs (p : Value × Nat) => cs.setIfInBounds p.2 p.1) cs := by
        intro l
        induction l with
        | nil => intro m cs; rfl
        | cons x l ih => intro m cs; simp only [List.zipIdx_cons, List.foldl_cons]; rw [ih]; rfl
      exact this _ 0 cs
    simp only [List.zipIdx_cons, List.map_cons, Instr.fill]
    rw [if_neg (by simpa using hc)]
    have ih := fill_list vs (i + 1) (v.cells.zipIdx.foldl (fun cs (p : Value × Nat) => cs.setIfInBounds (i * k + p.2) p.1) cs) (fun u hu => hv u (List.mem_cons_of_mem _ hu)) (by
      rw [hz]
      simp only [List.size_toArray, List.length_append, List.length_take, List.length_drop, Array.length_toList, hvk]
      omega)
    refine ih.trans ?_
    congr 2
    rw [hz]
    simp only [List.flatMap_cons, List.length_cons, Array.length_toList, hvk]
    have e1 : (i + 1) * k = i * k + k := Nat.succ_mul _ _
    have hl1 : (cs.toList.take (i * k) ++ v.cells.toList).length = (i + 1) * k := by
      rw [List.length_append, List.length_take, Array.length_toList, Array.length_toList, hvk]; omega
    have h4 : (i + 1) * k ≤ (i + 1 + vs.length) * k := Nat.mul_le_mul_right _ (by omega)
    rw [List.take_left' hl1]
    rw [show ∀ (A B : List Value), A.length = (i + 1) * k → (A ++ B).drop ((i + 1 + vs.length) * k) = B.drop ((i + 1 + vs.length) * k - (i + 1) * k) from fun A B hA => by
      rw [List.drop_append, List.drop_eq_nil_of_le (by omega), hA, List.nil_append]]
    rotate_left
    · exact hl1
    rw [List.drop_drop]
    have e2 : i * k + k + ((i + 1 + vs.length) * k - (i + 1) * k) = (i + (vs.length + 1)) * k := by
      rw [show i + (vs.length + 1) = i + 1 + vs.length by omega]; rw [e1]
      have := Nat.mul_le_mul_right k (show i + 1 ≤ i + 1 + vs.length by omega)
      omega
    rw [e2]
    simp
/-- Elements one behind the other, each with its value. -/
def RowV (d : Kin α) (s : SH) : List α → List Value → Prop
  | [], [] => True
  | x :: xs, v :: vs => d.K s x v.cells.toList ∧ RowV d s xs vs
  | _, _ => False
theorem RowV.row : ∀ {xs : List α} {vs : List Value}, RowV d s xs vs → d.Row s xs (vs.flatMap fun v => v.cells.toList) ∧ (∀ v ∈ vs, v.cells.size = d.sz) ∧ xs.length = vs.length
  | [], [], _ => ⟨rfl, (fun _ h => by cases h), rfl⟩
  | x :: xs, v :: vs, h => by
    obtain ⟨h1, h2, h3⟩ := RowV.row h.2
    refine ⟨⟨_, _, List.flatMap_cons .., h.1, h1⟩, fun u hu => ?_, by simp [h3]⟩
    rcases List.mem_cons.1 hu with e | e
    · subst e; simpa using d.len h.1
    · exact h2 u e
  | [], _ :: _, h => h.elim
  | _ :: _, [], h => h.elim
/-- A slice literal: it is owned, its elements stay. -/
theorem SL_n {t : TypeId} (m : Nat) {parts : Array (Nat × Operand)} (ho : o.op = .buildSlice t m parts) (vs : List Value) (hp : (parts.map fun p => (p.1, a.eval p.2)) = ((vs.zipIdx 0).map fun p => (p.2, p.1)).toArray) {z : Value} (ht : P.underlying t = some (.slice d.e)) (hs : ∀ w, (sizeOf d.e).run P w = .ok d.sz w)
    (hz : ∀ w, (zeroValue d.e).run P w = .ok z w) (hzs : z.cells.size = d.sz) (xs : List α) (hr : RowV d s0 xs vs) (hl : xs.length = m) (h0 : 0 < m) (h24 : m * d.sz ≤ 16777216) (hby : m * d.by_ ≤ 140737488355328) (H : Holds E s L w)
    (h : ∀ b w', Holds E s ((d.sh s0).Osl (.slice (some ⟨b, 0, none⟩) xs.length m) xs :: L) w' → Φ (.slice (some ⟨b, 0, none⟩) xs.length m) w') : OpG P o a w Φ := by
  obtain ⟨hrow, hv, hlv⟩ := hr.row
  have hsz := d.szpos
  have hf := fill_list (k := d.sz) vs 0 ((Array.range (m * d.sz)).map (fun i => z.cells[i % z.cells.size]!)) hv (by simp only [Array.size_map, Array.size_range]; rw [← hlv, hl, Nat.zero_add]; exact Nat.le_refl _)
  have e0 : (vs.flatMap fun v => v.cells.toList).length = m * d.sz := by rw [hrow.len, hl]
  have hf' : Instr.fill (fun i => some (i * d.sz, d.sz)) ((Array.range (m * d.sz)).map (fun i => z.cells[i % z.cells.size]!)) ((vs.zipIdx 0).map fun p => (p.2, p.1)) = some (vs.flatMap fun v => v.cells.toList).toArray := by
    refine hf.trans ?_
    congr 2
    rw [Nat.zero_mul, List.take_zero, List.nil_append, List.drop_of_length_le (by simp only [Array.length_toList, Array.size_map, Array.size_range]; rw [← hlv, hl, Nat.zero_add]; exact Nat.le_refl _), List.append_nil]
  have hr2 : (Instr.buildSlice t m (parts.map fun p => (p.1, a.eval p.2))).run P w = .ok (.slice (some ⟨w.heap.size, 0, none⟩) m m) (w.alloc (.cells (vs.flatMap fun v => v.cells.toList).toArray d.e (0, 0))) := by
    have hk : ¬ (m * d.sz > 2 ^ 24) := by simp; omega
    have hk0 : ¬ (m * d.sz = 0) := by have := Nat.mul_pos h0 hsz; omega
    rw [hp]
    simp only [Instr.buildSlice, Sem.run_bind, run_underlying ht, hs, Result.andThen_ok, hk, if_false, hk0, hz, Sem.run_pure, List.toList_toArray, hf', newRow, run_newObj_alloc]
  unfold OpG execOp
  have hpm : (parts.map fun (x : Nat × Operand) => match x with | (i, x) => (i, a.eval x)) = (parts.map fun p => (p.1, a.eval p.2)) := rfl
  simp only [ho, hpm, Sem.run_bind, Sem.run_pure, Result.andThen_ok, hr2, Oper.gives]
  subst hl
  refine h _ _ (Kin.Osl.shutS (d := d) (H.alloc _) (Nat.le_refl _) ?_ ?_ hby ?_)
  · have := Nat.le_mul_of_pos_right xs.length hsz; exact Nat.le_trans (by omega : xs.length ≤ 16777216) (by decide)
  · simpa using e0
  · rw [List.take_of_length_le (by simp only [e0]; omega)]; exact hrow
end
end Go.Proofs.YtemdmpgekegfhaaDoor
