/- One operation at a time, over worlds of which 'Holds' is known. -/
import Derived.Test.YtemdmpgekegfhaaDoorKin
namespace Go.Proofs.YtemdmpgekegfhaaDoor
open Go.RowKit
set_option linter.all false
set_option maxRecDepth 10000

@[go_sem] theorem gives_value (P : Program) (Φ : Value → World → Prop) (v : Value) (w : World) : Oper.gives P Φ (.ok (.value v) w) = Φ v w := rfl
@[go_sem] theorem gives_skip (P : Program) (Φ : Value → World → Prop) (w : World) : Oper.gives P Φ (.ok .skip w) = Φ undef w := rfl
@[go_sem] theorem gives_enter (P : Program) (Φ : Value → World → Prop) (f : FuncId) (args : Array Value) (w : World) :
    Oper.gives P Φ (.ok (.enter f args) w) = Calls P f args w fun e w'' => ∃ v, e = .returned v ∧ Φ v w'' := rfl

section
variable {P : Program} {o : Oper} {a : Act} {w : World} {Φ : Value → World → Prop} {E : World} {s : SH} {L : List HP}

theorem run_load1 {p : Addr} {u : Value} (hc : w.cell? p = some u) : (load p).run P w = .ok u w := by
  simp [load, Sem.run, hc]
/-- A value of one cell is read. -/
theorem G_cell (ty : TypeId) (x : Operand) (ho : o.op = .load ty x) (hna : (isAgg ty).run P w = .ok false w) {p : Addr} (hx : a.eval x = .pointer (some p))
    {u : Value} (hc : w.cell? p = some u) (h : Φ u w) : OpG P o a w Φ := by
  unfold OpG execOp
  simp only [ho, hx, Instr.loadAt, Instr.sureAddr, loadVar, Sem.run_bind, Sem.run_pure, Result.andThen_ok, hna, Bool.false_eq_true, if_false, run_load1 hc, Oper.gives]
  exact h
/-- A struct or an array is read. -/
theorem G_agg (ty : TypeId) (x : Operand) (ho : o.op = .load ty x) (hna : (isAgg ty).run P w = .ok true w) {c : List Value} (hsz : (sizeOf ty).run P w = .ok c.length w) {p : Addr} (hx : a.eval x = .pointer (some p))
    (hc : ∀ j u, c[j]? = some u → w.cell? (p.add j) = some u) (h : Φ (.agg c.toArray) w) : OpG P o a w Φ := by
  unfold OpG execOp
  have hl := run_loadCells_list (P := P) w p c hc
  simp only [ho, hx, Instr.loadAt, Instr.sureAddr, loadVar, Sem.run_bind, Sem.run_pure, Result.andThen_ok, hna, if_true, hsz, hl, Oper.gives]
  exact h
theorem G_s1 (ty : TypeId) (x : Operand) (ho : o.op = .load ty x) (hna : (isAgg ty).run P w = .ok false w) {b q off : Nat} (hx : a.eval x = .pointer (some ⟨b, q, none⟩))
    (H : Holds E s L w) {c : List Value} (hc : Cells s ⟨b, off, none⟩ c) (j : Nat) (hq : q = off + j) {u : Value} (hu : c[j]? = some u) (h : Φ u w) : OpG P o a w Φ :=
  G_cell ty x ho hna hx (by subst hq; exact hc.cell' H j u hu) h
theorem G_sN (ty : TypeId) (x : Operand) (ho : o.op = .load ty x) (hna : (isAgg ty).run P w = .ok true w) {p : Addr} (hx : a.eval x = .pointer (some p))
    (H : Holds E s L w) {c : List Value} (hc : Cells s p c) (hsz : (sizeOf ty).run P w = .ok c.length w) (h : Φ (.agg c.toArray) w) : OpG P o a w Φ :=
  G_agg ty x ho hna hsz hx (fun j u hu => hc.cell H j u hu) h
theorem G_p1 (ty : TypeId) (x : Operand) (ho : o.op = .load ty x) (hna : (isAgg ty).run P w = .ok false w) {b q : Nat} (hx : a.eval x = .pointer (some ⟨b, q, none⟩))
    {cs : Array Value} {t : TypeId} {fr : Nat × Nat} (H : Holds E s (pt b (.cells cs t fr) :: L) w) {u : Value} (hu : cs[q]? = some u) (h : Φ u w) : OpG P o a w Φ :=
  G_cell ty x ho hna hx (by simp only [World.cell?, H.at_pt]; exact hu) h
theorem G_pN (ty : TypeId) (x : Operand) (ho : o.op = .load ty x) (hna : (isAgg ty).run P w = .ok true w) {b : Nat} (hx : a.eval x = .pointer (some ⟨b, 0, none⟩))
    {c : List Value} {t : TypeId} {fr : Nat × Nat} (H : Holds E s (pt b (.cells c.toArray t fr) :: L) w) (hsz : (sizeOf ty).run P w = .ok c.length w) (h : Φ (.agg c.toArray) w) : OpG P o a w Φ :=
  G_agg ty x ho hna hsz hx (fun j u hu => by
    have e : (⟨b, 0, none⟩ : Addr).add j = ⟨b, j, none⟩ := by unfold Addr.add; split <;> simp_all
    rw [e]; simp only [World.cell?, H.at_pt]; simpa using hu) h
/-- A new variable, zero or of a value. -/
theorem G_alloc (ty : TypeId) (ho : o.op = .alloc ty) {z : Value} (hz : (zeroValue ty).run P w = .ok z w) (H : Holds E s L w)
    (h : ∀ b w', Holds E s (pt b (.cells z.cells ty (0, 0)) :: L) w' → Φ (.pointer (some ⟨b, 0, none⟩)) w') : OpG P o a w Φ := by
  unfold OpG execOp
  have hr : (Instr.alloc ty true (.tuple #[])).run P w = .ok (.pointer (some ⟨w.heap.size, 0, none⟩)) (w.alloc (.cells z.cells ty (0, 0))) := by
    simp [Instr.alloc, Sem.run_bind, hz, newVar, newRow]
  simp only [ho, Sem.run_bind, Sem.run_pure, Result.andThen_ok, hr, Oper.gives]
  exact h _ _ (H.alloc _)
theorem G_box (ty : TypeId) (x : Operand) (ho : o.op = .box ty x) {v : Value} (hx : a.eval x = v) (H : Holds E s L w)
    (h : ∀ b w', Holds E s (pt b (.cells v.cells ty (0, 0)) :: L) w' → Φ (.pointer (some ⟨b, 0, none⟩)) w') : OpG P o a w Φ := by
  unfold OpG execOp
  have hr : (Instr.box ty v).run P w = .ok (.pointer (some ⟨w.heap.size, 0, none⟩)) (w.alloc (.cells v.cells ty (0, 0))) := by
    simp [Instr.box, Sem.run_bind, newVar, newRow]
  simp only [ho, hx, Sem.run_bind, Sem.run_pure, Result.andThen_ok, hr, Oper.gives]
  exact h _ _ (H.alloc _)
/-- Into one cell. -/
theorem G_set1 (ty : TypeId) (x y : Operand) (ho : o.op = .store ty x y) (hsz : (sizeOf ty).run P w = .ok 1 w) {b q : Nat} (hx : a.eval x = .pointer (some ⟨b, q, none⟩)) {v : Value} (hy : a.eval y = v)
    (h1 : v.oneCell' = true) {cs : Array Value} {t : TypeId} (H : Holds E s (pt b (.cells cs t (0, 0)) :: L) w) (hq : q < cs.size)
    (h : ∀ w', Holds E s (pt b (.cells (cs.setIfInBounds q v) t (0, 0)) :: L) w' → Φ undef w') : OpG P o a w Φ := by
  unfold OpG execOp
  have hv : v.cells = #[v] := by cases v <;> first | rfl | (simp [Value.oneCell'] at h1)
  have hb := H.at_pt
  have hst := run_storeCells_at P b q t [v] 0 cs w hb (by simp; omega) (by simpa using h1)
  have hr : (storeVar ty ⟨b, q, none⟩ v).run P w = .ok () (w.setRow b (cs.setIfInBounds q v)) := by
    simp only [storeVar, hv, Sem.run_bind, hsz, Result.andThen_ok]
    simp only [List.size_toArray, List.length_cons, List.length_nil, Nat.zero_add, ne_eq, not_true_eq_false, if_false, Sem.run_pure, Result.andThen_ok, hst]
    congr 1
    congr 1
    apply Array.ext'
    simp only [Nat.add_zero, List.length_cons, List.length_nil, Nat.zero_add, Array.toList_setIfInBounds]
    rw [List.append_assoc, List.singleton_append, List.set_eq_take_append_cons_drop, if_pos (by simpa using hq)]
  simp only [ho, hx, hy, Instr.storeAt, Instr.sureAddr, Sem.run_bind, Sem.run_pure, Result.andThen_ok, hr, Oper.gives]
  exact h _ (H.upd rfl rfl rfl (fun k _ hk => setRow_other w b k _ hk) (setRow_heap w b cs _ t _ hb))
/-- A whole variable. -/
theorem G_setN (ty : TypeId) (x y : Operand) (ho : o.op = .store ty x y) {c : List Value} (hsz : (sizeOf ty).run P w = .ok c.length w) {b : Nat} (hx : a.eval x = .pointer (some ⟨b, 0, none⟩)) (hy : a.eval y = .agg c.toArray)
    (h1 : ∀ u ∈ c, u.oneCell' = true) {cs : Array Value} {t : TypeId} (H : Holds E s (pt b (.cells cs t (0, 0)) :: L) w) (hq : c.length = cs.size)
    (h : ∀ w', Holds E s (pt b (.cells c.toArray t (0, 0)) :: L) w' → Φ undef w') : OpG P o a w Φ := by
  unfold OpG execOp
  have hb := H.at_pt
  have hst := run_storeCells_from (P := P) b t c 0 cs w hb (by omega) h1
  have hr : (storeVar ty ⟨b, 0, none⟩ (.agg c.toArray)).run P w = .ok () (w.setRow b c.toArray) := by
    simp only [storeVar, Value.cells, Sem.run_bind, hsz, Result.andThen_ok]
    simp only [List.size_toArray, ne_eq, not_true_eq_false, if_false, Sem.run_pure, Result.andThen_ok, hst, List.take_zero, List.nil_append]
  simp only [ho, hx, hy, Instr.storeAt, Instr.sureAddr, Sem.run_bind, Sem.run_pure, Result.andThen_ok, hr, Oper.gives]
  exact h _ (H.upd rfl rfl rfl (fun k _ hk => setRow_other w b k _ hk) (setRow_heap w b cs _ t _ hb))

/-- The same where the row stands at place i of what is owned. -/
theorem G_p1i (i : Nat) (ty : TypeId) (x : Operand) (ho : o.op = .load ty x) (hna : (isAgg ty).run P w = .ok false w) {b q : Nat} (hx : a.eval x = .pointer (some ⟨b, q, none⟩))
    {cs : Array Value} {t : TypeId} {fr : Nat × Nat} (H : Holds E s L w) (hi : L[i]? = some (pt b (.cells cs t fr))) {u : Value} (hu : cs[q]? = some u) (h : Φ u w) : OpG P o a w Φ :=
  G_p1 ty x ho hna hx (H.front i hi) hu h
theorem G_pNi (i : Nat) (ty : TypeId) (x : Operand) (ho : o.op = .load ty x) (hna : (isAgg ty).run P w = .ok true w) {b : Nat} (hx : a.eval x = .pointer (some ⟨b, 0, none⟩))
    {c : List Value} {t : TypeId} {fr : Nat × Nat} (H : Holds E s L w) (hi : L[i]? = some (pt b (.cells c.toArray t fr))) (hsz : (sizeOf ty).run P w = .ok c.length w) (h : Φ (.agg c.toArray) w) : OpG P o a w Φ :=
  G_pN ty x ho hna hx (H.front i hi) hsz h
theorem G_set1i (i : Nat) (ty : TypeId) (x y : Operand) (ho : o.op = .store ty x y) (hsz : (sizeOf ty).run P w = .ok 1 w) {b q : Nat} (hx : a.eval x = .pointer (some ⟨b, q, none⟩)) {v : Value} (hy : a.eval y = v)
    (h1 : v.oneCell' = true) {cs : Array Value} {t : TypeId} (H : Holds E s L w) (hi : L[i]? = some (pt b (.cells cs t (0, 0)))) (hq : q < cs.size)
    (h : ∀ w', Holds E s (L.set i (pt b (.cells (cs.setIfInBounds q v) t (0, 0)))) w' → Φ undef w') : OpG P o a w Φ :=
  G_set1 ty x y ho hsz hx hy h1 (H.front i hi) hq fun w' H' => h w' (H'.back i hi)
theorem G_setNi (i : Nat) (ty : TypeId) (x y : Operand) (ho : o.op = .store ty x y) {c : List Value} (hsz : (sizeOf ty).run P w = .ok c.length w) {b : Nat} (hx : a.eval x = .pointer (some ⟨b, 0, none⟩)) (hy : a.eval y = .agg c.toArray)
    (h1 : ∀ u ∈ c, u.oneCell' = true) {cs : Array Value} {t : TypeId} (H : Holds E s L w) (hi : L[i]? = some (pt b (.cells cs t (0, 0)))) (hq : c.length = cs.size)
    (h : ∀ w', Holds E s (L.set i (pt b (.cells c.toArray t (0, 0)))) w' → Φ undef w') : OpG P o a w Φ :=
  G_setN ty x y ho hsz hx hy h1 (H.front i hi) hq fun w' H' => h w' (H'.back i hi)

/-- What the program says of a slice type whose elements are of this kind. -/
structure Kin.At {α : Type} (P : Program) (t : TypeId) (d : Kin α) : Prop where
  ht : P.underlying t = some (.slice d.e)
  bypos : 0 < d.by_
  hi : ∃ i z, P.info? d.e = some i ∧ i.zero = some z ∧ z.cells.size = d.sz ∧ i.size = d.sz ∧ i.bytes = d.by_

theorem Kin.RowM.append {α : Type} {d : Kin α} {ys : List α} {r : List Value} : ∀ {xs : List α} {cs : List Value} {h : SH}, star (d.RowM xs cs) (d.RowM ys r) h → d.RowM (xs ++ ys) (cs ++ r) h
  | [], cs, h, k => by
    obtain ⟨h1, h2, ⟨rfl, he⟩, hb, hd, rfl⟩ := k
    rw [uni_emp_left he]
    exact hb
  | y :: ys', cs, h, k => by
    obtain ⟨h1, h2, ⟨c', r', e, ha⟩, hb, hd, rfl⟩ := k
    refine ⟨c', r' ++ r, by rw [e, List.append_assoc], ?_⟩
    have := (star_assoc (A := d.M y c') (B := d.RowM ys' r') (C := d.RowM ys r)).1 ⟨h1, h2, ha, hb, hd, rfl⟩
    exact star_mono (fun _ a => a) (fun h k => Kin.RowM.append k) this
theorem Kin.RowM.nil {α : Type} {d : Kin α} (H : Holds E s L w) : Holds E s (d.RowM [] [] :: L) w := H.mkEmp.map fun _ h => ⟨rfl, h⟩
theorem Kin.RowM.one' {α : Type} {d : Kin α} {x : α} {c : List Value} (H : Holds E s (d.M x c :: L) w) : Holds E s (d.RowM [x] c :: L) w :=
  H.map fun h k => ⟨c, [], by simp, h, fun _ => none, k, ⟨rfl, fun _ => rfl⟩, fun _ => .inr rfl, by funext b; unfold uni; cases h b <;> rfl⟩
theorem Holds.lenM {α : Type} {d : Kin α} {xs : List α} {cs : List Value} (H : Holds E s (d.RowM xs cs :: L) w) : cs.length = xs.length * d.sz :=
  let ⟨_, ⟨_, _, k, _⟩, _⟩ := H.ex; Kin.RowM.len k
theorem Holds.oneM {α : Type} {d : Kin α} {xs : List α} {cs : List Value} (H : Holds E s (d.RowM xs cs :: L) w) : ∀ u ∈ cs, u.oneCell' = true :=
  let ⟨_, ⟨_, _, k, _⟩, _⟩ := H.ex; Kin.RowM.one k

/-- append onto an owned slice. -/
theorem run_append_osl {α : Type} {d : Kin α} {t ty : TypeId} (hd : d.At P t) {v : Value} {xs ys : List α} {news : List Value} (H : Holds E s (d.Osl v xs :: d.RowM ys news :: L) w)
    {ad : Addr} {c : Nat} (hnews : ∀ j u, news[j]? = some u → w.cell? (ad.add j) = some u) (hby : (xs.length + ys.length) * d.by_ ≤ 140737488355328) :
    ∃ v' w', (Builtin.append_ #[t, t] ty #[v, .slice (some ad) ys.length c]).run P w = .ok v' w' ∧ Holds E s (d.Osl v' (xs ++ ys) :: L) w' := by
  obtain ⟨i, z, hi, hz, hzs, hsz, hbytes⟩ := hd.hi
  have hnl := H.swap.lenM
  have hn1 := H.swap.oneM
  have hsum : xs.length + ys.length ≤ 140737488355328 := Nat.le_trans (Nat.le_mul_of_pos_right _ hd.bypos) hby
  have hzc : ∀ n, (Builtin.zeroCells z.cells n).size = n * d.sz := fun n => by simp [Builtin.zeroCells, hzs]
  rcases Holds.or_ H with H | H
  · obtain ⟨⟨e1, e2⟩, H1⟩ := Holds.pure_ H
    subst e1; subst e2
    have H2 := H1.emp
    by_cases hy : ys = []
    · subst hy
      have hnn : news = [] := List.eq_nil_of_length_eq_zero (by simpa using hnl)
      subst hnn
      refine ⟨.slice none 0 0, w, ?_, (Kin.Osl.nil H2.drop)⟩
      simp [Builtin.append_, run_underlying hd.ht, sizeOf, typeInfo, hi, Builtin.lenOf, Builtin.firstCells, loadCells, loadCellsFrom]
    · have hpos : 0 < ys.length := List.length_pos_iff.2 hy
      have hr := run_append_nil (P := P) w t ty d.e i z hd.ht hi hz ad ys.length c news (by rw [hnl, hsz]) hnews hpos (by simp at hsum; omega) (by rw [hbytes]; simp at hby; omega)
      refine ⟨_, _, hr, ?_⟩
      have hge := grownCap_ge w ys.length 0 d.e
      have hcm : grownCap w ys.length 0 d.e ≤ maxLen := grownCap_le_maxLen w ys.length 0 d.e (by unfold maxLen; simp at hsum; omega)
      have H3 := (H2.drew.alloc (.cells (news.toArray ++ Builtin.zeroCells z.cells (grownCap w ys.length 0 d.e - ys.length)) d.e (0, 0))).shut
      refine H3.map fun h k => .inr ⟨_, grownCap w ys.length 0 d.e, _, ⟨rfl, by simpa using hge, hcm, ?_, by simpa using hby⟩, star_mono (fun _ a => a) (fun h k => ?_) k⟩
      · rw [Array.size_append, hzc, List.size_toArray, hnl, ← Nat.add_mul]; congr 1; omega
      · have : (List.take (([] ++ ys).length * d.sz) (news.toArray ++ Builtin.zeroCells z.cells (grownCap w ys.length 0 d.e - ys.length)).toList) = news := by
          simp only [Array.toList_append, List.nil_append]
          rw [← hnl]; exact List.take_left
        rw [this]; exact k
  · obtain ⟨g, H⟩ := Holds.exists_ H
    obtain ⟨cap, H⟩ := Holds.exists_ H
    obtain ⟨cur, H⟩ := Holds.exists_ H
    obtain ⟨⟨e1, h1, h2, h3, h4⟩, H1⟩ := Holds.pure_ H
    subst e1
    have H2 := H1.open_
    have hg := H2.at_pt
    have hol := H2.swap.lenM
    have hcells : ∀ j u, (cur.toList.take (xs.length * d.sz))[j]? = some u → w.cell? ((⟨g, 0, none⟩ : Addr).add j) = some u := fun j u hu => by
      have e : (⟨g, 0, none⟩ : Addr).add j = ⟨g, j, none⟩ := by unfold Addr.add; split <;> simp_all
      rw [e]; simp only [World.cell?, hg]
      rw [List.getElem?_take] at hu
      split at hu
      · simpa using hu
      · cases hu
    by_cases hroom : xs.length + ys.length ≤ cap
    · have hfit : xs.length * i.size + news.length ≤ cur.size := by rw [hnl, h3, hsz, ← Nat.add_mul]; exact Nat.mul_le_mul_right _ hroom
      have hr := run_append_room (P := P) w t ty d.e i hd.ht hi g xs.length cap cur hg ad ys.length c news (by rw [hnl, hsz]) hnews hn1 hroom hfit
      refine ⟨_, _, hr, ?_⟩
      have H3 := H2.upd (w' := w.setRow g (cur.toList.take (xs.length * i.size) ++ news ++ cur.toList.drop (xs.length * i.size + news.length)).toArray) (o' := .cells (cur.toList.take (xs.length * i.size) ++ news ++ cur.toList.drop (xs.length * i.size + news.length)).toArray d.e (0, 0)) rfl rfl rfl (fun k _ hk => setRow_other w g k _ hk) (setRow_heap w g cur _ d.e _ hg)
      rw [hsz] at H3 hfit ⊢
      have H4 := (Holds.perm (List.Perm.cons _ (List.Perm.swap _ _ _)) H3.swap).shut.map (fun h k => Kin.RowM.append k)
      refine H4.swap.shut.map fun h k => .inr ⟨_, cap, _, ⟨by rw [List.length_append], by simpa using hroom, h2, ?_, by simpa using hby⟩, star_mono (fun _ a => a) (fun h k => ?_) k⟩
      · simp only [List.size_toArray, List.length_append, List.length_take, List.length_drop, Array.length_toList, ← h3]
        omega
      · rw [List.length_append, Nat.add_mul, ← hnl, ← hol] 
        have : (List.take ((List.take (xs.length * d.sz) cur.toList).length + news.length) (List.take (List.take (xs.length * d.sz) cur.toList).length cur.toList ++ news ++ List.drop ((List.take (xs.length * d.sz) cur.toList).length + news.length) cur.toList).toArray.toList) = cur.toList.take (xs.length * d.sz) ++ news := by
          rw [hol, List.toList_toArray, ← hol, ← List.length_append]
          rw [hol]
          exact List.take_left
        rw [this]
        exact k
    · have hr := run_append_grow (P := P) w t ty d.e i z hd.ht hi hz ⟨g, 0, none⟩ xs.length cap (cur.toList.take (xs.length * d.sz)) (by rw [hol, hsz]) hcells ad ys.length c news (by rw [hnl, hsz]) hnews (by omega) (by omega) (growslice_fits (by omega) (by rw [hbytes]; exact hby))
      refine ⟨_, _, hr, ?_⟩
      have hge := grownCap_ge w (xs.length + ys.length) cap d.e
      have hcm : grownCap w (xs.length + ys.length) cap d.e ≤ maxLen := grownCap_le_maxLen w _ cap d.e (by unfold maxLen; omega)
      have H3 := H2.drop
      have H4 := (H3.shut.map (fun h k => Kin.RowM.append k)).drew.alloc (.cells ((cur.toList.take (xs.length * d.sz)).toArray ++ news.toArray ++ Builtin.zeroCells z.cells (grownCap w (xs.length + ys.length) cap d.e - (xs.length + ys.length))) d.e (0, 0))
      refine H4.shut.map fun h k => .inr ⟨_, grownCap w (xs.length + ys.length) cap d.e, _, ⟨by rw [List.length_append]; rfl, by simpa using hge, hcm, ?_, by simpa using hby⟩, star_mono (fun _ a => a) (fun h k => ?_) k⟩
      · rw [Array.size_append, hzc, Array.size_append, List.size_toArray, List.size_toArray, hol, hnl, ← Nat.add_mul, ← Nat.add_mul]; congr 1; omega
      · have : (List.take ((xs ++ ys).length * d.sz) ((cur.toList.take (xs.length * d.sz)).toArray ++ news.toArray ++ Builtin.zeroCells z.cells (grownCap w (xs.length + ys.length) cap d.e - (xs.length + ys.length))).toList) = cur.toList.take (xs.length * d.sz) ++ news := by
          simp only [Array.toList_append, List.length_append, Nat.add_mul]
          have e1 : xs.length * d.sz + ys.length * d.sz = (cur.toList.take (xs.length * d.sz) ++ news).length := by rw [List.length_append, hol, hnl]
          rw [e1]; exact List.take_left
        rw [this]; exact k
theorem G_append {α : Type} {d : Kin α} {t : TypeId} (hd : d.At P t) (x y : Operand) (ho : o.op = .call { callee := .builtin .append, args := #[x, y], argTypes := #[t, t] })
    {v : Value} {xs ys : List α} {news : List Value} (H : Holds E s (d.Osl v xs :: d.RowM ys news :: L) w)
    {ad : Addr} {c n : Nat} (hx : a.eval x = v) (hy : a.eval y = .slice (some ad) n c) (hn : n = ys.length) (hnews : ∀ j u, news[j]? = some u → w.cell? (ad.add j) = some u) (hby : (xs.length + ys.length) * d.by_ ≤ 140737488355328)
    (h : ∀ v' w', Holds E s (d.Osl v' (xs ++ ys) :: L) w' → Φ v' w') : OpG P o a w Φ := by
  subst hn
  obtain ⟨v', w', hr, H'⟩ := run_append_osl (P := P) (ty := o.type) hd H (ad := ad) (c := c) hnews hby
  unfold OpG execOp
  simp only [ho, resolve, invoke, builtin, Sem.run_bind, Sem.run_pure, Result.andThen_ok, List.map_toArray, List.map_cons, List.map_nil, hx, hy, hr, Oper.gives]
  exact h v' w' H'
/-- append of one element, behind the slice literal that holds it. -/
theorem G_append1 {α : Type} {d : Kin α} {t : TypeId} (hd : d.At P t) (x y : Operand) (ho : o.op = .call { callee := .builtin .append, args := #[x, y], argTypes := #[t, t] })
    {v : Value} {xs : List α} {p : α} {cs : List Value} {g : Nat} {te : TypeId} (H : Holds E s (pt g (.cells cs.toArray te (0, 0)) :: d.Osl v xs :: d.M p cs :: L) w)
    {c : Nat} (hx : a.eval x = v) (hy : a.eval y = .slice (some ⟨g, 0, none⟩) 1 c) (hby : (xs.length + 1) * d.by_ ≤ 140737488355328)
    (h : ∀ v' w', Holds E s (d.Osl v' (xs ++ [p]) :: L) w' → Φ v' w') : OpG P o a w Φ := by
  have hg := H.at_pt
  refine G_append hd x y ho (ys := [p]) (Kin.RowM.one' (H.drop.swap)).swap hx hy rfl (fun j u hu => ?_) hby h
  have e : (⟨g, 0, none⟩ : Addr).add j = ⟨g, j, none⟩ := by unfold Addr.add; split <;> simp_all
  rw [e]; simp only [World.cell?, hg]; simpa using hu
end
end Go.Proofs.YtemdmpgekegfhaaDoor
