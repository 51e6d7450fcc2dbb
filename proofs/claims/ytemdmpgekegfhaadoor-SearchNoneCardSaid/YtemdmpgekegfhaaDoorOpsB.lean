/- Slices that the call makes: literals, make; a slice against nil; an owned slice out of a new block. -/
import Derived.Test.YtemdmpgekegfhaaDoorOps
namespace Go.Proofs.YtemdmpgekegfhaaDoor
open Go.RowKit
set_option linter.all false
set_option maxRecDepth 10000

theorem foldl_set : ∀ (vs : List Value) (k : Nat) (cs : Array Value), k + vs.length ≤ cs.size →
    (vs.zipIdx k).foldl (fun cs (x : Value × Nat) => cs.setIfInBounds x.2 x.1) cs = (cs.toList.take k ++ vs ++ cs.toList.drop (k + vs.length)).toArray
  | [], k, cs, _ => by simp
  | v :: vs, k, cs, h => by
    simp only [List.zipIdx_cons, List.foldl_cons]
    rw [foldl_set vs (k + 1) (cs.setIfInBounds k v) (by simp at h ⊢; omega)]
    apply Array.ext'
    simp only [Array.toList_setIfInBounds, List.length_cons]
    have hk : k < cs.toList.length := by simp at h ⊢; omega
    rw [List.set_eq_take_append_cons_drop, if_pos hk]
    rw [List.take_append, List.take_of_length_le (by simp; omega), List.length_take, Nat.min_eq_left (by omega)]
    have e1 : k + 1 - k = 1 := by omega
    rw [e1]
    have e2 : List.drop (k + 1 + vs.length) (List.take k cs.toList ++ v :: List.drop (k + 1) cs.toList) = List.drop (k + (vs.length + 1)) cs.toList := by
      rw [List.drop_append, List.drop_of_length_le (by simp; omega), List.length_take, Nat.min_eq_left (by omega)]
      have e3 : k + 1 + vs.length - k = vs.length + 1 := by omega
      rw [e3, List.drop_succ_cons, List.drop_drop]
      simp only [List.nil_append]
      congr 1; omega
    rw [e2]
    simp

section
variable {P : Program} {o : Oper} {a : Act} {w : World} {Φ : Value → World → Prop} {E : World} {s : SH} {L : List HP}

theorem run_slice1 {t e : TypeId} {v z : Value} {k : Nat} (ht : P.underlying t = some (.slice e)) (hs : ∀ w, (sizeOf e).run P w = .ok k w) (hz : ∀ w, (zeroValue e).run P w = .ok z w) (hzs : z.cells.size = k) (hv : v.cells.size = k) (h0 : 0 < k) (h24 : k ≤ 16777216) :
    (Instr.buildSlice t 1 #[(0, v)]).run P w = .ok (.slice (some ⟨w.heap.size, 0, none⟩) 1 1) (w.alloc (.cells v.cells e (0, 0))) := by
  have hf : Instr.fill (fun i => some (i * k, k)) (Array.map (fun i => z.cells[i % z.cells.size]!) (Array.range (1 * k))) [(0, v)] = some v.cells := by
    have h1 : ¬ (v.cells.size ≠ k ∨ 0 * k + v.cells.size > (Array.map (fun i => z.cells[i % z.cells.size]!) (Array.range (1 * k))).size) := by
      simp [hv]
    simp only [Instr.fill]
    have : (decide (v.cells.size ≠ k) || decide (0 * k + v.cells.size > (Array.map (fun i => z.cells[i % z.cells.size]!) (Array.range (1 * k))).size)) = false := by
      simp [hv]
    rw [if_neg (by simpa using h1)]
    congr 1
    have hfold := foldl_set v.cells.toList 0 (Array.map (fun i => z.cells[i % z.cells.size]!) (Array.range (1 * k))) (by simp [hv])
    rw [← Array.foldl_toList, Array.toList_zipIdx]
    simp only [Nat.zero_mul, Nat.zero_add]
    rw [hfold]
    apply Array.ext'
    simp [hv]
  have hk : ¬ (1 * k > 2 ^ 24) := by simp; omega
  have hk0 : ¬ (1 * k = 0) := by omega
  simp only [Instr.buildSlice, Sem.run_bind, run_underlying ht, hs, Result.andThen_ok, hk, if_false, hk0, hz, Sem.run_pure, hf, newRow, run_newObj_alloc, Array.toList]
/-- A slice literal of one element. -/
theorem G_slice1 {t e : TypeId} {x : Operand} (ho : o.op = .buildSlice t 1 #[(0, x)]) {v : Value} (hx : a.eval x = v) {z : Value} {k : Nat} (ht : P.underlying t = some (.slice e)) (hs : ∀ w, (sizeOf e).run P w = .ok k w)
    (hz : ∀ w, (zeroValue e).run P w = .ok z w) (hzs : z.cells.size = k) (hv : v.cells.size = k) (h0 : 0 < k) (h24 : k ≤ 16777216) (H : Holds E s L w)
    (h : ∀ b w', Holds E s (pt b (.cells v.cells e (0, 0)) :: L) w' → Φ (.slice (some ⟨b, 0, none⟩) 1 1) w') : OpG P o a w Φ := by
  unfold OpG execOp
  have hr := run_slice1 (P := P) (w := w) (v := v) ht hs hz hzs hv h0 h24
  simp only [ho, hx, List.map_toArray, List.map_cons, List.map_nil, Sem.run_bind, Sem.run_pure, Result.andThen_ok, hr, Oper.gives]
  exact h _ _ (H.alloc _)
/-- An owned slice out of a new block. -/
theorem Kin.Osl.mk {α : Type} {d : Kin α} {b cap : Nat} {cur : Array Value} {xs : List α} (hc : xs.length ≤ cap) (hm : cap ≤ maxLen) (hs : cur.size = cap * d.sz) (hb : xs.length * d.by_ ≤ 140737488355328)
    (H : Holds E s (pt b (.cells cur d.e (0, 0)) :: d.RowM xs (cur.toList.take (xs.length * d.sz)) :: L) w) : Holds E s (d.Osl (.slice (some ⟨b, 0, none⟩) xs.length cap) xs :: L) w :=
  H.shut.map fun _ k => .inr ⟨b, cap, cur, ⟨rfl, hc, hm, hs, hb⟩, k⟩
theorem G_slice0 {α : Type} {d : Kin α} {t : TypeId} (ho : o.op = .buildSlice t 0 #[]) (ht : P.underlying t = some (.slice d.e)) (hsz : ∀ w, (sizeOf d.e).run P w = .ok d.sz w) (H : Holds E s L w)
    (h : ∀ v w', Holds E s (d.Osl v [] :: L) w' → Φ v w') : OpG P o a w Φ := by
  unfold OpG execOp
  have hr : (Instr.buildSlice t 0 #[]).run P w = .ok (.slice (some ⟨w.heap.size, 0, none⟩) 0 0) (w.alloc (.cells #[] d.e (0, 0))) := by
    have he : (Array.map (fun x => (default : Value)) (Array.range 0)) = #[] := by simp
    simp [Instr.buildSlice, Sem.run_bind, run_underlying ht, hsz, Instr.fill, newRow, he]
  simp only [ho, List.map_toArray, List.map_nil, Sem.run_bind, Sem.run_pure, Result.andThen_ok, hr, Oper.gives]
  have := (Kin.RowM.nil (d := d) H).alloc (.cells #[] d.e (0, 0))
  exact h _ _ (Kin.Osl.mk (xs := []) (cap := 0) (cur := #[]) (by simp) (by simp) (by simp) (by simp) (by simpa using this))
/-- What lies in memory that stays, read as a row that is owned: elements of one cell without addresses. -/
theorem Holds.len {α : Type} {d : Kin α} {v : Value} {xs : List α} (H : Holds E s (d.Osl v xs :: L) w) : ∃ A cap, v = .slice A xs.length cap ∧ xs.length ≤ cap ∧ xs.length * d.by_ ≤ 140737488355328 ∧ (A = none → xs = []) := by
  rcases Holds.or_ H with H | H
  · obtain ⟨⟨e1, e2⟩, _⟩ := Holds.pure_ H
    subst e1; subst e2
    exact ⟨none, 0, rfl, Nat.le_refl _, by simp, fun _ => rfl⟩
  · obtain ⟨b, H⟩ := Holds.exists_ H
    obtain ⟨cap, H⟩ := Holds.exists_ H
    obtain ⟨cur, H⟩ := Holds.exists_ H
    obtain ⟨⟨e1, h1, h2, h3, h4⟩, _⟩ := Holds.pure_ H
    exact ⟨_, cap, e1, h1, h4, fun h => by cases h⟩

namespace Kin
/-- The kind whose elements lie in memory that stays, as it was at s0. -/
def sh {α : Type} (d : Kin α) (s0 : SH) : Kin α where
  sz := d.sz
  by_ := d.by_
  e := d.e
  K := fun _ x cs => d.K s0 x cs
  M := fun x cs h => d.K s0 x cs ∧ emp h
  szpos := d.szpos
  len := d.len
  one := d.one
  mono := fun _ h => h
  lenM := fun h => d.len h.1
  oneM := fun h => d.one h.1
  fr := fun {E s x cs L w} H => ⟨s, Sub.refl s, (Holds.pure_ (A := Go.Proofs.YtemdmpgekegfhaaDoor.emp) H).2.emp, (Holds.pure_ (A := Go.Proofs.YtemdmpgekegfhaaDoor.emp) H).1⟩
theorem Row.toM {α : Type} {d : Kin α} {s0 : SH} : ∀ {xs : List α} {cs : List Value} {h : SH}, d.Row s0 xs cs → emp h → (d.sh s0).RowM xs cs h
  | [], _, _, h, e => ⟨h, e⟩
  | x :: xs, _, h, ⟨c, r, e1, hc, hr⟩, e => ⟨c, r, e1, fun _ => none, h, ⟨hc, fun _ => rfl⟩, Row.toM hr e, fun _ => .inl rfl, by rw [uni_emp_left (fun _ => rfl)]⟩
theorem Row.own {α : Type} {d : Kin α} {s0 : SH} {xs : List α} {cs : List Value} (h : d.Row s0 xs cs) (H : Holds E s L w) : Holds E s ((d.sh s0).RowM xs cs :: L) w :=
  H.mkEmp.map fun _ e => Row.toM h e
theorem Row.unsh {α : Type} {d : Kin α} {s0 s : SH} (hs : Sub s0 s) : ∀ {xs : List α} {cs : List Value}, (d.sh s0).Row s xs cs → d.Row s xs cs
  | [], _, h => h
  | _ :: _, _, ⟨c, r, e1, hc, hr⟩ => ⟨c, r, e1, d.mono hs hc, Row.unsh hs hr⟩
theorem Sl.unsh {α : Type} {d : Kin α} {s0 s : SH} (hs : Sub s0 s) {v : Value} {xs : List α} (h : (d.sh s0).Sl s v xs) : d.Sl s v xs := by
  obtain ⟨A, cap, h1, h2, h3, h4⟩ := h
  exact ⟨A, cap, h1, h2, h3, fun hx => let ⟨b, off, cur, e, fr, k1, k2, k3⟩ := h4 hx; ⟨b, off, cur, e, fr, k1, k2, Row.unsh hs k3⟩⟩
/-- The cells of a slice that stays, from its beginning on. -/
theorem Sl.cells {α : Type} {d : Kin α} {v : Value} {xs : List α} (h : d.Sl s v xs) (hx : xs ≠ []) : ∃ ad cap cs, v = .slice (some ad) xs.length cap ∧ d.Row s xs cs ∧ Cells s ad cs := by
  obtain ⟨A, cap, h1, h2, h3, h4⟩ := h
  obtain ⟨b, off, cur, e, fr, k1, k2, k3⟩ := h4 hx
  refine ⟨⟨b, off, none⟩, cap, _, by rw [h1, k1], k3, rfl, cur, e, fr, k2, fun j u hu => ?_⟩
  rw [List.getElem?_take] at hu
  split at hu
  · rw [List.getElem?_drop] at hu; simpa using hu
  · cases hu
end Kin
/-- append of all elements of a slice that stays. -/
theorem G_appendS {α : Type} {d : Kin α} {t : TypeId} (hd : d.At P t) (x y : Operand) (ho : o.op = .call { callee := .builtin .append, args := #[x, y], argTypes := #[t, t] })
    {v u : Value} {xs ys : List α} (H : Holds E s ((d.sh s).Osl v xs :: L) w) (hs : d.Sl s u ys) (hx : a.eval x = v) (hy : a.eval y = u) (hby : (xs.length + ys.length) * d.by_ ≤ 140737488355328)
    (h : ∀ v' w', Holds E s ((d.sh s).Osl v' (xs ++ ys) :: L) w' → Φ v' w') : OpG P o a w Φ := by
  by_cases hne : ys = []
  · subst hne
    obtain ⟨A, cap, e1, h1, -⟩ := hs
    obtain ⟨B, capB, e2, h2, h3, h4⟩ := H.len
    subst e1; subst e2
    obtain ⟨i, z, hi, hz, hzs, hsz, hbytes⟩ := hd.hi
    have hr : (Builtin.append_ #[t, t] o.type #[.slice B xs.length capB, .slice A 0 cap]).run P w = .ok (.slice B xs.length capB) w := by
      cases A <;> cases B <;> simp [Builtin.append_, run_underlying hd.ht, sizeOf, typeInfo, hi, Builtin.lenOf, Builtin.firstCells, loadCells, loadCellsFrom, h2, storeCells]
    unfold OpG execOp
    simp only [ho, resolve, invoke, builtin, Sem.run_bind, Sem.run_pure, Result.andThen_ok, List.map_toArray, List.map_cons, List.map_nil, hx, hy, List.length_nil, hr, Oper.gives]
    exact h _ _ (by simpa using H)
  · obtain ⟨ad, cap, cs, e1, hr, hc⟩ := hs.cells hne
    subst e1
    exact G_append (d := d.sh s) ⟨hd.ht, hd.bypos, hd.hi⟩ x y ho (Kin.Row.own hr H).swap hx hy rfl (fun j u hu => hc.cell H j u hu) hby h
end
end Go.Proofs.YtemdmpgekegfhaaDoor
