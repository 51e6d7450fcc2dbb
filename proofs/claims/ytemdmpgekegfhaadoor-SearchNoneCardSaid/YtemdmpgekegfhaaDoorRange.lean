/- Going over a map that is owned: the order is whatever it is. -/
import Derived.Test.YtemdmpgekegfhaaDoorMap
import Derived.Maps.RangeRun
namespace Go.Proofs.YtemdmpgekegfhaaDoor
open Go.RowKit
open Go.ChangeMaps (setBlock)
set_option linter.all false
set_option maxRecDepth 10000

section
variable {P : Program} {o : Oper} {a : Act} {w : World} {Φ : Value → World → Prop} {E : World} {s : SH} {L : List HP}
theorem Holds.read {b : Nat} {ob : Obj} (i : Nat) (H : Holds E s L w) (hi : L[i]? = some (pt b ob)) : w.heap[b]? = some ob := (H.front i hi).at_pt
theorem G_range (i : Nat) (t : TypeId) (x : Operand) (ho : o.op = .range t x) {kt et : TypeId} (ht : P.underlying t = some (.map kt et)) {r : Nat} {es : Array MapEntry} {c : Nat}
    (hx : a.eval x = .map (some r)) (H : Holds E s L w) (hi : L[i]? = some (pt r (.map es c)))
    (h : ∀ it w', Holds E s (pt it (.mapIter (some r) c #[] c) :: L) w' → Φ (.pointer (some ⟨it, 0, none⟩)) w') : OpG P o a w Φ := by
  have hb := H.read i hi
  unfold OpG execOp
  have hr : (Instr.range t (.map (some r))).run P w = .ok (.pointer (some ⟨w.heap.size, 0, none⟩)) (w.alloc (.mapIter (some r) c #[] c)) := by
    simp [Instr.range, run_underlying ht, MapKept.run_getObj_map hb, Result.andThen]
  simp only [ho, hx, Sem.run_bind, Sem.run_pure, Result.andThen_ok, hr, Oper.gives]
  exact h _ _ (H.alloc _)
theorem G_next (i j : Nat) (x : Operand) (ho : o.op = .next x false) {r it : Nat} {es : Array MapEntry} {c : Nat} {seen : Array Nat}
    (hx : a.eval x = .pointer (some ⟨it, 0, none⟩)) (H : Holds E s L w) (hi : L[i]? = some (pt it (.mapIter (some r) c seen c))) (hj : L[j]? = some (pt r (.map es c))) (hw : wfE es c)
    (h0 : (∀ e ∈ es.toList, e.born ∈ seen.toList) → Φ (.tuple #[.bool false]) w)
    (h : ∀ e w', e ∈ es.toList → e.born ∉ seen.toList → Holds E s (L.set i (pt it (.mapIter (some r) c (seen.push e.born) c))) w' → Φ (.tuple #[.bool true, e.key, e.val]) w') : OpG P o a w Φ := by
  have hb := H.read j hj
  have hit := H.read i hi
  unfold OpG execOp
  rcases run_next_at (P := P) w o.type it r c c seen es c hit hb hw.2 (Nat.le_refl _) with ⟨h1, h2⟩ | ⟨e, he, w1, hw1, h2⟩
  · simp only [ho, hx, Sem.run_bind, Sem.run_pure, Result.andThen_ok, h2, Oper.gives]
    refine h0 fun e he => ?_
    have h3 : leftOf es seen = #[] := Array.eq_empty_of_size_eq_zero h1
    unfold leftOf at h3
    rw [Array.filter_eq_empty_iff] at h3
    have := h3 e (by simpa using he)
    simpa using this
  · simp only [ho, hx, Sem.run_bind, Sem.run_pure, Result.andThen_ok, h2, Oper.gives]
    unfold leftOf at he
    have he2 : e ∈ es.toList ∧ e.born ∉ seen.toList := by simpa using he
    have H1 : Holds E s L w1 := by
      rcases hw1 with e1 | e1
      · rw [e1]; exact H
      · rw [e1]; exact H.drew
    refine h e _ he2.1 he2.2 (Holds.back i hi ?_)
    have H2 := H1.front i hi
    exact H2.upd (w' := setBlock w1 it (.mapIter (some r) c (seen.push e.born) c)) rfl rfl rfl (fun m _ hm => by simp only [setBlock]; rw [Array.getElem?_setIfInBounds_ne (fun e => hm e.symm)]) (by
      have := H2.at_pt
      have hlt := (Array.getElem?_eq_some_iff.1 this).1
      simp [setBlock, hlt])
def nx : Bool → Value → Value → Value
  | true, k, v => .tuple #[.bool true, k, v]
  | false, _, _ => .tuple #[.bool false]
theorem G_nextB (i j : Nat) (x : Operand) (ho : o.op = .next x false) {r it : Nat} {es : Array MapEntry} {c : Nat} {seen : Array Nat}
    (hx : a.eval x = .pointer (some ⟨it, 0, none⟩)) (H : Holds E s L w) (hi : L[i]? = some (pt it (.mapIter (some r) c seen c))) (hj : L[j]? = some (pt r (.map es c))) (hw : wfE es c)
    (h : ∀ (b : Bool) (e : MapEntry) w', (b = true → e ∈ es.toList ∧ e.born ∉ seen.toList) → (b = false → ∀ e ∈ es.toList, e.born ∈ seen.toList) → Holds E s (L.set i (pt it (.mapIter (some r) c (if b then seen.push e.born else seen) c))) w' → Φ (nx b e.key e.val) w') : OpG P o a w Φ := by
  refine G_next i j x ho hx H hi hj hw (fun h0 => ?_) (fun e w' h1 h2 H => ?_)
  · refine h false ⟨undef, undef, 0⟩ w (fun e => by cases e) (fun _ => h0) ?_
    rw [show (if false = true then seen.push 0 else seen) = seen from rfl]
    exact Holds.back i hi (H.front i hi)
  · exact h true e w' (fun _ => ⟨h1, h2⟩) (fun e => by cases e) H
theorem G_extract0 (x : Operand) (ho : o.op = .extract x 0) {b : Bool} {k v : Value} (hx : a.eval x = nx b k v) (h : Φ (.bool b) w) : OpG P o a w Φ := by
  unfold OpG execOp
  cases b <;> simp only [ho, hx, nx] <;> exact h
def lenS : Value → Nat | .slice _ n _ => n | _ => 0
theorem nodup_le : ∀ {a b : List Nat}, a.Nodup → (∀ x ∈ a, x ∈ b) → a.length ≤ b.length
  | [], _, _, _ => Nat.zero_le _
  | x :: a, b, h, hs => by
    obtain ⟨h1, h2⟩ := List.nodup_cons.1 h
    have hx := hs x (List.mem_cons_self ..)
    have := nodup_le (a := a) (b := b.erase x) h2 (fun y hy => (List.mem_erase_of_ne (fun e => h1 (by rw [← e]; exact hy))).2 (hs y (List.mem_cons_of_mem _ hy)))
    rw [List.length_erase_of_mem hx] at this
    have := List.length_pos_of_mem hx
    simp only [List.length_cons]; omega
theorem G_entry (i j : Nat) (x : Operand) (ho : o.op = .entry x) {r it : Nat} {es : Array MapEntry} {c : Nat} {seen : Array Nat} {e : MapEntry}
    (hx : a.eval x = .pointer (some ⟨it, 0, none⟩)) (H : Holds E s L w) (hi : L[i]? = some (pt it (.mapIter (some r) c (seen.push e.born) c))) (hj : L[j]? = some (pt r (.map es c))) (hw : wfE es c) (he : e ∈ es.toList)
    (h : Φ (.tuple #[e.key, e.val]) w) : OpG P o a w Φ := by
  have hb := H.read j hj
  have hit := H.read i hi
  unfold OpG execOp
  simp only [ho, hx, Sem.run_bind, Sem.run_pure, Result.andThen_ok, run_entry_at w it r c seen es c e hit hb he hw.1, Oper.gives]
  exact h
/-- What was met in going over a whole map is what the map has, in some order. -/
theorem met_perm {es : Array MapEntry} {c : Nat} (hw : wfE es c) {done : List MapEntry} (hd : ∀ e ∈ done, e ∈ es.toList) (hn : (done.map (·.born)).Nodup) (ha : ∀ e ∈ es.toList, e.born ∈ done.map (·.born)) : done.Perm es.toList := by
  have hdn : done.Nodup := List.Pairwise.of_map (·.born) (fun a b h e => h (by rw [e])) hn
  have hen : es.toList.Nodup := List.Pairwise.of_map (·.born) (fun a b h e => h (by rw [e])) hw.1
  have hinj : ∀ x ∈ es.toList, ∀ y ∈ es.toList, x.born = y.born → x = y := by
    have := hw.1
    generalize es.toList = l at this ⊢
    induction l with
    | nil => intro x hx; cases hx
    | cons p l ih =>
      rw [List.map_cons, List.nodup_cons] at this
      intro x hx y hy e
      rcases List.mem_cons.1 hx with rfl | hx2 <;> rcases List.mem_cons.1 hy with rfl | hy2
      · rfl
      · exact absurd (List.mem_map.2 ⟨y, hy2, e.symm⟩) this.1
      · exact absurd (List.mem_map.2 ⟨x, hx2, e⟩) this.1
      · exact ih this.2 x hx2 y hy2 e
  refine (List.perm_ext_iff_of_nodup hdn hen).2 fun e => ⟨hd e, fun he => ?_⟩
  obtain ⟨d, hd1, hd2⟩ := List.mem_map.1 (ha e he)
  rw [← hinj d (hd d hd1) e he hd2]; exact hd1
end
end Go.Proofs.YtemdmpgekegfhaaDoor
