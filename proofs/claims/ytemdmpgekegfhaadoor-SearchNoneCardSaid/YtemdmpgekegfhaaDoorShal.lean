/- Owned slices whose elements stay: opened to their block, and closed. -/
import Derived.Test.YtemdmpgekegfhaaDoorOwn
import Derived.Test.YtemdmpgekegfhaaDoorPlain
namespace Go.Proofs.YtemdmpgekegfhaaDoor
open Go.RowKit
set_option linter.all false
set_option maxRecDepth 10000

section
variable {E : World} {s s0 : SH} {L : List HP} {w : World} {α : Type} {d : Kin α}
theorem row_rowSh : ∀ {xs : List α} {cs : List Value} {h : SH}, d.Row s0 xs cs → emp h → (d.sh s0).RowM xs cs h
  | [], _, _, h1, h2 => ⟨h1, h2⟩
  | x :: xs, _, h, ⟨c, r, e, h1, h2⟩, h3 => ⟨c, r, e, h, h, ⟨h1, h3⟩, row_rowSh h2 h3, fun b => .inl (h3 b), by funext q; unfold uni; rw [h3 q]⟩
theorem rowSh_emp : ∀ {xs : List α} {cs : List Value} {h : SH}, (d.sh s0).RowM xs cs h → emp h
  | [], _, _, h => h.2
  | x :: xs, _, _, ⟨c, r, e, h1, h2, a, b, _, hu⟩ => fun q => by rw [hu]; unfold uni; rw [a.2 q]; exact rowSh_emp b q
theorem Kin.Osl.openS {v : Value} {xs : List α} (H : Holds E s ((d.sh s0).Osl v xs :: L) w) (hx : xs ≠ []) :
    ∃ b cap, ∃ cur : Array Value, (v = .slice (some ⟨b, 0, none⟩) xs.length cap ∧ xs.length ≤ cap ∧ cap ≤ maxLen ∧ cur.size = cap * d.sz ∧ xs.length * d.by_ ≤ 140737488355328) ∧ d.Row s0 xs (cur.toList.take (xs.length * d.sz)) ∧ Holds E s (pt b (.cells cur d.e (0, 0)) :: L) w := by
  rcases Holds.or_ H with H | H
  · obtain ⟨⟨e1, e2⟩, _⟩ := Holds.pure_ H
    exact absurd e2 hx
  · obtain ⟨b, H⟩ := Holds.exists_ H
    obtain ⟨cap, H⟩ := Holds.exists_ H
    obtain ⟨cur, H⟩ := Holds.exists_ H
    obtain ⟨hp, H1⟩ := Holds.pure_ H
    have H2 := H1.open_.swap
    have hrow : d.Row s0 xs (cur.toList.take (xs.length * d.sz)) := by
      obtain ⟨h, ⟨_, _, k, _⟩, _⟩ := H2.ex
      exact rowSh_row k
    exact ⟨b, cap, cur, hp, hrow, (H2.map fun h k => rowSh_emp k).emp⟩
theorem Kin.Osl.shutS {xs : List α} {b cap : Nat} {cur : Array Value} (H : Holds E s (pt b (.cells cur d.e (0, 0)) :: L) w) (h1 : xs.length ≤ cap) (h2 : cap ≤ maxLen) (h3 : cur.size = cap * d.sz) (h4 : xs.length * d.by_ ≤ 140737488355328)
    (hr : d.Row s0 xs (cur.toList.take (xs.length * d.sz))) : Holds E s ((d.sh s0).Osl (.slice (some ⟨b, 0, none⟩) xs.length cap) xs :: L) w := by
  have H2 := ((H.mkEmp.map fun h k => row_rowSh (d := d) (s0 := s0) hr k).swap).shut
  exact H2.map fun h k => .inr ⟨b, cap, cur, ⟨rfl, h1, h2, h3, h4⟩, k⟩
/-- One element's cells are written anew. -/
theorem row_set : ∀ {xs : List α} {cs : List Value} (k : Nat) (hk : k < xs.length) {x' : α} {c' : List Value}, d.Row s0 xs cs → d.K s0 x' c' → d.Row s0 (xs.set k x') (cs.take (k * d.sz) ++ c' ++ cs.drop ((k + 1) * d.sz))
  | [], _, _, hk, _, _, _, _ => by simp at hk
  | x :: xs, _, 0, hk, x', c', ⟨c, r, rfl, h1, h2⟩, hK => by
    have hc := d.len h1
    refine ⟨c', r, ?_, hK, h2⟩
    rw [Nat.zero_mul, List.take_zero, List.nil_append, Nat.zero_add, Nat.one_mul, ← hc, List.drop_left]
  | x :: xs, _, k + 1, hk, x', c', ⟨c, r, rfl, h1, h2⟩, hK => by
    have hc := d.len h1
    have ih := row_set k (by simpa using hk) h2 hK
    refine ⟨c, _, ?_, h1, ih⟩
    have ek : (k + 1) * d.sz = c.length + k * d.sz := by rw [hc, Nat.succ_mul]; omega
    have ek2 : (k + 1 + 1) * d.sz = c.length + (k + 1) * d.sz := by rw [hc, Nat.succ_mul (k + 1)]; omega
    have e1 : (c ++ r).take ((k + 1) * d.sz) = c ++ r.take (k * d.sz) := by rw [ek, List.take_length_add_append]
    have e2 : (c ++ r).drop ((k + 1 + 1) * d.sz) = r.drop ((k + 1) * d.sz) := by rw [ek2, List.drop_length_add_append]
    rw [e1, e2]; simp only [List.append_assoc]
theorem row_put {xs : List α} {cs c : List Value} (k : Nat) (hk : k < xs.length) {x' : α} {f : Nat} {u : Value} (hrow : d.Row s0 xs cs) (hg : ∀ j u, c[j]? = some u → cs[k * d.sz + j]? = some u) (hcl : c.length = d.sz) (hf : f < d.sz)
    (hK : d.K s0 x' (c.set f u)) : d.Row s0 (xs.set k x') (cs.set (k * d.sz + f) u) := by
  have h := row_set k hk hrow hK
  have hl : (k + 1) * d.sz ≤ cs.length := by rw [hrow.len]; exact Nat.mul_le_mul_right _ hk
  have hs : (k + 1) * d.sz = k * d.sz + d.sz := Nat.succ_mul _ _
  have e : cs.set (k * d.sz + f) u = cs.take (k * d.sz) ++ c.set f u ++ cs.drop ((k + 1) * d.sz) := by
    have ht : (cs.take (k * d.sz)).length = k * d.sz := by rw [List.length_take]; omega
    apply List.ext_getElem?
    intro i
    rw [List.append_assoc]
    by_cases h1 : i < k * d.sz
    · rw [List.getElem?_append_left (by omega), List.getElem?_take, if_pos h1, List.getElem?_set_ne (by omega)]
    · rw [List.getElem?_append_right (by omega), ht]
      obtain ⟨j, rfl⟩ : ∃ j, i = k * d.sz + j := ⟨i - k * d.sz, by omega⟩
      rw [show k * d.sz + j - k * d.sz = j by omega]
      by_cases h2 : j < d.sz
      · rw [List.getElem?_append_left (by rw [List.length_set]; omega)]
        by_cases h3 : j = f
        · subst h3
          rw [List.getElem?_set_self (by omega), List.getElem?_set_self (by omega)]
        · rw [List.getElem?_set_ne (by omega), List.getElem?_set_ne (by omega), List.getElem?_eq_getElem (l := c) (by omega)]
          exact hg j _ (List.getElem?_eq_getElem _)
      · rw [List.getElem?_append_right (by rw [List.length_set]; omega), List.length_set, hcl, List.getElem?_drop, List.getElem?_set_ne (by omega)]
        congr 1; omega
  rw [e]; exact h
end
@[go_sem] theorem eqnil_Op (w : World) (a : Option Addr) (n c : Nat) : (binOp .eql 71 (.slice a n c) (.slice none 0 0)).run Tryd.prog w = .ok (.bool a.isNone) w := Lib.run_eql_slice_nil w _ _ a n c 0 0 Tryd.underlying71
set_option maxHeartbeats 400000 in
theorem cloneOp_spec {E : World} {s : SH} {L : List HP} {w : World} {v : Value} {xs : List Op'} (H : Holds E s L w) (hv : kOp.Sl s v xs) :
    Calls Tryd.prog 122 #[v] w fun e w' => ∃ v', e = .returned v' ∧ Holds E s ((kOp.sh s).Osl v' xs :: L) w' := by
  have hv0 := hv
  obtain ⟨A, cap, rfl, h1, h2, h3⟩ := hv
  cases A with
  | none =>
    have : xs = [] := Classical.byContradiction fun hx => by obtain ⟨b, off, cur, e, fr, k, _⟩ := h3 hx; cases k
    subst this
    go_enter Tryd.func122, Tryd.ntmps122
    go_wp2
    go_ret
    exact ⟨_, rfl, Kin.Osl.nil H⟩
  | some p =>
    go_enter Tryd.func122, Tryd.ntmps122
    go_wp2_with (first | ((with_reducible refine OpG.list rfl ?_); refine G_slice0 (d := kOp.sh s) rfl Tryd.underlying71 Tryd.sizeOf108 H ?_; intro v1 w1 H1) | ((with_reducible refine OpG.list rfl ?_); refine G_appendS kOp_at _ _ rfl H1 hv0 rfl rfl (by simpa using h2) ?_; intro v2 w2 H2; simp only [List.nil_append] at H2))
    go_ret
    exact ⟨_, rfl, H2⟩
end Go.Proofs.YtemdmpgekegfhaaDoor
