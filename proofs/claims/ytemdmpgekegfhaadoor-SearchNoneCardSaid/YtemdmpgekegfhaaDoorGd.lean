/- Guards that are not decided: what an operation yields that runs only under a condition. -/
import Derived.Test.YtemdmpgekegfhaaDoorObO
import Derived.Test.YtemdmpgekegfhaaDoorData
import Derived.Lib.Hide
namespace Go.Proofs.YtemdmpgekegfhaaDoor
open Go.RowKit
set_option linter.all false
set_option maxRecDepth 10000

/-- V, where c; else nothing. -/
def vg (c : Bool) (V : Value) : Value := match c with | true => V | false => undef
theorem vg_true (V : Value) : vg true V = V := rfl
theorem vg_false (V : Value) : vg false V = undef := rfl
theorem vg_of {c : Bool} (h : c = true) (V : Value) : vg c V = V := by subst h; rfl
theorem vg_and {c d : Bool} (h : c = true) (V : Value) : vg (c && d) V = vg d V := by subst h; rfl
theorem and_l {a b : Bool} (h : (a && b) = true) : a = true := by cases a <;> simp_all
theorem and_r {a b : Bool} (h : (a && b) = true) : b = true := by cases b <;> simp_all
theorem yield_b {ops : Array Oper} {tmps : Array Value} {g t : Nat} {c : Bool} (ht : (ops[g]?).bind (·.dst) = some t) (hv : tmps[t]? = some (.bool c)) : yielded ops tmps g = some c := by
  unfold yielded; rw [ht]; simp only [Option.bind_some]; rw [hv]
theorem wanted_t {o : Oper} {ops : Array Oper} {tmps : Array Value} {g t : Nat} {c : Bool} (hg : o.guard = some (g, true)) (ht : (ops[g]?).bind (·.dst) = some t) (hv : tmps[t]? = some (.bool c)) : Region.wanted o (yielded ops tmps) = c := by
  unfold Region.wanted; rw [hg]; simp only []; rw [yield_b ht hv]; cases c <;> rfl
theorem wanted_f {o : Oper} {ops : Array Oper} {tmps : Array Value} {g t : Nat} {c : Bool} (hg : o.guard = some (g, false)) (ht : (ops[g]?).bind (·.dst) = some t) (hv : tmps[t]? = some (.bool c)) : Region.wanted o (yielded ops tmps) = !c := by
  unfold Region.wanted; rw [hg]; simp only []; rw [yield_b ht hv]; cases c <;> rfl
theorem wanted_vt {o : Oper} {ops : Array Oper} {tmps : Array Value} {g t : Nat} {d c : Bool} (hg : o.guard = some (g, true)) (ht : (ops[g]?).bind (·.dst) = some t) (hv : tmps[t]? = some (vg d (.bool c))) : Region.wanted o (yielded ops tmps) = (d && c) := by
  cases d
  · unfold Region.wanted; rw [hg]; simp only []; unfold yielded; rw [ht]; simp only [Option.bind_some]; rw [hv]; rfl
  · exact wanted_t hg ht hv
theorem wanted_vf {o : Oper} {ops : Array Oper} {tmps : Array Value} {g t : Nat} {d c : Bool} (hg : o.guard = some (g, false)) (ht : (ops[g]?).bind (·.dst) = some t) (hv : tmps[t]? = some (vg d (.bool c))) : Region.wanted o (yielded ops tmps) = (d && !c) := by
  cases d
  · unfold Region.wanted; rw [hg]; simp only []; unfold yielded; rw [ht]; simp only [Option.bind_some]; rw [hv]; rfl
  · exact wanted_f hg ht hv

theorem dh_get_at {o : Oper} {s : SH} {x : Nat → Value} : ∀ {G : List GV} {i : Nat}, dh o s x G i → ∀ (j : Nat) {g : GV}, G[j]? = some g → dep o (i + j) = true → g s (x (i + j))
  | [], _, _, _, _, h, _ => by simp at h
  | g0 :: r, i, h, 0, g, hg, hd => by
    simp only [List.getElem?_cons_zero, Option.some.injEq] at hg
    subst hg
    unfold dh at h
    rw [if_pos (show dep o i = true from hd)] at h
    exact h.1
  | g0 :: r, i, h, j + 1, g, hg, hd => by
    unfold dh at h
    have hr : dh o s x r (i + 1) := by
      split at h
      · exact h.2
      · exact h
    have e : i + (j + 1) = i + 1 + j := by omega
    rw [e] at hd ⊢
    exact dh_get_at hr j (by simpa using hg) hd
theorem dh_get {o : Oper} {s : SH} {x : Nat → Value} {G : List GV} (h : dh o s x G 0) (j : Nat) {g : GV} (hg : G[j]? = some g) (hd : dep o j = true) : g s (x j) := by
  have := dh_get_at h j hg (by rw [Nat.zero_add]; exact hd)
  rwa [Nat.zero_add] at this
theorem gh_get_at {s : SH} {x : Nat → Value} : ∀ {G : List GV} {i : Nat}, gh s x G i → ∀ (j : Nat) {g : GV}, G[j]? = some g → g s (x (i + j))
  | [], _, _, _, _, h => by simp at h
  | g0 :: r, i, h, 0, g, hg => by
    simp only [List.getElem?_cons_zero, Option.some.injEq] at hg
    subst hg
    exact h.1
  | g0 :: r, i, h, j + 1, g, hg => by
    have e : i + (j + 1) = i + 1 + j := by omega
    rw [e]
    exact gh_get_at h.2 j (by simpa using hg)
theorem gh_get {s : SH} {x : Nat → Value} {G : List GV} (h : gh s x G 0) (j : Nat) {g : GV} (hg : G[j]? = some g) : g s (x j) := by
  have := gh_get_at h j hg
  rwa [Nat.zero_add] at this

section
variable {P : Program} {ops : Array Oper} {A : (Nat → Value) → Act} {E : World} {s : SH} {L : List HP} {cn : List Nat} {ini : Nat → List HP} {Fin : List GV → List XV → Prop} {o : Oper} {r : List Oper} {i : Nat} {G : List GV} {Xs : List XV}
/-- An operation under a condition: it yields V where c. -/
theorem ObO.valg {V : Value} {c : Bool} (hi : ∀ x, inX cn Xs i x 0 ++ ini i = []) (hw : ∀ (s' : SH) (x : Nat → Value), dh o s' x G 0 → Region.wanted o (yielded ops (A x).tmps) = c)
    (h1 : c = true → ∀ (s' : SH) (w' : World) (x : Nat → Value) (Φ : Value → World → Prop) (R : List HP), Sub s s' → Holds E s' (L ++ R) w' → dh o s' x G 0 →
      (∀ s'' w'', Sub s' s'' → Holds E s'' (L ++ R) w'' → Φ V w'') → OpG P o (A x) w' Φ) (h2 : ObO P ops A E s L cn ini Fin r (i + 1) (G ++ [isV (vg c V)]) (Xs ++ [noX])) : ObO P ops A E s L cn ini Fin (o :: r) i G Xs :=
  ⟨isV (vg c V), noX, fun _ _ _ _ h => h, fun s' w' x Φ R hs H hG hΦ => by
    rw [← List.append_assoc, hi] at H
    unfold Want
    cases hc : c with
    | true => rw [if_pos (by rw [hw s' x hG, hc])]; exact h1 hc s' w' x Φ R hs H hG (fun s'' w'' k1 k2 => hΦ V s'' w'' k1 k2 (by rw [hc]; rfl))
    | false => rw [if_neg (by rw [hw s' x hG, hc]; simp)]; exact hΦ undef s' w' (Sub.refl _) H (by rw [hc]; rfl), h2⟩
end
section
variable {P : Program} {o : Oper} {a : Act} {w : World} {Φ : Value → World → Prop}
theorem G_pick (x y z : Operand) (ho : o.op = .pick x y z) {c : Bool} (hx : a.eval x = .bool c) (h : Φ (if c = true then a.eval y else a.eval z) w) : OpG P o a w Φ := by
  unfold OpG execOp
  simp only [ho, hx, asBool, Sem.run_bind, Sem.run_pure, Result.andThen_ok, Oper.gives]
  exact h
/-- c && d. -/
theorem G_and (x y z : Operand) (ho : o.op = .pick x y z) {c d : Bool} (hx : a.eval x = .bool c) (hy : a.eval y = vg c (.bool d)) (hz : a.eval z = .bool false) (h : Φ (.bool (c && d)) w) : OpG P o a w Φ := by
  refine G_pick x y z ho hx ?_
  rw [hy, hz]; cases c <;> exact h
/-- c || d. -/
theorem G_or (x y z : Operand) (ho : o.op = .pick x y z) {c d : Bool} (hx : a.eval x = .bool c) (hy : a.eval y = .bool true) (hz : a.eval z = vg (!c) (.bool d)) (h : Φ (.bool (c || d)) w) : OpG P o a w Φ := by
  refine G_pick x y z ho hx ?_
  rw [hy, hz]; cases c <;> exact h
end
attribute [irreducible] vg
end Go.Proofs.YtemdmpgekegfhaaDoor
