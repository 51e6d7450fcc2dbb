/- The same, one operation behind the other. -/
import Derived.Test.YtemdmpgekegfhaaDoorDraw
import Derived.KernelRfl
namespace Go.Proofs.YtemdmpgekegfhaaDoor
open Go.RowKit
set_option linter.all false
set_option maxRecDepth 10000

abbrev GV := SH → Value → Prop
def dh (o : Oper) (s : SH) (x : Nat → Value) : List GV → Nat → Prop
  | [], _ => True
  | g :: r, j => if dep o j = true then g s (x j) ∧ dh o s x r (j + 1) else dh o s x r (j + 1)
def gh (s : SH) (x : Nat → Value) : List GV → Nat → Prop
  | [], _ => True
  | g :: r, j => g s (x j) ∧ gh s x r (j + 1)
def isV (V : Value) : GV := fun _ v => v = V
/-- What is asked of one operation: it yields, if its guard lets it. -/
def Want (P : Program) (ops : Array Oper) (o : Oper) (a : Act) (w : World) (Φ : Value → World → Prop) : Prop :=
  if Region.wanted o (yielded ops a.tmps) then OpG P o a w Φ else Φ undef w
theorem wantG {P : Program} {ops : Array Oper} {o : Oper} {a : Act} {w : World} {Φ : Value → World → Prop} (hg : o.guard = none) (h : OpG P o a w Φ) : Want P ops o a w Φ := by
  unfold Want
  rw [if_pos (by simp [Region.wanted, hg])]; exact h
theorem wantY {P : Program} {ops : Array Oper} {o : Oper} {a : Act} {w : World} {Φ : Value → World → Prop} (hg : Region.wanted o (yielded ops a.tmps) = true) (h : OpG P o a w Φ) : Want P ops o a w Φ := by
  unfold Want
  rw [if_pos hg]; exact h
theorem wantN {P : Program} {ops : Array Oper} {o : Oper} {a : Act} {w : World} {Φ : Value → World → Prop} (hg : Region.wanted o (yielded ops a.tmps) = false) (h : Φ undef w) : Want P ops o a w Φ := by
  unfold Want
  rw [if_neg (by rw [hg]; simp)]; exact h
def Ob (P : Program) (ops : Array Oper) (A : (Nat → Value) → Act) (E : World) (s : SH) (L : List HP) (Fin : List GV → Prop) : List Oper → List GV → Prop
  | [], G => Fin G
  | o :: r, G => ∃ g : GV, (∀ s s' v, Sub s s' → g s v → g s' v) ∧
      (∀ (s' : SH) (w' : World) (x : Nat → Value) (Φ : Value → World → Prop), Sub s s' → Holds E s' L w' → dh o s' x G 0 →
        (∀ v s'' w'', Sub s' s'' → Holds E s'' L w'' → g s'' v → Φ v w'') →
        Want P ops o (A x) w' Φ) ∧ Ob P ops A E s L Fin r (G ++ [g])
section
variable {P : Program} {ops : Array Oper} {A : (Nat → Value) → Act} {E : World} {s : SH} {L : List HP} {Fin : List GV → Prop} {o : Oper} {r : List Oper} {G : List GV}
/-- An operation that leaves the world alone and yields V. -/
theorem Ob.val {V : Value} (h1 : ∀ (s' : SH) (w' : World) (x : Nat → Value) (Φ : Value → World → Prop), Sub s s' → Holds E s' L w' → dh o s' x G 0 → Φ V w' →
      Want P ops o (A x) w' Φ) (h2 : Ob P ops A E s L Fin r (G ++ [isV V])) : Ob P ops A E s L Fin (o :: r) G :=
  ⟨isV V, fun _ _ _ _ h => h, fun s' w' x Φ hs H hG hΦ => h1 s' w' x Φ hs H hG (hΦ V s' w' (Sub.refl _) H rfl), h2⟩
/-- An operation that yields V and may add to the memory that stays. -/
theorem Ob.valw {V : Value} (h1 : ∀ (s' : SH) (w' : World) (x : Nat → Value) (Φ : Value → World → Prop), Sub s s' → Holds E s' L w' → dh o s' x G 0 → (∀ s'' w'', Sub s' s'' → Holds E s'' L w'' → Φ V w'') →
      Want P ops o (A x) w' Φ) (h2 : Ob P ops A E s L Fin r (G ++ [isV V])) : Ob P ops A E s L Fin (o :: r) G :=
  ⟨isV V, fun _ _ _ _ h => h, fun s' w' x Φ hs H hG hΦ => h1 s' w' x Φ hs H hG (fun s'' w'' h1 h2 => hΦ V s'' w'' h1 h2 rfl), h2⟩
/-- An operation of whose value g is known. -/
theorem Ob.rel (g : GV) (hm : ∀ s s' v, Sub s s' → g s v → g s' v) (h1 : ∀ (s' : SH) (w' : World) (x : Nat → Value) (Φ : Value → World → Prop), Sub s s' → Holds E s' L w' → dh o s' x G 0 →
      (∀ v s'' w'', Sub s' s'' → Holds E s'' L w'' → g s'' v → Φ v w'') →
      Want P ops o (A x) w' Φ) (h2 : Ob P ops A E s L Fin r (G ++ [g])) : Ob P ops A E s L Fin (o :: r) G :=
  ⟨g, hm, h1, h2⟩
end
theorem dh_of {o : Oper} {s : SH} {x : Nat → Value} {F : Nat → GV} : ∀ (G : List GV) (j : Nat), (∀ i, i < G.length → G[i]? = some (F (j + i))) → (∀ i, i < G.length → dep o (j + i) = true → F (j + i) s (x (j + i))) → dh o s x G j
  | [], _, _, _ => trivial
  | g :: r, j, hG, h => by
    have e : g = F j := by have := hG 0 (by simp); simpa using this
    have hr : dh o s x r (j + 1) := dh_of r (j + 1) (fun i hi => by have := hG (i + 1) (by simp; omega); simp only [List.getElem?_cons_succ] at this; rw [this]; congr 2; omega)
      (fun i hi hd => by have := h (i + 1) (by simp; omega) (by rw [← hd]; congr 1; omega); have e2 : j + (i + 1) = j + 1 + i := by omega
                         rwa [e2] at this)
    unfold dh
    split
    · rename_i hd
      exact ⟨by rw [e]; exact h 0 (by simp) hd, hr⟩
    · exact hr
theorem gh_of {s : SH} {x : Nat → Value} {F : Nat → GV} : ∀ (G : List GV) (j : Nat), (∀ i, i < G.length → G[i]? = some (F (j + i))) → (∀ i, i < G.length → F (j + i) s (x (j + i))) → gh s x G j
  | [], _, _, _ => trivial
  | g :: r, j, hG, h => by
    have e : g = F j := by have := hG 0 (by simp); simpa using this
    refine ⟨by rw [e]; exact h 0 (by simp), gh_of r (j + 1) (fun i hi => by have := hG (i + 1) (by simp; omega); simp only [List.getElem?_cons_succ] at this; rw [this]; congr 2; omega)
      (fun i hi => by have := h (i + 1) (by simp; omega); have e2 : j + (i + 1) = j + 1 + i := by omega
                      rwa [e2] at this)⟩
/-- From the chain of single looks to all of them. -/
theorem ob_all {P : Program} {ops : Array Oper} {A : (Nat → Value) → Act} {E : World} {s : SH} {L : List HP} {Fin : List GV → Prop} : ∀ (r : List Oper) (G : List GV), Ob P ops A E s L Fin r G →
    ∃ F : List GV, F.length = r.length ∧ Fin (G ++ F) ∧ ∀ i o g, r[i]? = some o → F[i]? = some g → (∀ s s' v, Sub s s' → g s v → g s' v) ∧
      (∀ (s' : SH) (w' : World) (x : Nat → Value) (Φ : Value → World → Prop), Sub s s' → Holds E s' L w' → dh o s' x (G ++ F.take i) 0 →
        (∀ v s'' w'', Sub s' s'' → Holds E s'' L w'' → g s'' v → Φ v w'') →
        Want P ops o (A x) w' Φ)
  | [], G, h => ⟨[], rfl, by rw [List.append_nil]; exact h, fun i o g h _ => by simp at h⟩
  | o :: r, G, ⟨g, hm, h1, h2⟩ => by
    obtain ⟨F, hl, hF, h⟩ := ob_all r (G ++ [g]) h2
    refine ⟨g :: F, by simp [hl], by rw [List.append_assoc] at hF; exact hF, fun i o' g' ho hg => ?_⟩
    cases i with
    | zero =>
      simp only [List.getElem?_cons_zero, Option.some.injEq] at ho hg
      subst ho; subst hg
      exact ⟨hm, by simpa using h1⟩
    | succ i =>
      have := h i o' g' (by simpa using ho) (by simpa using hg)
      simpa [List.append_assoc] using this
theorem wp_draw_ob {P : Program} {id k sz : Nat} {l pre tail : List Oper} {A : (Nat → Value) → Act} {Q : Exit → Act → World → Prop} {a0 : Act} {w : World} {E : World} {s : SH} {L : List HP}
    (hm : P.follows .mixedOrders = true) (hk : k ≤ l.length) (hsz : a0.tmps.size = sz) (hpre : preOk l k sz = true) (htail : tailOk l k = true) (H : Holds E s L w)
    (e1 : l.take k = pre) (e2 : l.drop k = tail) (eA : ∀ x, ov a0 pre 0 x = A x)
    (hob : Ob P l.toArray A E s L (fun G => ∀ (s' : SH) (w' : World) (x : Nat → Value), Sub s s' → Holds E s' L w' → gh s' x G 0 → wpList P l.toArray Q tail (A x) w') pre []) :
    (Code.region id l.toArray true).wp P Q a0 w := by
  obtain ⟨F, hl, hF, h⟩ := ob_all pre [] hob
  rw [List.nil_append] at hF
  have hlen : F.length = k := by rw [hl, ← e1, List.length_take, Nat.min_eq_left hk]
  have hget : ∀ i, i < k → F[i]? = some (F.getD i (fun _ _ => True)) := fun i hi => by
    rw [List.getD_eq_getElem?_getD, List.getElem?_eq_getElem (by omega)]; rfl
  refine wp_draw (k := k) hm hk (by rw [hsz]; exact hpre) htail H (fun i => F.getD i (fun _ _ => True)) (fun i hi => ?_) (fun i o hi ho s' w' x Φ hs hH hg hΦ => ?_) (fun s' w' x hs hH hg => ?_)
  · have hp : pre[i]? = some l[i] := (congrArg (·[i]?) e1.symm).trans (by rw [List.getElem?_take, if_pos hi, List.getElem?_eq_getElem (by omega)])
    exact (h i _ _ hp (hget i hi)).1
  · have hp : pre[i]? = some o := (congrArg (·[i]?) e1.symm).trans (by rw [List.getElem?_take, if_pos hi]; exact ho)
    rw [e1, eA]
    refine (h i o _ hp (hget i hi)).2 s' w' x Φ hs hH ?_ hΦ
    rw [List.nil_append]
    refine dh_of (F := fun i => F.getD i (fun _ _ => True)) _ _ (fun j hj => ?_) (fun j hj hd => ?_)
    · have hj' : j < i := by rw [List.length_take] at hj; omega
      rw [List.getElem?_take, if_pos hj', Nat.zero_add]; exact hget j (by omega)
    · have hj' : j < i := by rw [List.length_take] at hj; omega
      rw [Nat.zero_add] at hd ⊢; exact hg j hj' hd
  · rw [e1, e2, eA]
    refine hF s' w' x hs hH ?_
    refine gh_of (F := fun i => F.getD i (fun _ _ => True)) _ _ (fun j hj => ?_) (fun j hj => ?_)
    · rw [Nat.zero_add]; exact hget j (by omega)
    · rw [Nat.zero_add]; exact hg j (by omega)
attribute [go_sem] OpG
end Go.Proofs.YtemdmpgekegfhaaDoor
