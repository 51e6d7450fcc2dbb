/- Regions that draw their order and hand on what they own: one operation behind the other. -/
import Derived.Test.YtemdmpgekegfhaaDoorDrawO
namespace Go.Proofs.YtemdmpgekegfhaaDoor
open Go.RowKit
set_option linter.all false
set_option maxRecDepth 10000

abbrev XV := Value → List HP
/-- What operation i takes over of those ahead of it. -/
def inX : List Nat → List XV → Nat → (Nat → Value) → Nat → List HP
  | c :: cs, X :: Xs, i, x, j => (if c = i then X (x j) else []) ++ inX cs Xs i x (j + 1)
  | _, _, _, _, _ => []
/-- What is owned behind the first k. -/
def alX : List Nat → List XV → Nat → (Nat → Value) → Nat → List HP
  | c :: cs, X :: Xs, k, x, j => (if c < k then [] else X (x j)) ++ alX cs Xs k x (j + 1)
  | _, _, _, _, _ => []
def noX : XV := fun _ => []
def ObO (P : Program) (ops : Array Oper) (A : (Nat → Value) → Act) (E : World) (s : SH) (L : List HP) (cn : List Nat) (ini : Nat → List HP) (Fin : List GV → List XV → Prop) : List Oper → Nat → List GV → List XV → Prop
  | [], _, G, Xs => Fin G Xs
  | o :: r, i, G, Xs => ∃ g : GV, ∃ X : XV, (∀ s s' v, Sub s s' → g s v → g s' v) ∧
      (∀ (s' : SH) (w' : World) (x : Nat → Value) (Φ : Value → World → Prop) (R : List HP), Sub s s' → Holds E s' (inX cn Xs i x 0 ++ (ini i ++ (L ++ R))) w' → dh o s' x G 0 →
        (∀ v s'' w'', Sub s' s'' → Holds E s'' (X v ++ (L ++ R)) w'' → g s'' v → Φ v w'') →
        Want P ops o (A x) w' Φ) ∧ ObO P ops A E s L cn ini Fin r (i + 1) (G ++ [g]) (Xs ++ [X])
section
variable {P : Program} {ops : Array Oper} {A : (Nat → Value) → Act} {E : World} {s : SH} {L : List HP} {cn : List Nat} {ini : Nat → List HP} {Fin : List GV → List XV → Prop} {o : Oper} {r : List Oper} {i : Nat} {G : List GV} {Xs : List XV}
/-- An operation that takes nothing over, makes nothing, and yields V. -/
theorem ObO.valw {V : Value} (hi : ∀ x, inX cn Xs i x 0 ++ ini i = []) (h1 : ∀ (s' : SH) (w' : World) (x : Nat → Value) (Φ : Value → World → Prop) (R : List HP), Sub s s' → Holds E s' (L ++ R) w' → dh o s' x G 0 →
      (∀ s'' w'', Sub s' s'' → Holds E s'' (L ++ R) w'' → Φ V w'') → Want P ops o (A x) w' Φ) (h2 : ObO P ops A E s L cn ini Fin r (i + 1) (G ++ [isV V]) (Xs ++ [noX])) : ObO P ops A E s L cn ini Fin (o :: r) i G Xs :=
  ⟨isV V, noX, fun _ _ _ _ h => h, fun s' w' x Φ R hs H hG hΦ => h1 s' w' x Φ R hs (by rw [← List.append_assoc, hi] at H; exact H) hG (fun s'' w'' h1 h2 => hΦ V s'' w'' h1 h2 rfl), h2⟩
/-- An operation that takes nothing over, makes nothing, and of whose value g is known. -/
theorem ObO.rel (g : GV) (hm : ∀ s s' v, Sub s s' → g s v → g s' v) (hi : ∀ x, inX cn Xs i x 0 ++ ini i = []) (h1 : ∀ (s' : SH) (w' : World) (x : Nat → Value) (Φ : Value → World → Prop) (R : List HP), Sub s s' → Holds E s' (L ++ R) w' → dh o s' x G 0 →
      (∀ v s'' w'', Sub s' s'' → Holds E s'' (L ++ R) w'' → g s'' v → Φ v w'') → Want P ops o (A x) w' Φ) (h2 : ObO P ops A E s L cn ini Fin r (i + 1) (G ++ [g]) (Xs ++ [noX])) : ObO P ops A E s L cn ini Fin (o :: r) i G Xs :=
  ⟨g, noX, hm, fun s' w' x Φ R hs H hG hΦ => h1 s' w' x Φ R hs (by rw [← List.append_assoc, hi] at H; exact H) hG hΦ, h2⟩
/-- An operation that takes over, or makes, what is owned. -/
theorem ObO.own (g : GV) (X : XV) (hm : ∀ s s' v, Sub s s' → g s v → g s' v) (h1 : ∀ (s' : SH) (w' : World) (x : Nat → Value) (Φ : Value → World → Prop) (R : List HP), Sub s s' → Holds E s' (inX cn Xs i x 0 ++ (ini i ++ (L ++ R))) w' → dh o s' x G 0 →
      (∀ v s'' w'', Sub s' s'' → Holds E s'' (X v ++ (L ++ R)) w'' → g s'' v → Φ v w'') → Want P ops o (A x) w' Φ) (h2 : ObO P ops A E s L cn ini Fin r (i + 1) (G ++ [g]) (Xs ++ [X])) : ObO P ops A E s L cn ini Fin (o :: r) i G Xs :=
  ⟨g, X, hm, h1, h2⟩
end
theorem obO_all {P : Program} {ops : Array Oper} {A : (Nat → Value) → Act} {E : World} {s : SH} {L : List HP} {cn : List Nat} {ini : Nat → List HP} {Fin : List GV → List XV → Prop} : ∀ (r : List Oper) (n : Nat) (G : List GV) (Xs : List XV), G.length = n → Xs.length = n → ObO P ops A E s L cn ini Fin r n G Xs →
    ∃ (F : List GV) (Y : List XV), F.length = r.length ∧ Y.length = r.length ∧ Fin (G ++ F) (Xs ++ Y) ∧ ∀ i o g X, r[i]? = some o → F[i]? = some g → Y[i]? = some X → (∀ s s' v, Sub s s' → g s v → g s' v) ∧
      (∀ (s' : SH) (w' : World) (x : Nat → Value) (Φ : Value → World → Prop) (R : List HP), Sub s s' → Holds E s' (inX cn (Xs ++ Y.take i) (n + i) x 0 ++ (ini (n + i) ++ (L ++ R))) w' → dh o s' x (G ++ F.take i) 0 →
        (∀ v s'' w'', Sub s' s'' → Holds E s'' (X v ++ (L ++ R)) w'' → g s'' v → Φ v w'') →
        Want P ops o (A x) w' Φ)
  | [], n, G, Xs, _, _, h => ⟨[], [], rfl, rfl, by rw [List.append_nil, List.append_nil]; exact h, fun i o g X h _ _ => by simp at h⟩
  | o :: r, n, G, Xs, hGn, hXn, ⟨g, X, hm, h1, h2⟩ => by
    obtain ⟨F, Y, hl, hl2, hF, h⟩ := obO_all r (n + 1) (G ++ [g]) (Xs ++ [X]) (by simp [hGn]) (by simp [hXn]) h2
    refine ⟨g :: F, X :: Y, by simp [hl], by simp [hl2], by rw [List.append_assoc, List.append_assoc] at hF; exact hF, fun i o' g' X' ho hg hX => ?_⟩
    cases i with
    | zero =>
      simp only [List.getElem?_cons_zero, Option.some.injEq] at ho hg hX
      subst ho; subst hg; subst hX
      exact ⟨hm, by simpa using h1⟩
    | succ i =>
      have := h i o' g' X' (by simpa using ho) (by simpa using hg) (by simpa using hX)
      have e : n + 1 + i = n + (i + 1) := by omega
      simp only [e] at this
      simpa [List.append_assoc] using this
theorem inX_eq {k i : Nat} {x : Nat → Value} : ∀ (Xs : List XV) (cs : List Nat) (j0 : Nat), Xs.length ≤ cs.length → inX cs Xs i x j0 = (List.range Xs.length).flatMap fun j => if cs.getD j k = i then (Xs.getD j noX) (x (j0 + j)) else []
  | [], cs, j0, _ => by cases cs <;> rfl
  | X :: Xs, [], j0, h => by simp at h
  | X :: Xs, c :: cs, j0, h => by
    have ih := inX_eq (i := i) (x := x) (k := k) Xs cs (j0 + 1) (by simpa using h)
    rw [List.length_cons, List.range_succ_eq_map, List.flatMap_cons, List.flatMap_map]
    show (if c = i then X (x j0) else []) ++ inX cs Xs i x (j0 + 1) = _
    rw [ih]
    congr 1
    refine fm_congr fun j _ => ?_
    have e : j0 + 1 + j = j0 + (j + 1) := by omega
    simp [e]
theorem alX_eq {k : Nat} {x : Nat → Value} : ∀ (Xs : List XV) (cs : List Nat) (j0 : Nat), Xs.length ≤ cs.length → alX cs Xs k x j0 = (List.range Xs.length).flatMap fun j => if cs.getD j k < k then [] else (Xs.getD j noX) (x (j0 + j))
  | [], cs, j0, _ => by cases cs <;> rfl
  | X :: Xs, [], j0, h => by simp at h
  | X :: Xs, c :: cs, j0, h => by
    have ih := alX_eq (x := x) (k := k) Xs cs (j0 + 1) (by simpa using h)
    rw [List.length_cons, List.range_succ_eq_map, List.flatMap_cons, List.flatMap_map]
    show (if c < k then [] else X (x j0)) ++ alX cs Xs k x (j0 + 1) = _
    rw [ih]
    congr 1
    refine fm_congr fun j _ => ?_
    have e : j0 + 1 + j = j0 + (j + 1) := by omega
    simp [e]
theorem fm_cut {β : Type} {f : Nat → List β} {i : Nat} : ∀ k, i ≤ k → (∀ j, i ≤ j → j < k → f j = []) → (List.range k).flatMap f = (List.range i).flatMap f
  | 0, h, _ => by have : i = 0 := by omega
                  rw [this]
  | k + 1, h, hf => by
    by_cases e : i = k + 1
    · rw [e]
    · rw [List.range_succ, List.flatMap_append, fm_cut k (by omega) (fun j h1 h2 => hf j h1 (by omega))]
      simp [hf k (by omega) (by omega)]
/-- Who takes over stands behind, and waits for what it takes. -/
def cnOk (l : List Oper) (k : Nat) (cn : List Nat) : Bool :=
  decide (cn.length = k) && (List.range k).all fun j => decide (k ≤ cn.getD j k) || (decide (j < cn.getD j k) && match l[cn.getD j k]? with | none => false | some o => dep o j)
theorem wp_draw_obO {P : Program} {id k sz : Nat} {l pre tail : List Oper} {A : (Nat → Value) → Act} {Q : Exit → Act → World → Prop} {a0 : Act} {w : World} {E : World} {s : SH} {L : List HP} (cn : List Nat) (ini : Nat → List HP)
    (hm : P.follows .mixedOrders = true) (hk : k ≤ l.length) (hsz : a0.tmps.size = sz) (hpre : preOkS l k sz = true) (htail : tailOk l k = true) (hcn : cnOk l k cn = true) (H : Holds E s (initA k ini (fun _ => false) ++ L) w)
    (e1 : l.take k = pre) (e2 : l.drop k = tail) (eA : ∀ x, ov a0 pre 0 x = A x)
    (hob : ObO P l.toArray A E s L cn ini (fun G Xs => ∀ (s' : SH) (w' : World) (x : Nat → Value), Sub s s' → Holds E s' (alX cn Xs k x 0 ++ L) w' → gh s' x G 0 → wpList P l.toArray Q tail (A x) w') pre 0 [] []) :
    (Code.region id l.toArray true).wp P Q a0 w := by
  obtain ⟨F, Y, hl, hl2, hF, h⟩ := obO_all pre 0 [] [] rfl rfl hob
  rw [List.nil_append, List.nil_append] at hF
  have hpl : pre.length = k := by rw [← e1, List.length_take, Nat.min_eq_left hk]
  have hlen : F.length = k := by rw [hl, hpl]
  have hlenY : Y.length = k := by rw [hl2, hpl]
  unfold cnOk at hcn
  rw [Bool.and_eq_true, decide_eq_true_eq] at hcn
  obtain ⟨hcl, hcn⟩ := hcn
  have hc : ∀ j, j < k → cn.getD j k < k → j < cn.getD j k ∧ ∃ o, l[cn.getD j k]? = some o ∧ dep o j = true := fun j hj hlt => by
    have := List.all_eq_true.1 hcn j (List.mem_range.2 hj)
    rw [Bool.or_eq_true, decide_eq_true_eq, Bool.and_eq_true, decide_eq_true_eq] at this
    rcases this with h | ⟨h1, h2⟩
    · omega
    · refine ⟨h1, ?_⟩
      split at h2
      · cases h2
      · rename_i o ho; exact ⟨o, ho, h2⟩
  have hget : ∀ i, i < k → F[i]? = some (F.getD i (fun _ _ => True)) := fun i hi => by
    rw [List.getD_eq_getElem?_getD, List.getElem?_eq_getElem (by omega)]; rfl
  have hgetY : ∀ i, i < k → Y[i]? = some (Y.getD i noX) := fun i hi => by
    rw [List.getD_eq_getElem?_getD, List.getElem?_eq_getElem (by omega)]; rfl
  refine wp_drawO (k := k) hm hk (by rw [hsz]; exact hpre) htail (fun i => Y.getD i noX) (fun j => cn.getD j k) ini H (fun j hj hlt => ?_) (fun i => F.getD i (fun _ _ => True)) (fun i hi => ?_) (fun i o hi ho s' w' x Φ R hs hH hg hΦ => ?_) (fun s' w' x hs hH hg => ?_)
  · obtain ⟨h1, o, h2, h3⟩ := hc j hj hlt
    exact ⟨o, h2, h3, by omega⟩
  · have hp : pre[i]? = some l[i] := (congrArg (·[i]?) e1.symm).trans (by rw [List.getElem?_take, if_pos hi, List.getElem?_eq_getElem (by omega)])
    exact (h i _ _ _ hp (hget i hi) (hgetY i hi)).1
  · have hp : pre[i]? = some o := (congrArg (·[i]?) e1.symm).trans (by rw [List.getElem?_take, if_pos hi]; exact ho)
    rw [e1, eA]
    refine (h i o _ _ hp (hget i hi) (hgetY i hi)).2 s' w' x Φ R hs ?_ ?_ hΦ
    · have e : inX cn ([] ++ Y.take i) (0 + i) x 0 = inpO k (fun i => Y.getD i noX) (fun j => cn.getD j k) i x := by
        rw [List.nil_append, Nat.zero_add, inX_eq (k := k) _ _ _ (by rw [List.length_take]; omega)]
        unfold inpO
        rw [fm_cut (i := i) k (by omega) (fun j h1 h2 => ?_)]
        · have e3 : (Y.take i).length = i := by rw [List.length_take]; omega
          rw [e3]
          refine fm_congr fun j hj => ?_
          have hji := List.mem_range.1 hj
          rw [Nat.zero_add]
          have e4 : (Y.take i).getD j noX = Y.getD j noX := by
            rw [List.getD_eq_getElem?_getD, List.getD_eq_getElem?_getD, List.getElem?_take, if_pos hji]
          rw [e4]
        · by_cases e5 : cn.getD j k = i
          · have := (hc j h2 (by rw [e5]; exact hi)).1
            omega
          · rw [if_neg e5]
      rw [e, Nat.zero_add]; exact hH
    · rw [List.nil_append]
      refine dh_of (F := fun i => F.getD i (fun _ _ => True)) _ _ (fun j hj => ?_) (fun j hj hd => ?_)
      · have hj' : j < i := by rw [List.length_take] at hj; omega
        rw [List.getElem?_take, if_pos hj', Nat.zero_add]; exact hget j (by omega)
      · have hj' : j < i := by rw [List.length_take] at hj; omega
        rw [Nat.zero_add] at hd ⊢; exact hg j hj' hd
  · rw [e1, e2, eA]
    refine hF s' w' x hs ?_ ?_
    · have e : alX cn Y k x 0 = alive k (fun i => Y.getD i noX) (fun j => cn.getD j k) (fun j => decide (j < k)) x := by
        rw [alX_eq _ _ _ (by omega), hlenY]
        unfold alive
        refine fm_congr fun j hj => ?_
        have hjk := List.mem_range.1 hj
        rw [Nat.zero_add]
        unfold aliveP
        by_cases e5 : cn.getD j k < k
        · simp only [e5, hjk, if_true, decide_true, Bool.true_and, Bool.not_true, Bool.and_true]; rfl
        · simp only [e5, hjk, if_false, decide_true, decide_false, Bool.false_and, Bool.not_false, Bool.and_true, if_true]
      rw [e]; exact hH
    · refine gh_of (F := fun i => F.getD i (fun _ _ => True)) _ _ (fun j hj => ?_) (fun j hj => ?_)
      · rw [Nat.zero_add]; exact hget j (by omega)
      · rw [Nat.zero_add]; exact hg j (by omega)
end Go.Proofs.YtemdmpgekegfhaaDoor
