/- A region that draws its order: whatever order the tape picks, one look at each operation is enough. -/
import Derived.Test.YtemdmpgekegfhaaDoorOpsB
namespace Go.Proofs.YtemdmpgekegfhaaDoor
open Go.RowKit
set_option linter.all false
set_option maxRecDepth 10000

/-- Operation o waits for number j. -/
def dep (o : Oper) (j : Nat) : Bool := o.after.toList.any fun e => Region.binds .any e && e.on == j
def dstOf (l : List Oper) (j : Nat) : Option Tmp := (l[j]?).bind (·.dst)
def preOk (l : List Oper) (k sz : Nat) : Bool :=
  (List.range k).all fun i => match l[i]? with
    | none => false
    | some o =>
      (match o.dst with
       | none => false
       | some d => decide (d < sz) && (List.range k).all fun j => j == i || dstOf l j != some d) &&
      (o.looksAt l.toArray).all (fun t => (List.range k).all fun j => dstOf l j != some t || dep o j) &&
      o.after.toList.all (fun e => !Region.binds .any e || decide (e.on < i)) &&
      (match o.op with | .select .. => false | _ => true)
def tailOk (l : List Oper) (k : Nat) : Bool :=
  (List.range l.length).all fun i => decide (i < k) || (match l[i]? with
    | none => false
    | some o => (if i = k then (List.range k).all fun j => dep o j else dep o (i - 1)) && o.after.toList.all (fun e => !Region.binds .any e || decide (e.on < i)))
def ov : Act → List Oper → Nat → (Nat → Value) → Act
  | a, [], _, _ => a
  | a, o :: r, i, x => ov (a.put o.dst (x i)) r (i + 1) x

theorem countP_lt {p q : Nat → Bool} : ∀ {l : List Nat}, (∀ x ∈ l, q x = true → p x = true) → (∃ a ∈ l, p a = true ∧ q a = false) → l.countP q < l.countP p
  | [], _, ⟨a, ha, _⟩ => by cases ha
  | b :: l, h, ⟨a, ha, hp, hq⟩ => by
    have hle : l.countP q ≤ l.countP p := List.countP_mono_left fun x hx => h x (List.mem_cons_of_mem _ hx)
    rw [List.countP_cons, List.countP_cons]
    rcases List.mem_cons.1 ha with e | e
    · subst e; rw [hp, hq]; simp; omega
    · have := countP_lt (l := l) (fun x hx => h x (List.mem_cons_of_mem _ hx)) ⟨a, e, hp, hq⟩
      cases hqb : q b with
      | false => simp; omega
      | true => rw [h b List.mem_cons_self hqb]; simp; omega

section
variable {P : Program} {l : List Oper} {Q : Exit → Act → World → Prop}

theorem ready_iff {listed : Array Bool} {i : Nat} : i ∈ Region.ready .any l.toArray listed ↔ i < l.length ∧ listed.getD i true = false ∧ ∃ o, l[i]? = some o ∧ ∀ e ∈ o.after, Region.binds .any e = true → listed.getD e.on false = true := by
  unfold Region.ready
  simp only [List.size_toArray, List.mem_filter, List.mem_range, Bool.and_eq_true, Bool.not_eq_true']
  constructor
  · rintro ⟨h1, h2, h3⟩
    obtain ⟨o, ho⟩ : ∃ o, l[i]? = some o := ⟨l[i], List.getElem?_eq_getElem h1⟩
    refine ⟨h1, h2, o, ho, fun e he hb => ?_⟩
    simp only [List.getElem?_toArray, ho, Option.map_some, Option.getD_some, Array.all_eq_true_iff_forall_mem] at h3
    have := h3 e he
    simpa [hb] using this
  · rintro ⟨h1, h2, o, ho, h3⟩
    refine ⟨h1, h2, ?_⟩
    simp only [List.getElem?_toArray, ho, Option.map_some, Option.getD_some, Array.all_eq_true_iff_forall_mem]
    intro e he
    cases hb : Region.binds .any e with
    | false => simp
    | true => simp [h3 e he hb]
theorem dep_listed {listed : Array Bool} {o : Oper} (h : ∀ e ∈ o.after, Region.binds .any e = true → listed.getD e.on false = true) {j : Nat} (hj : dep o j = true) : listed.getD j false = true := by
  unfold dep at hj
  obtain ⟨e, he, hh⟩ := List.any_eq_true.1 hj
  simp only [Bool.and_eq_true, beq_iff_eq] at hh
  rw [← hh.2]; exact h e (Array.mem_toList_iff.1 he) hh.1
theorem listed_of {listed : Array Bool} {j : Nat} (h : listed.getD j false = true) : listed.getD j true = true := by
  simp only [Array.getD_eq_getD_getElem?] at *
  cases e : listed[j]? <;> simp_all
theorem unlisted_of {listed : Array Bool} {j : Nat} (hj : j < listed.size) (h : listed.getD j false = false) : listed.getD j true = false := by
  simp only [Array.getD_eq_getD_getElem?] at *
  rw [Array.getElem?_eq_getElem hj] at *
  simpa using h
theorem tail_lex {k : Nat} (ht : tailOk l k = true) : ∀ (fuel m : Nat) (listed : Array Bool) (a : Act) (w : World), k ≤ m → m ≤ l.length → l.length ≤ m + fuel → listed.size = l.length →
    (∀ j, j < l.length → listed.getD j true = decide (j < m)) → wpList P l.toArray Q (l.drop m) a w → wpAny P .any l.toArray Q fuel listed a w := by
  intro fuel
  have hT := List.all_eq_true.1 ht
  have only : ∀ (m : Nat) (listed : Array Bool), k ≤ m → listed.size = l.length → (∀ j, j < l.length → listed.getD j true = decide (j < m)) → ∀ i ∈ Region.ready .any l.toArray listed, i = m := by
    intro m listed hkm hsz hl i hi
    obtain ⟨h1, h2, o, ho, h3⟩ := ready_iff.1 hi
    have him : ¬ i < m := by rw [hl i h1] at h2; simpa using h2
    have := hT i (List.mem_range.2 h1)
    rw [ho] at this
    simp only [Bool.or_eq_true, decide_eq_true_eq, Bool.and_eq_true] at this
    rcases this with h | ⟨h, _⟩
    · omega
    · split at h
      · omega
      · have := listed_of (dep_listed h3 h)
        rw [hl (i - 1) (by omega)] at this
        simp only [decide_eq_true_eq] at this
        omega
  induction fuel with
  | zero =>
    intro m listed a w hkm hm hf hsz hl h
    have e : m = l.length := by omega
    subst e
    refine ⟨?_, by simpa [wpList] using h⟩
    cases hr : Region.ready .any l.toArray listed with
    | nil => rfl
    | cons i r =>
      have hi : i ∈ Region.ready .any l.toArray listed := by rw [hr]; exact List.mem_cons_self
      have := only _ listed hkm hsz hl i hi
      have := (ready_iff.1 hi).1
      omega
  | succ fuel ih =>
    intro m listed a w hkm hm hf hsz hl h
    by_cases e : m = l.length
    · subst e
      refine ⟨fun _ => by simpa [wpList] using h, fun i hi => ?_⟩
      have := only _ listed hkm hsz hl i hi
      have := (ready_iff.1 hi).1
      omega
    · have hlt : m < l.length := by omega
      obtain ⟨o, ho⟩ : ∃ o, l[m]? = some o := ⟨l[m], List.getElem?_eq_getElem hlt⟩
      have hmr : m ∈ Region.ready .any l.toArray listed := by
        refine ready_iff.2 ⟨hlt, by rw [hl m hlt]; simp, o, ho, fun e he hb => ?_⟩
        have := hT m (List.mem_range.2 hlt)
        rw [ho] at this
        simp only [Bool.or_eq_true, decide_eq_true_eq, Bool.and_eq_true, List.all_eq_true] at this
        rcases this with h | ⟨_, h⟩
        · omega
        · have h1 := h e (Array.mem_toList_iff.2 he)
          rw [hb] at h1
          simp only [Bool.not_true, Bool.false_eq_true, false_or] at h1
          have h2 := hl e.on (by omega)
          have h3 : listed.getD e.on true = true := by rw [h2]; simpa using h1
          simp only [Array.getD_eq_getD_getElem?] at *
          rw [Array.getElem?_eq_getElem (by omega)] at h3 ⊢
          simpa using h3
      refine ⟨fun h0 => (by rw [h0] at hmr; cases hmr), fun i hi => ?_⟩
      have := only _ listed hkm hsz hl i hi
      subst this
      have hd : l.drop i = o :: l.drop (i + 1) := by
        rw [List.drop_eq_getElem_cons hlt]
        congr 1
        rw [List.getElem?_eq_getElem hlt] at ho
        exact Option.some.inj ho
      rw [hd] at h
      unfold wpOp
      simp only [List.getElem?_toArray, ho]
      unfold wpList at h
      have step : ∀ a w, wpList P l.toArray Q (l.drop (i + 1)) a w → wpAny P .any l.toArray Q fuel (listed.setIfInBounds i true) a w := fun a w hh =>
        ih (i + 1) _ a w (by omega) (by omega) (by omega) (by simpa using hsz) (fun j hj => by
          simp only [Array.getD_eq_getD_getElem?, Array.getElem?_setIfInBounds]
          by_cases hji : i = j
          · subst hji; simp [hsz, hj]
          · have := hl j hj
            simp only [Array.getD_eq_getD_getElem?] at this
            rw [if_neg hji, this]
            simp only [decide_eq_decide]; omega) hh
      split
      · rename_i hw; rw [if_pos hw] at h; exact h.imp (Oper.wp_mono step) id
      · rename_i hw; rw [if_neg hw] at h; exact step _ _ h

theorem ov_size : ∀ (r : List Oper) (a : Act) (i : Nat) (x : Nat → Value), (ov a r i x).tmps.size = a.tmps.size ∧ (ov a r i x).defers = a.defers
  | [], _, _, _ => ⟨rfl, rfl⟩
  | o :: r, a, i, x => by
    obtain ⟨h1, h2⟩ := ov_size r (a.put o.dst (x i)) (i + 1) x
    refine ⟨h1.trans ?_, h2.trans ?_⟩ <;> cases o.dst <;> simp [Act.put]
theorem ov_get : ∀ (r : List Oper) (a : Act) (i : Nat) (x : Nat → Value) (t : Tmp), (∀ j, j < r.length → (r[j]?).bind (·.dst) ≠ some t) → (ov a r i x).tmps[t]? = a.tmps[t]?
  | [], _, _, _, _, _ => rfl
  | o :: r, a, i, x, t, h => by
    have := ov_get r (a.put o.dst (x i)) (i + 1) x t (fun j hj => by have := h (j + 1) (by simp; omega); simpa using this)
    rw [ov, this]
    have h0 := h 0 (by simp)
    simp only [List.getElem?_cons_zero, Option.bind_some] at h0
    cases hd : o.dst with
    | none => rfl
    | some d => rw [hd] at h0; simp only [Act.put]; rw [Array.getElem?_setIfInBounds_ne (by intro e; exact h0 (by rw [e]))]
theorem ov_at : ∀ (r : List Oper) (a : Act) (i : Nat) (x : Nat → Value) (j : Nat) (d : Tmp), j < r.length → (r[j]?).bind (·.dst) = some d → d < a.tmps.size → (∀ j', j' < r.length → j' ≠ j → (r[j']?).bind (·.dst) ≠ some d) →
    (ov a r i x).tmps[d]? = some (x (i + j))
  | [], _, _, _, _, _, h, _, _, _ => by simp at h
  | o :: r, a, i, x, 0, d, _, hd, hs, hu => by
    simp only [List.getElem?_cons_zero, Option.bind_some] at hd
    rw [ov, ov_get r _ _ _ d (fun j hj => by have := hu (j + 1) (by simp; omega) (by omega); simpa using this)]
    simp [Act.put, hd, hs]
  | o :: r, a, i, x, j + 1, d, hj, hd, hs, hu => by
    rw [ov]
    have := ov_at r (a.put o.dst (x i)) (i + 1) x j d (by simpa using hj) (by simpa using hd) (by cases o.dst <;> simpa [Act.put] using hs) (fun j' h1 h2 => by have := hu (j' + 1) (by simp; omega) (by omega); simpa using this)
    rw [this]; congr 2; omega

/-- What is known in the midst of such a region. -/
structure Mid (l : List Oper) (k : Nat) (a0 : Act) (E : World) (s : SH) (L : List HP) (G : Nat → SH → Value → Prop) (listed : Array Bool) (a : Act) (w : World) (s' : SH) (x : Nat → Value) : Prop where
  sub : Sub s s'
  H : Holds E s' L w
  g : ∀ j, j < k → listed.getD j true = true → G j s' (x j)
  size : a.tmps.size = a0.tmps.size
  defers : a.defers = a0.defers
  get : ∀ t, (∀ j, j < k → listed.getD j true = true → dstOf l j ≠ some t) → a.tmps[t]? = a0.tmps[t]?
  at_ : ∀ j d, j < k → listed.getD j true = true → dstOf l j = some d → a.tmps[d]? = some (x j)

theorem act_ext {a b : Act} (h : ∀ t : Nat, a.tmps[t]? = b.tmps[t]?) (hd : a.defers = b.defers) : a = b := by
  cases a; cases b
  simp only at h hd
  subst hd
  congr 1
  exact Array.ext_getElem? h

theorem wp_draw {id k : Nat} {a0 : Act} {w : World} {E : World} {s : SH} {L : List HP} (hm : P.follows .mixedOrders = true) (hk : k ≤ l.length) (hpre : preOk l k a0.tmps.size = true) (htail : tailOk l k = true) (H : Holds E s L w)
    (G : Nat → SH → Value → Prop) (hmono : ∀ i, i < k → ∀ s s' v, Sub s s' → G i s v → G i s' v)
    (hop : ∀ i o, i < k → l[i]? = some o → ∀ (s' : SH) (w' : World) (x : Nat → Value) (Φ : Value → World → Prop), Sub s s' → Holds E s' L w' → (∀ j, j < i → dep o j = true → G j s' (x j)) →
      (∀ v s'' w'', Sub s' s'' → Holds E s'' L w'' → G i s'' v → Φ v w'') →
      if Region.wanted o (yielded l.toArray (ov a0 (l.take k) 0 x).tmps) then OpG P o (ov a0 (l.take k) 0 x) w' Φ else Φ undef w')
    (hfin : ∀ (s' : SH) (w' : World) (x : Nat → Value), Sub s s' → Holds E s' L w' → (∀ j, j < k → G j s' (x j)) → wpList P l.toArray Q (l.drop k) (ov a0 (l.take k) 0 x) w') :
    (Code.region id l.toArray true).wp P Q a0 w := by
  have hP := List.all_eq_true.1 hpre
  have hT := List.all_eq_true.1 htail
  -- what the check says of one operation
  have one : ∀ i, i < k → ∃ o d, l[i]? = some o ∧ o.dst = some d ∧ d < a0.tmps.size ∧ (∀ j, j < k → j ≠ i → dstOf l j ≠ some d) ∧ (∀ t ∈ o.looksAt l.toArray, ∀ j, j < k → dstOf l j = some t → dep o j = true) ∧
      (∀ e ∈ o.after, Region.binds .any e = true → e.on < i) ∧ (∀ cs b, o.op ≠ .select cs b) := by
    intro i hi
    have := hP i (List.mem_range.2 hi)
    cases ho : l[i]? with
    | none => rw [ho] at this; cases this
    | some o =>
      rw [ho] at this
      simp only [Bool.and_eq_true] at this
      obtain ⟨⟨⟨h1, h2⟩, h3⟩, h4⟩ := this
      cases hd : o.dst with
      | none => rw [hd] at h1; cases h1
      | some d =>
        rw [hd] at h1
        simp only [Bool.and_eq_true, decide_eq_true_eq, List.all_eq_true, List.mem_range] at h1
        refine ⟨o, d, rfl, hd, h1.1, fun j hj hji e => ?_, fun t ht j hj e => ?_, fun e he hb => ?_, fun cs b e => by rw [e] at h4; cases h4⟩
        · have := h1.2 j hj
          simp [hji, e] at this
        · have := List.all_eq_true.1 h2 t ht
          have := List.all_eq_true.1 this j (List.mem_range.2 hj)
          simpa [e] using this
        · have := List.all_eq_true.1 h3 e (Array.mem_toList_iff.2 he)
          simpa [hb] using this
  have take_get : ∀ j, j < k → (l.take k)[j]? = l[j]? := fun j hj => by rw [List.getElem?_take, if_pos hj]
  have take_len : (l.take k).length = k := by rw [List.length_take, Nat.min_eq_left hk]
  have ovget : ∀ x t, (∀ j, j < k → dstOf l j ≠ some t) → (ov a0 (l.take k) 0 x).tmps[t]? = a0.tmps[t]? := fun x t h =>
    ov_get _ _ _ _ _ fun j hj => by rw [take_len] at hj; rw [take_get j hj]; exact h j hj
  have ovat : ∀ x j d, j < k → dstOf l j = some d → (ov a0 (l.take k) 0 x).tmps[d]? = some (x j) := fun x j d hj hd => by
    obtain ⟨o, d', ho, hd', hsz, hu, -⟩ := one j hj
    have e : d' = d := by unfold dstOf at hd; rw [ho] at hd; simp only [Option.bind_some] at hd; rw [hd'] at hd; exact Option.some.inj hd
    subst e
    have := ov_at (l.take k) a0 0 x j d' (by rw [take_len]; exact hj) (by rw [take_get j hj]; exact hd) hsz (fun j' h1 h2 => by rw [take_len] at h1; rw [take_get j' h1]; exact hu j' h1 h2)
    rw [this]; congr 2; omega
  have main : ∀ (fuel : Nat) (listed : Array Bool) (a : Act) (w : World) (s' : SH) (x : Nat → Value), listed.size = l.length → (∀ j, k ≤ j → j < l.length → listed.getD j true = false) →
      (List.range k).countP (fun j => !listed.getD j true) + (l.length - k) ≤ fuel → Mid l k a0 E s L G listed a w s' x → wpAny P .any l.toArray Q fuel listed a w := by
    intro fuel
    induction fuel with
    | zero =>
      intro listed a w s' x hsz htl hc M
      have hall : ∀ j, j < k → listed.getD j true = true := fun j hj => by
        have : (List.range k).countP (fun j => !listed.getD j true) = 0 := by omega
        have := List.countP_eq_zero.1 this j (List.mem_range.2 hj)
        simpa using this
      have ha : a = ov a0 (l.take k) 0 x := act_ext (fun t => by
        by_cases ht : ∃ j, j < k ∧ dstOf l j = some t
        · obtain ⟨j, hj, hd⟩ := ht
          rw [ovat x j t hj hd, M.at_ j t hj (hall j hj) hd]
        · have ht' : ∀ j, j < k → dstOf l j ≠ some t := fun j hj hd => ht ⟨j, hj, hd⟩
          rw [ovget x t ht', M.get t (fun j hj _ => ht' j hj)]) (by rw [M.defers, (ov_size _ _ _ _).2])
      have hkl : k = l.length := by omega
      refine tail_lex htail 0 k listed a w (Nat.le_refl _) hk (by omega) hsz (fun j hj => by rw [hall j (by omega)]; simp; omega) ?_
      rw [ha]
      exact hfin s' w x M.sub M.H fun j hj => M.g j hj (hall j hj)
    | succ fuel ih =>
      intro listed a w s' x hsz htl hc M
      by_cases hall : ∀ j, j < k → listed.getD j true = true
      · have ha : a = ov a0 (l.take k) 0 x := act_ext (fun t => by
          by_cases ht : ∃ j, j < k ∧ dstOf l j = some t
          · obtain ⟨j, hj, hd⟩ := ht
            rw [ovat x j t hj hd, M.at_ j t hj (hall j hj) hd]
          · have ht' : ∀ j, j < k → dstOf l j ≠ some t := fun j hj hd => ht ⟨j, hj, hd⟩
            rw [ovget x t ht', M.get t (fun j hj _ => ht' j hj)]) (by rw [M.defers, (ov_size _ _ _ _).2])
        have hz : (List.range k).countP (fun j => !listed.getD j true) = 0 := List.countP_eq_zero.2 fun j hj => by simp [hall j (List.mem_range.1 hj)]
        refine tail_lex htail (fuel + 1) k listed a w (Nat.le_refl _) hk (by omega) hsz (fun j hj => ?_) ?_
        · by_cases hjk : j < k
          · rw [hall j hjk]; simp [hjk]
          · rw [htl j (by omega) hj]; simp [hjk]
        · rw [ha]
          exact hfin s' w x M.sub M.H fun j hj => M.g j hj (hall j hj)
      · -- some operation of the first part has not come up: the lowest one is ready
        have hex : ∃ j, j < k ∧ listed.getD j true = false := Classical.byContradiction fun hn => hall fun j hj => by
          cases e : listed.getD j true with
          | true => rfl
          | false => exact (hn ⟨j, hj, e⟩).elim
        have hlow : ∃ j, (j < k ∧ listed.getD j true = false) ∧ ∀ j', j' < j → listed.getD j' true = true := by
          obtain ⟨j, hj⟩ := hex
          have : ∀ n j, j ≤ n → j < k ∧ listed.getD j true = false → ∃ j, (j < k ∧ listed.getD j true = false) ∧ ∀ j', j' < j → listed.getD j' true = true := by
            intro n
            induction n with
            | zero => intro j hn hj; exact ⟨j, hj, fun j' h => by omega⟩
            | succ n ihn =>
              intro j hn hj
              by_cases hh : ∃ j', j' < j ∧ listed.getD j' true = false
              · obtain ⟨j', h1, h2⟩ := hh
                exact ihn j' (by omega) ⟨by omega, h2⟩
              · exact ⟨j, hj, fun j' h => by
                  cases e : listed.getD j' true with
                  | true => rfl
                  | false => exact (hh ⟨j', h, e⟩).elim⟩
          exact this j j (Nat.le_refl _) hj
        obtain ⟨j0, ⟨hj0, hun⟩, hlo⟩ := hlow
        have hrd : j0 ∈ Region.ready .any l.toArray listed := by
          obtain ⟨o, d, ho, -, -, -, -, he, -⟩ := one j0 hj0
          refine ready_iff.2 ⟨by omega, hun, o, ho, fun e hm hb => ?_⟩
          have h1 := he e hm hb
          have h2 := hlo e.on h1
          simp only [Array.getD_eq_getD_getElem?] at *
          rw [Array.getElem?_eq_getElem (by omega)] at h2 ⊢
          simpa using h2
        refine ⟨fun h0 => (by rw [h0] at hrd; cases hrd), fun i hi => ?_⟩
        obtain ⟨hil, hiu, o, ho, haf⟩ := ready_iff.1 hi
        have hik : i < k := by
          rcases Nat.lt_or_ge i k with h | h
          · exact h
          · have := hT i (List.mem_range.2 hil)
            rw [ho] at this
            simp only [Bool.or_eq_true, decide_eq_true_eq, Bool.and_eq_true] at this
            rcases this with h' | ⟨h', _⟩
            · exact h'
            · split at h'
              · have := List.all_eq_true.1 h' j0 (List.mem_range.2 hj0)
                have := listed_of (dep_listed haf this)
                rw [hun] at this; cases this
              · have := listed_of (dep_listed haf h')
                rw [htl (i - 1) (by omega) (by omega)] at this; cases this
        obtain ⟨o', d, ho', hd, hdsz, hu, hlook, hedge, hsel⟩ := one i hik
        rw [ho] at ho'
        cases ho'
        -- the operation reads the same in the frame with all values laid
        have same : ∀ t ∈ o.looksAt l.toArray, a.tmps[t]? = (ov a0 (l.take k) 0 x).tmps[t]? := fun t ht => by
          by_cases h : ∃ j, j < k ∧ dstOf l j = some t
          · obtain ⟨j, hj, hjd⟩ := h
            have hl := listed_of (dep_listed haf (hlook t ht j hj hjd))
            rw [M.at_ j t hj hl hjd, ovat x j t hj hjd]
          · have h' : ∀ j, j < k → dstOf l j ≠ some t := fun j hj hjd => h ⟨j, hj, hjd⟩
            rw [M.get t (fun j hj _ => h' j hj), ovget x t h']
        have hexec : execOp a.eval o = execOp (ov a0 (l.take k) 0 x).eval o := execOp_congr o hsel fun y hy => by
          cases y with
          | tmp t =>
            have := same t (List.mem_append_left _ (List.mem_filterMap.2 ⟨.tmp t, by simpa using hy, rfl⟩))
            simp only [Act.eval]
            simp [this]
          | _ => rfl
        have hwant : Region.wanted o (yielded l.toArray a.tmps) = Region.wanted o (yielded l.toArray (ov a0 (l.take k) 0 x).tmps) := by
          unfold Region.wanted
          cases hg : o.guard with
          | none => rfl
          | some gw =>
            obtain ⟨g, want⟩ := gw
            have hy : yielded l.toArray a.tmps g = yielded l.toArray (ov a0 (l.take k) 0 x).tmps g := by
              unfold yielded
              cases ht : (l.toArray[g]?).bind (·.dst) with
              | none => rfl
              | some t =>
                have := same t (by simp only [Oper.looksAt, hg, ht]; simp)
                simp only [Option.bind_some, this]
            simp only [hy]
        have hgd : ∀ j, j < i → dep o j = true → G j s' (x j) := fun j hj hdj => M.g j (by omega) (listed_of (dep_listed haf hdj))
        -- what follows
        have go : ∀ v s'' w'', Sub s' s'' → Holds E s'' L w'' → G i s'' v → wpAny P .any l.toArray Q fuel (listed.setIfInBounds i true) (a.put o.dst v) w'' := by
          intro v s'' w'' hs hH hv
          have hset : ∀ j, (listed.setIfInBounds i true).getD j true = true ↔ (j = i ∨ listed.getD j true = true) := fun j => by
            simp only [Array.getD_eq_getD_getElem?, Array.getElem?_setIfInBounds]
            by_cases e : i = j
            · subst e; simp [hsz, hil]
            · rw [if_neg e]; constructor
              · exact .inr
              · rintro (h | h)
                · exact (e h.symm).elim
                · exact h
          refine ih (listed.setIfInBounds i true) (a.put o.dst v) w'' s'' (fun j => if j = i then v else x j) (by simpa using hsz) (fun j hj hjl => ?_) ?_ ⟨M.sub.trans hs, hH, ?_, ?_, ?_, ?_, ?_⟩
          · cases e : (listed.setIfInBounds i true).getD j true with
            | false => rfl
            | true =>
              rcases (hset j).1 e with h | h
              · omega
              · rw [htl j hj hjl] at h; cases h
          · have hlt : (List.range k).countP (fun j => !(listed.setIfInBounds i true).getD j true) < (List.range k).countP (fun j => !listed.getD j true) := by
              refine countP_lt (fun j _ hq => ?_) ⟨i, List.mem_range.2 hik, by simp [hiu], by simp [(hset i).2 (.inl rfl)]⟩
              cases e : listed.getD j true with
              | false => rfl
              | true => rw [(hset j).2 (.inr e)] at hq; simp at hq
            omega
          · intro j hj hl
            show G j s'' (if j = i then v else x j)
            by_cases e : j = i
            · subst e; rw [if_pos rfl]; exact hv
            · rw [if_neg e]
              rcases (hset j).1 hl with h | h
              · exact (e h).elim
              · exact hmono j hj _ _ _ hs (M.g j hj h)
          · rw [hd]; simpa [Act.put] using M.size
          · rw [hd]; simpa [Act.put] using M.defers
          · intro t ht
            have hti : d ≠ t := fun e => ht i hik ((hset i).2 (.inl rfl)) (by unfold dstOf; rw [ho]; simp only [Option.bind_some]; rw [hd, e])
            rw [hd]
            simp only [Act.put]
            rw [Array.getElem?_setIfInBounds_ne hti]
            exact M.get t fun j hj hl => ht j hj ((hset j).2 (.inr hl))
          · intro j d' hj hl hjd
            show (a.put o.dst v).tmps[d']? = some (if j = i then v else x j)
            rw [hd]
            simp only [Act.put]
            by_cases e : j = i
            · subst e
              have : d' = d := by unfold dstOf at hjd; rw [ho] at hjd; simp only [Option.bind_some] at hjd; rw [hd] at hjd; exact (Option.some.inj hjd).symm
              subst this
              rw [if_pos rfl]
              simp [M.size, hdsz]
            · rw [if_neg e]
              have hne : d ≠ d' := fun ee => hu j hj e (by rw [ee]; exact hjd)
              rw [Array.getElem?_setIfInBounds_ne hne]
              rcases (hset j).1 hl with h | h
              · exact (e h).elim
              · exact M.at_ j d' hj h hjd
        unfold wpOp
        simp only [List.getElem?_toArray, ho]
        have hh := hop i o hik ho s' w x (fun v w'' => wpAny P .any l.toArray Q fuel (listed.setIfInBounds i true) (a.put o.dst v) w'') M.sub M.H hgd go
        rw [← hwant] at hh
        split
        · rename_i hw
          rw [if_pos hw] at hh
          refine .inl (OpG.wp ?_)
          unfold OpG at hh ⊢
          rw [hexec]; exact hh
        · rename_i hw
          rw [if_neg hw] at hh
          exact hh
  refine wp_region_any hm ?_
  have H1 := H.drew
  have hget : ∀ j, (Array.replicate l.length false).getD j true = true → ¬ j < l.length := fun j h hj => by
    simp [Array.getD_eq_getD_getElem?, hj] at h
  refine main _ _ a0 _ s (fun _ => undef) (by simp) (fun j _ hj => by
    cases e : (Array.replicate l.toArray.size false).getD j true with
    | false => rfl
    | true => exact (hget j (by simpa using e) hj).elim) ?_ ⟨Sub.refl s, H1, fun j hj hl => (hget j (by simpa using hl) (by omega)).elim, rfl, rfl, fun _ _ => rfl, fun j d hj hl => (hget j (by simpa using hl) (by omega)).elim⟩
  have := List.countP_le_length (l := List.range k) (p := fun j => !(Array.replicate l.toArray.size false).getD j true)
  simp only [List.length_range] at this
  simp only [List.size_toArray] at *
  omega
end
end Go.Proofs.YtemdmpgekegfhaaDoor
