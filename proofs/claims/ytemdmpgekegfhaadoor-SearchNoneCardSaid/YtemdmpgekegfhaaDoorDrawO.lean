/- A region that draws its order, where an operation may hand memory that it owns to a later one. -/
import Derived.Test.YtemdmpgekegfhaaDoorOb
namespace Go.Proofs.YtemdmpgekegfhaaDoor
open Go.RowKit
set_option linter.all false
set_option maxRecDepth 10000

theorem fm_congr {α β : Type} {f g : α → List β} {l : List α} (h : ∀ x ∈ l, f x = g x) : l.flatMap f = l.flatMap g := by
  rw [List.flatMap_def, List.flatMap_def, List.map_congr_left h]
theorem fm_perm {α β : Type} (f g : α → List β) : ∀ l : List α, (l.flatMap fun j => f j ++ g j).Perm (l.flatMap f ++ l.flatMap g)
  | [] => by simp
  | a :: l => by
    simp only [List.flatMap_cons]
    have h := fm_perm f g l
    have e1 : (f a ++ g a ++ l.flatMap fun j => f j ++ g j).Perm (f a ++ (g a ++ (l.flatMap f ++ l.flatMap g))) := by
      rw [List.append_assoc]; exact (h.append_left _).append_left _
    refine e1.trans ?_
    rw [List.append_assoc]
    refine List.Perm.append_left _ ?_
    rw [← List.append_assoc, ← List.append_assoc]
    exact List.Perm.append_right _ List.perm_append_comm
theorem fm_one {β : Type} (i k : Nat) (u : List β) (hi : i < k) : ((List.range k).flatMap fun j => if j = i then u else []) = u := by
  induction k with
  | zero => omega
  | succ k ih =>
    rw [List.range_succ, List.flatMap_append]
    by_cases e : i = k
    · subst e
      have : ((List.range i).flatMap fun j => if j = i then u else []) = [] := by
        rw [fm_congr (g := fun _ => []) (fun x hx => by rw [if_neg (by have := List.mem_range.1 hx; omega)])]
        simp
      rw [this]; simp
    · rw [ih (by omega)]
      have : k ≠ i := fun h => e h.symm
      simp [this]
def aliveP (k : Nat) (cn : Nat → Nat) (lst : Nat → Bool) (j : Nat) : Bool := lst j && !(decide (cn j < k) && lst (cn j))
def alive (k : Nat) (X : Nat → Value → List HP) (cn : Nat → Nat) (lst : Nat → Bool) (x : Nat → Value) : List HP := (List.range k).flatMap fun j => if aliveP k cn lst j = true then X j (x j) else []
def inpO (k : Nat) (X : Nat → Value → List HP) (cn : Nat → Nat) (i : Nat) (x : Nat → Value) : List HP := (List.range k).flatMap fun j => if cn j = i then X j (x j) else []
def restO (k : Nat) (X : Nat → Value → List HP) (cn : Nat → Nat) (lst : Nat → Bool) (i : Nat) (x : Nat → Value) : List HP := (List.range k).flatMap fun j => if (aliveP k cn lst j && !decide (cn j = i)) = true then X j (x j) else []
section
variable {k i : Nat} {X : Nat → Value → List HP} {cn : Nat → Nat} {lst lst' : Nat → Bool} {x : Nat → Value}
theorem alive_in (hi : i < k) (hl : lst i = false) (hd : ∀ j, j < k → cn j = i → lst j = true) : (alive k X cn lst x).Perm (inpO k X cn i x ++ restO k X cn lst i x) := by
  unfold alive inpO restO
  rw [fm_congr (g := fun j => (if cn j = i then X j (x j) else []) ++ (if (aliveP k cn lst j && !decide (cn j = i)) = true then X j (x j) else [])) (fun j hj => ?_)]
  · exact fm_perm _ _ _
  · have hjk := List.mem_range.1 hj
    by_cases e : cn j = i
    · have : aliveP k cn lst j = true := by unfold aliveP; rw [hd j hjk e, e, hl]; simp
      simp [this, e]
    · simp [e]
theorem alive_out (hi : i < k) (hl : lst i = false) (hci : cn i < k → lst (cn i) = false ∧ cn i ≠ i) (hlst : ∀ j, j < k → lst' j = (decide (j = i) || lst j)) (v : Value) :
    (alive k X cn lst' (fun j => if j = i then v else x j)).Perm (X i v ++ restO k X cn lst i x) := by
  unfold alive restO
  rw [fm_congr (g := fun j => (if j = i then X i v else []) ++ (if (aliveP k cn lst j && !decide (cn j = i)) = true then X j (x j) else [])) (fun j hj => ?_)]
  · refine (fm_perm _ _ _).trans ?_
    rw [fm_one i k _ hi]
  · have hjk := List.mem_range.1 hj
    by_cases e : j = i
    · subst e
      have h1 : aliveP k cn lst' j = true := by
        unfold aliveP
        rw [hlst j hjk]
        by_cases h : cn j < k
        · rw [hlst _ h, (hci h).1]
          have := (hci h).2
          simp [this]
        · simp [h]
      have h2 : aliveP k cn lst j = false := by unfold aliveP; rw [hl]; rfl
      simp [h1, h2]
    · have h1 : aliveP k cn lst' j = (aliveP k cn lst j && !decide (cn j = i)) := by
        unfold aliveP
        rw [hlst j hjk]
        by_cases h : cn j < k
        · rw [hlst _ h]
          by_cases h3 : cn j = i
          · subst h3
            simp [e, h]
          · simp [e, h, h3]
        · have h3 : cn j ≠ i := by omega
          simp [e, h, h3]
      rw [h1]
      simp [e]
theorem alive_none (h : ∀ j, j < k → lst j = false) : alive k X cn lst x = [] := by
  unfold alive
  rw [fm_congr (g := fun _ => []) (fun j hj => by rw [if_neg (by unfold aliveP; rw [h j (List.mem_range.1 hj)]; simp)])]
  simp
theorem alive_congr (h : ∀ j, j < k → lst j = lst' j) : alive k X cn lst x = alive k X cn lst' x := by
  unfold alive
  refine fm_congr fun j hj => ?_
  have hjk := List.mem_range.1 hj
  have : aliveP k cn lst j = aliveP k cn lst' j := by
    unfold aliveP
    rw [h j hjk]
    by_cases hc : cn j < k
    · rw [h _ hc]
    · simp [hc]
  rw [this]
end
/-- As preOk, but an operation may have no place of its own (a store). -/
def preOkS (l : List Oper) (k sz : Nat) : Bool :=
  (List.range k).all fun i => match l[i]? with
    | none => false
    | some o =>
      (match o.dst with
       | none => true
       | some d => decide (d < sz) && (List.range k).all fun j => j == i || dstOf l j != some d) &&
      (o.looksAt l.toArray).all (fun t => (List.range k).all fun j => dstOf l j != some t || dep o j) &&
      o.after.toList.all (fun e => !Region.binds .any e || decide (e.on < i)) &&
      (match o.op with | .select .. => false | _ => true)
/-- What is owned at the start and has not been taken over. -/
def initA (k : Nat) (ini : Nat → List HP) (lst : Nat → Bool) : List HP := (List.range k).flatMap fun i => if lst i = true then [] else ini i
def initR (k : Nat) (ini : Nat → List HP) (lst : Nat → Bool) (i : Nat) : List HP := (List.range k).flatMap fun j => if (lst j || decide (j = i)) = true then [] else ini j
theorem initA_in {k i : Nat} {ini : Nat → List HP} {lst : Nat → Bool} (hi : i < k) (hl : lst i = false) : (initA k ini lst).Perm (ini i ++ initR k ini lst i) := by
  unfold initA initR
  rw [fm_congr (g := fun j => (if j = i then ini i else []) ++ (if (lst j || decide (j = i)) = true then [] else ini j)) (fun j _ => ?_)]
  · refine (fm_perm _ _ _).trans ?_
    rw [fm_one i k _ hi]
  · by_cases e : j = i
    · subst e; simp [hl]
    · simp [e]
theorem initA_out {k i : Nat} {ini : Nat → List HP} {lst lst' : Nat → Bool} (hlst : ∀ j, j < k → lst' j = (decide (j = i) || lst j)) : initA k ini lst' = initR k ini lst i := by
  unfold initA initR
  refine fm_congr fun j hj => ?_
  rw [hlst j (List.mem_range.1 hj), Bool.or_comm]
theorem initA_all {k : Nat} {ini : Nat → List HP} {lst : Nat → Bool} (h : ∀ j, j < k → lst j = true) : initA k ini lst = [] := by
  unfold initA
  rw [fm_congr (g := fun _ => []) (fun j hj => by rw [if_pos (h j (List.mem_range.1 hj))])]
  simp
theorem initA_congr {k : Nat} {ini : Nat → List HP} {lst lst' : Nat → Bool} (h : ∀ j, j < k → lst j = lst' j) : initA k ini lst = initA k ini lst' := by
  unfold initA
  exact fm_congr fun j hj => by rw [h j (List.mem_range.1 hj)]
theorem permA (A B C D L : List HP) : ((A ++ B) ++ ((C ++ D) ++ L)).Perm (A ++ (C ++ (L ++ (B ++ D)))) := by
  simp only [List.append_assoc]
  refine List.Perm.append_left A ?_
  refine List.perm_append_comm.trans ?_
  simp only [List.append_assoc]
  refine List.Perm.append_left C ?_
  refine List.perm_append_comm.trans ?_
  simp only [List.append_assoc]
  exact List.Perm.refl _
theorem permB (A B D L : List HP) : (A ++ (L ++ (B ++ D))).Perm ((A ++ B) ++ (D ++ L)) := by
  simp only [List.append_assoc]
  refine List.Perm.append_left A ?_
  refine List.perm_append_comm.trans ?_
  simp only [List.append_assoc]
  exact List.Perm.refl _
section
variable {P : Program} {l : List Oper} {Q : Exit → Act → World → Prop}
/-- What is known in the midst of such a region. -/
structure MidO (l : List Oper) (k : Nat) (a0 : Act) (E : World) (s : SH) (L : List HP) (X : Nat → Value → List HP) (cn : Nat → Nat) (ini : Nat → List HP) (G : Nat → SH → Value → Prop) (listed : Array Bool) (a : Act) (w : World) (s' : SH) (x : Nat → Value) : Prop where
  sub : Sub s s'
  H : Holds E s' (alive k X cn (fun j => listed.getD j true) x ++ (initA k ini (fun j => listed.getD j true) ++ L)) w
  shut : ∀ j o j', j < k → listed.getD j true = true → l[j]? = some o → dep o j' = true → listed.getD j' true = true
  g : ∀ j, j < k → listed.getD j true = true → G j s' (x j)
  size : a.tmps.size = a0.tmps.size
  defers : a.defers = a0.defers
  get : ∀ t, (∀ j, j < k → listed.getD j true = true → dstOf l j ≠ some t) → a.tmps[t]? = a0.tmps[t]?
  at_ : ∀ j d, j < k → listed.getD j true = true → dstOf l j = some d → a.tmps[d]? = some (x j)

theorem wp_drawO {id k : Nat} {a0 : Act} {w : World} {E : World} {s : SH} {L : List HP} (hm : P.follows .mixedOrders = true) (hk : k ≤ l.length) (hpre : preOkS l k a0.tmps.size = true) (htail : tailOk l k = true)
    (X : Nat → Value → List HP) (cn : Nat → Nat) (ini : Nat → List HP) (H : Holds E s (initA k ini (fun _ => false) ++ L) w) (hcn : ∀ j, j < k → cn j < k → ∃ o, l[cn j]? = some o ∧ dep o j = true ∧ cn j ≠ j)
    (G : Nat → SH → Value → Prop) (hmono : ∀ i, i < k → ∀ s s' v, Sub s s' → G i s v → G i s' v)
    (hop : ∀ i o, i < k → l[i]? = some o → ∀ (s' : SH) (w' : World) (x : Nat → Value) (Φ : Value → World → Prop) (R : List HP), Sub s s' → Holds E s' (inpO k X cn i x ++ (ini i ++ (L ++ R))) w' → (∀ j, j < i → dep o j = true → G j s' (x j)) →
      (∀ v s'' w'', Sub s' s'' → Holds E s'' (X i v ++ (L ++ R)) w'' → G i s'' v → Φ v w'') →
      if Region.wanted o (yielded l.toArray (ov a0 (l.take k) 0 x).tmps) then OpG P o (ov a0 (l.take k) 0 x) w' Φ else Φ undef w')
    (hfin : ∀ (s' : SH) (w' : World) (x : Nat → Value), Sub s s' → Holds E s' (alive k X cn (fun j => decide (j < k)) x ++ L) w' → (∀ j, j < k → G j s' (x j)) → wpList P l.toArray Q (l.drop k) (ov a0 (l.take k) 0 x) w') :
    (Code.region id l.toArray true).wp P Q a0 w := by
  have hP := List.all_eq_true.1 hpre
  have hT := List.all_eq_true.1 htail
  -- what the check says of one operation
  have one : ∀ i, i < k → ∃ o, l[i]? = some o ∧ (∀ d, o.dst = some d → d < a0.tmps.size ∧ (∀ j, j < k → j ≠ i → dstOf l j ≠ some d)) ∧ (∀ t ∈ o.looksAt l.toArray, ∀ j, j < k → dstOf l j = some t → dep o j = true) ∧
      (∀ e ∈ o.after, Region.binds .any e = true → e.on < i) ∧ (∀ cs b, o.op ≠ .select cs b) := by
    intro i hi
    have := hP i (List.mem_range.2 hi)
    cases ho : l[i]? with
    | none => rw [ho] at this; cases this
    | some o =>
      rw [ho] at this
      simp only [Bool.and_eq_true] at this
      obtain ⟨⟨⟨h1, h2⟩, h3⟩, h4⟩ := this
      refine ⟨o, rfl, fun d hd => ?_, fun t ht j hj e => ?_, fun e he hb => ?_, fun cs b e => by rw [e] at h4; cases h4⟩
      · rw [hd] at h1
        simp only [Bool.and_eq_true, decide_eq_true_eq, List.all_eq_true, List.mem_range] at h1
        refine ⟨h1.1, fun j hj hji e => ?_⟩
        have := h1.2 j hj
        simp [hji, e] at this
      · have := List.all_eq_true.1 h2 t ht
        have := List.all_eq_true.1 this j (List.mem_range.2 hj)
        simpa [e] using this
      · have := List.all_eq_true.1 h3 e (Array.mem_toList_iff.2 he)
        simpa [hb] using this
  have take_get : ∀ j, j < k → (l.take k)[j]? = l[j]? := fun j hj => by rw [List.getElem?_take, if_pos hj]
  have take_len : (l.take k).length = k := by rw [List.length_take, Nat.min_eq_left hk]
  have ovget : ∀ x t, (∀ j, j < k → dstOf l j ≠ some t) → (ov a0 (l.take k) 0 x).tmps[t]? = a0.tmps[t]? := fun x t h =>
    ov_get _ _ _ _ _ fun j hj => by rw [take_len] at hj; rw [take_get j hj]; exact h j hj
  have ovat : ∀ x j d, j < k → dstOf l j = some d → (ov a0 (l.take k) 0 x).tmps[d]? = some (x j) := fun x j d hj hd => by
    obtain ⟨o, ho, hdd, -⟩ := one j hj
    have hd' : o.dst = some d := by unfold dstOf at hd; rw [ho] at hd; simpa using hd
    obtain ⟨hsz, hu⟩ := hdd d hd'
    have := ov_at (l.take k) a0 0 x j d (by rw [take_len]; exact hj) (by rw [take_get j hj]; exact hd) hsz (fun j' h1 h2 => by rw [take_len] at h1; rw [take_get j' h1]; exact hu j' h1 h2)
    rw [this]; congr 2; omega
  have main : ∀ (fuel : Nat) (listed : Array Bool) (a : Act) (w : World) (s' : SH) (x : Nat → Value), listed.size = l.length → (∀ j, k ≤ j → j < l.length → listed.getD j true = false) →
      (List.range k).countP (fun j => !listed.getD j true) + (l.length - k) ≤ fuel → MidO l k a0 E s L X cn ini G listed a w s' x → wpAny P .any l.toArray Q fuel listed a w := by
    intro fuel
    induction fuel with
    | zero =>
      intro listed a w s' x hsz htl hc M
      have hall : ∀ j, j < k → listed.getD j true = true := fun j hj => by
        have : (List.range k).countP (fun j => !listed.getD j true) = 0 := by omega
        have := List.countP_eq_zero.1 this j (List.mem_range.2 hj)
        simpa using this
      have ha : a = ov a0 (l.take k) 0 x := act_ext (fun t => by
        by_cases ht : ∃ j, j < k ∧ dstOf l j = some t
        · obtain ⟨j, hj, hd⟩ := ht
          rw [ovat x j t hj hd, M.at_ j t hj (hall j hj) hd]
        · have ht' : ∀ j, j < k → dstOf l j ≠ some t := fun j hj hd => ht ⟨j, hj, hd⟩
          rw [ovget x t ht', M.get t (fun j hj _ => ht' j hj)]) (by rw [M.defers, (ov_size _ _ _ _).2])
      have hkl : k = l.length := by omega
      refine tail_lex htail 0 k listed a w (Nat.le_refl _) hk (by omega) hsz (fun j hj => by rw [hall j (by omega)]; simp; omega) ?_
      rw [ha]
      exact hfin s' w x M.sub (by rw [← alive_congr (lst := fun j => listed.getD j true) (fun j hj => by simp [hall j hj, hj])]; have h := M.H; rw [initA_all hall, List.nil_append] at h; exact h) fun j hj => M.g j hj (hall j hj)
    | succ fuel ih =>
      intro listed a w s' x hsz htl hc M
      by_cases hall : ∀ j, j < k → listed.getD j true = true
      · have ha : a = ov a0 (l.take k) 0 x := act_ext (fun t => by
          by_cases ht : ∃ j, j < k ∧ dstOf l j = some t
          · obtain ⟨j, hj, hd⟩ := ht
            rw [ovat x j t hj hd, M.at_ j t hj (hall j hj) hd]
          · have ht' : ∀ j, j < k → dstOf l j ≠ some t := fun j hj hd => ht ⟨j, hj, hd⟩
            rw [ovget x t ht', M.get t (fun j hj _ => ht' j hj)]) (by rw [M.defers, (ov_size _ _ _ _).2])
        have hz : (List.range k).countP (fun j => !listed.getD j true) = 0 := List.countP_eq_zero.2 fun j hj => by simp [hall j (List.mem_range.1 hj)]
        refine tail_lex htail (fuel + 1) k listed a w (Nat.le_refl _) hk (by omega) hsz (fun j hj => ?_) ?_
        · by_cases hjk : j < k
          · rw [hall j hjk]; simp [hjk]
          · rw [htl j (by omega) hj]; simp [hjk]
        · rw [ha]
          exact hfin s' w x M.sub (by rw [← alive_congr (lst := fun j => listed.getD j true) (fun j hj => by simp [hall j hj, hj])]; have h := M.H; rw [initA_all hall, List.nil_append] at h; exact h) fun j hj => M.g j hj (hall j hj)
      · -- some operation of the first part has not come up: the lowest one is ready
        have hex : ∃ j, j < k ∧ listed.getD j true = false := Classical.byContradiction fun hn => hall fun j hj => by
          cases e : listed.getD j true with
          | true => rfl
          | false => exact (hn ⟨j, hj, e⟩).elim
        have hlow : ∃ j, (j < k ∧ listed.getD j true = false) ∧ ∀ j', j' < j → listed.getD j' true = true := by
          obtain ⟨j, hj⟩ := hex
          have : ∀ n j, j ≤ n → j < k ∧ listed.getD j true = false → ∃ j, (j < k ∧ listed.getD j true = false) ∧ ∀ j', j' < j → listed.getD j' true = true := by
            intro n
            induction n with
            | zero => intro j hn hj; exact ⟨j, hj, fun j' h => by omega⟩
            | succ n ihn =>
              intro j hn hj
              by_cases hh : ∃ j', j' < j ∧ listed.getD j' true = false
              · obtain ⟨j', h1, h2⟩ := hh
                exact ihn j' (by omega) ⟨by omega, h2⟩
              · exact ⟨j, hj, fun j' h => by
                  cases e : listed.getD j' true with
                  | true => rfl
                  | false => exact (hh ⟨j', h, e⟩).elim⟩
          exact this j j (Nat.le_refl _) hj
        obtain ⟨j0, ⟨hj0, hun⟩, hlo⟩ := hlow
        have hrd : j0 ∈ Region.ready .any l.toArray listed := by
          obtain ⟨o, ho, -, -, he, -⟩ := one j0 hj0
          refine ready_iff.2 ⟨by omega, hun, o, ho, fun e hm hb => ?_⟩
          have h1 := he e hm hb
          have h2 := hlo e.on h1
          simp only [Array.getD_eq_getD_getElem?] at *
          rw [Array.getElem?_eq_getElem (by omega)] at h2 ⊢
          simpa using h2
        refine ⟨fun h0 => (by rw [h0] at hrd; cases hrd), fun i hi => ?_⟩
        obtain ⟨hil, hiu, o, ho, haf⟩ := ready_iff.1 hi
        have hik : i < k := by
          rcases Nat.lt_or_ge i k with h | h
          · exact h
          · have := hT i (List.mem_range.2 hil)
            rw [ho] at this
            simp only [Bool.or_eq_true, decide_eq_true_eq, Bool.and_eq_true] at this
            rcases this with h' | ⟨h', _⟩
            · exact h'
            · split at h'
              · have := List.all_eq_true.1 h' j0 (List.mem_range.2 hj0)
                have := listed_of (dep_listed haf this)
                rw [hun] at this; cases this
              · have := listed_of (dep_listed haf h')
                rw [htl (i - 1) (by omega) (by omega)] at this; cases this
        obtain ⟨o', ho', hdd, hlook, hedge, hsel⟩ := one i hik
        rw [ho] at ho'
        cases ho'
        -- the operation reads the same in the frame with all values laid
        have same : ∀ t ∈ o.looksAt l.toArray, a.tmps[t]? = (ov a0 (l.take k) 0 x).tmps[t]? := fun t ht => by
          by_cases h : ∃ j, j < k ∧ dstOf l j = some t
          · obtain ⟨j, hj, hjd⟩ := h
            have hl := listed_of (dep_listed haf (hlook t ht j hj hjd))
            rw [M.at_ j t hj hl hjd, ovat x j t hj hjd]
          · have h' : ∀ j, j < k → dstOf l j ≠ some t := fun j hj hjd => h ⟨j, hj, hjd⟩
            rw [M.get t (fun j hj _ => h' j hj), ovget x t h']
        have hexec : execOp a.eval o = execOp (ov a0 (l.take k) 0 x).eval o := execOp_congr o hsel fun y hy => by
          cases y with
          | tmp t =>
            have := same t (List.mem_append_left _ (List.mem_filterMap.2 ⟨.tmp t, by simpa using hy, rfl⟩))
            simp only [Act.eval]
            simp [this]
          | _ => rfl
        have hwant : Region.wanted o (yielded l.toArray a.tmps) = Region.wanted o (yielded l.toArray (ov a0 (l.take k) 0 x).tmps) := by
          unfold Region.wanted
          cases hg : o.guard with
          | none => rfl
          | some gw =>
            obtain ⟨g, want⟩ := gw
            have hy : yielded l.toArray a.tmps g = yielded l.toArray (ov a0 (l.take k) 0 x).tmps g := by
              unfold yielded
              cases ht : (l.toArray[g]?).bind (·.dst) with
              | none => rfl
              | some t =>
                have := same t (by simp only [Oper.looksAt, hg, ht]; simp)
                simp only [Option.bind_some, this]
            simp only [hy]
        have hgd : ∀ j, j < i → dep o j = true → G j s' (x j) := fun j hj hdj => M.g j (by omega) (listed_of (dep_listed haf hdj))
        -- what follows
        have hin : ∀ j, j < k → cn j = i → listed.getD j true = true := fun j hj hc => by
          obtain ⟨o2, h1, h2, -⟩ := hcn j hj (by rw [hc]; exact hik)
          rw [hc, ho] at h1
          cases h1
          exact listed_of (dep_listed haf h2)
        have hou : cn i < k → listed.getD (cn i) true = false ∧ cn i ≠ i := fun hc => by
          obtain ⟨o2, h1, h2, h3⟩ := hcn i hik hc
          refine ⟨?_, h3⟩
          cases e : listed.getD (cn i) true with
          | false => rfl
          | true =>
            have := M.shut (cn i) o2 i hc e h1 h2
            rw [hiu] at this; cases this
        have HIN2 : Holds E s' (inpO k X cn i x ++ (ini i ++ (L ++ (restO k X cn (fun j => listed.getD j true) i x ++ initR k ini (fun j => listed.getD j true) i)))) w := M.H.perm
          (((alive_in (lst := fun j => listed.getD j true) hik hiu hin).append ((initA_in (ini := ini) (lst := fun j => listed.getD j true) hik hiu).append_right L)).trans (permA _ _ _ _ _))
        have go : ∀ v s'' w'', Sub s' s'' → Holds E s'' (X i v ++ (L ++ (restO k X cn (fun j => listed.getD j true) i x ++ initR k ini (fun j => listed.getD j true) i))) w'' → G i s'' v → wpAny P .any l.toArray Q fuel (listed.setIfInBounds i true) (a.put o.dst v) w'' := by
          intro v s'' w'' hs hH hv
          have hset : ∀ j, (listed.setIfInBounds i true).getD j true = true ↔ (j = i ∨ listed.getD j true = true) := fun j => by
            simp only [Array.getD_eq_getD_getElem?, Array.getElem?_setIfInBounds]
            by_cases e : i = j
            · subst e; simp [hsz, hil]
            · rw [if_neg e]; constructor
              · exact .inr
              · rintro (h | h)
                · exact (e h.symm).elim
                · exact h
          refine ih (listed.setIfInBounds i true) (a.put o.dst v) w'' s'' (fun j => if j = i then v else x j) (by simpa using hsz) (fun j hj hjl => ?_) ?_ ⟨M.sub.trans hs, hH.perm ?_, ?_, ?_, ?_, ?_, ?_, ?_⟩
          · cases e : (listed.setIfInBounds i true).getD j true with
            | false => rfl
            | true =>
              rcases (hset j).1 e with h | h
              · omega
              · rw [htl j hj hjl] at h; cases h
          · have hlt : (List.range k).countP (fun j => !(listed.setIfInBounds i true).getD j true) < (List.range k).countP (fun j => !listed.getD j true) := by
              refine countP_lt (fun j _ hq => ?_) ⟨i, List.mem_range.2 hik, by simp [hiu], by simp [(hset i).2 (.inl rfl)]⟩
              cases e : listed.getD j true with
              | false => rfl
              | true => rw [(hset j).2 (.inr e)] at hq; simp at hq
            omega
          · have hls : ∀ j, j < k → (listed.setIfInBounds i true).getD j true = (decide (j = i) || listed.getD j true) := fun j hj => by
              rw [Bool.eq_iff_iff, hset j]; simp
            have hp := alive_out (X := X) (cn := cn) (x := x) (lst := fun j => listed.getD j true) (lst' := fun j => (listed.setIfInBounds i true).getD j true) hik hiu hou hls v
            rw [initA_out (lst := fun j => listed.getD j true) hls]
            exact (permB _ _ _ _).trans ((hp.symm).append_right _)
          · intro j o2 j' hj hl ho2 hd2
            rcases (hset j).1 hl with h | h
            · subst h
              rw [ho] at ho2
              cases ho2
              exact (hset j').2 (.inr (listed_of (dep_listed haf hd2)))
            · exact (hset j').2 (.inr (M.shut j o2 j' hj h ho2 hd2))
          · intro j hj hl
            show G j s'' (if j = i then v else x j)
            by_cases e : j = i
            · subst e; rw [if_pos rfl]; exact hv
            · rw [if_neg e]
              rcases (hset j).1 hl with h | h
              · exact (e h).elim
              · exact hmono j hj _ _ _ hs (M.g j hj h)
          · cases hd : o.dst with
            | none => simpa [Act.put] using M.size
            | some d => simpa [Act.put] using M.size
          · cases hd : o.dst with
            | none => simpa [Act.put] using M.defers
            | some d => simpa [Act.put] using M.defers
          · intro t ht
            have hold := M.get t fun j hj hl => ht j hj ((hset j).2 (.inr hl))
            cases hd : o.dst with
            | none => simpa [Act.put] using hold
            | some d =>
              have hti : d ≠ t := fun e => ht i hik ((hset i).2 (.inl rfl)) (by unfold dstOf; rw [ho]; simp only [Option.bind_some]; rw [hd, e])
              simp only [Act.put]
              rw [Array.getElem?_setIfInBounds_ne hti]
              exact hold
          · intro j d' hj hl hjd
            show (a.put o.dst v).tmps[d']? = some (if j = i then v else x j)
            by_cases e : j = i
            · subst e
              have hd : o.dst = some d' := by unfold dstOf at hjd; rw [ho] at hjd; simpa using hjd
              obtain ⟨hdsz, -⟩ := hdd d' hd
              rw [hd, if_pos rfl]
              simp [Act.put, M.size, hdsz]
            · rw [if_neg e]
              have hold := (hset j).1 hl
              rcases hold with h | h
              · exact (e h).elim
              · have hold := M.at_ j d' hj h hjd
                cases hd : o.dst with
                | none => simpa [Act.put] using hold
                | some d =>
                  obtain ⟨-, hu⟩ := hdd d hd
                  have hne : d ≠ d' := fun ee => hu j hj e (by rw [ee]; exact hjd)
                  simp only [Act.put]
                  rw [Array.getElem?_setIfInBounds_ne hne]
                  exact hold
        unfold wpOp
        simp only [List.getElem?_toArray, ho]
        have hh := hop i o hik ho s' w x (fun v w'' => wpAny P .any l.toArray Q fuel (listed.setIfInBounds i true) (a.put o.dst v) w'') _ M.sub HIN2 hgd go
        rw [← hwant] at hh
        split
        · rename_i hw
          rw [if_pos hw] at hh
          refine .inl (OpG.wp ?_)
          unfold OpG at hh ⊢
          rw [hexec]; exact hh
        · rename_i hw
          rw [if_neg hw] at hh
          exact hh
  refine wp_region_any hm ?_
  have H1 := H.drew
  have hget : ∀ j, (Array.replicate l.length false).getD j true = true → ¬ j < l.length := fun j h hj => by
    simp [Array.getD_eq_getD_getElem?, hj] at h
  refine main _ _ a0 _ s (fun _ => undef) (by simp) (fun j _ hj => by
    cases e : (Array.replicate l.toArray.size false).getD j true with
    | false => rfl
    | true => exact (hget j (by simpa using e) hj).elim) ?_ ⟨Sub.refl s, by rw [initA_congr (lst' := fun _ => false) (fun j hj => by cases e : (Array.replicate l.toArray.size false).getD j true with | false => rfl | true => exact (hget j (by simpa using e) (by omega)).elim), alive_none (fun j hj => by cases e : (Array.replicate l.toArray.size false).getD j true with | false => rfl | true => exact (hget j (by simpa using e) (by omega)).elim)]; exact H1, fun j o j' hj hl => (hget j (by simpa using hl) (by omega)).elim, fun j hj hl => (hget j (by simpa using hl) (by omega)).elim, rfl, rfl, fun _ _ => rfl, fun j d hj hl => (hget j (by simpa using hl) (by omega)).elim⟩
  have := List.countP_le_length (l := List.range k) (p := fun j => !(Array.replicate l.toArray.size false).getD j true)
  simp only [List.length_range] at this
  simp only [List.size_toArray] at *
  omega
end
end Go.Proofs.YtemdmpgekegfhaaDoor
