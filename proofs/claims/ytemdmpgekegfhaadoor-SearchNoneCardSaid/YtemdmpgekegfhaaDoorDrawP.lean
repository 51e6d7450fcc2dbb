/- A region that draws its order, in which several operations change memory, in whatever order the draw lets them come; the others tell the same whenever they come. -/
import Derived.Test.YtemdmpgekegfhaaDoorDrawC
namespace Go.Proofs.YtemdmpgekegfhaaDoor
open Go.RowKit
set_option linter.all false
set_option maxRecDepth 10000

def updB (D : Nat → Bool) (c : Nat) : Nat → Bool := fun i => if i = c then true else D i
section
variable {P : Program} {l : List Oper} {Q : Exit → Act → World → Prop}
structure MidP (l : List Oper) (k : Nat) (C : List Nat) (a0 : Act) (St : (Nat → Bool) → World → (Nat → Value) → Prop) (V : Nat → Value) (listed : Array Bool) (a : Act) (w : World) (D : Nat → Bool) (x : Nat → Value) : Prop where
  st : St D w x
  fl : ∀ i, i < k → i ∉ C → x i = V i
  ch : ∀ c, c ∈ C → listed.getD c true = D c
  size : a.tmps.size = a0.tmps.size
  defers : a.defers = a0.defers
  get : ∀ t, (∀ i, i < k → listed.getD i true = true → dstOf l i ≠ some t) → a.tmps[t]? = a0.tmps[t]?
  at_ : ∀ i d, i < k → listed.getD i true = true → dstOf l i = some d → a.tmps[d]? = some (x i)

theorem wp_drawP {id k : Nat} {a0 : Act} {w : World} (hm : P.follows .mixedOrders = true) (hk : k ≤ l.length) (hpre : preOkS l k a0.tmps.size = true) (htail : tailOk l k = true) (C : List Nat) (hC : C.all (fun c => decide (c < k)) = true)
    (V : Nat → Value) (St : (Nat → Bool) → World → (Nat → Value) → Prop) (h0 : St (fun _ => false) w.drew (fun i => if i ∈ C then undef else V i))
    (hfl : ∀ i o, i < k → i ∉ C → l[i]? = some o → ∀ (D : Nat → Bool) (w' : World) (x : Nat → Value), St D w' x → (∀ i, i < k → i ∉ C → x i = V i) → ∀ Φ : Value → World → Prop, Φ (V i) w' → Want P l.toArray o (ov a0 (l.take k) 0 x) w' Φ)
    (hch : ∀ c o, c ∈ C → l[c]? = some o → ∀ (D : Nat → Bool) (w' : World) (x : Nat → Value), D c = false → (∀ c' ∈ C, dep o c' = true → D c' = true) → St D w' x → (∀ i, i < k → i ∉ C → x i = V i) → ∀ Φ : Value → World → Prop, (∀ v w'', St (updB D c) w'' (updV x c v) → Φ v w'') → Want P l.toArray o (ov a0 (l.take k) 0 x) w' Φ)
    (hfin : ∀ (D : Nat → Bool) (w' : World) (x : Nat → Value), (∀ c ∈ C, D c = true) → St D w' x → (∀ i, i < k → i ∉ C → x i = V i) → wpList P l.toArray Q (l.drop k) (ov a0 (l.take k) 0 x) w') :
    (Code.region id l.toArray true).wp P Q a0 w := by
  have hP := List.all_eq_true.1 hpre
  have hT := List.all_eq_true.1 htail
  have hClt : ∀ c, c ∈ C → c < k := fun c hc => by simpa using List.all_eq_true.1 hC c hc
  have one : ∀ i, i < k → ∃ o, l[i]? = some o ∧ (∀ d, o.dst = some d → d < a0.tmps.size ∧ (∀ j, j < k → j ≠ i → dstOf l j ≠ some d)) ∧ (∀ t ∈ o.looksAt l.toArray, ∀ j, j < k → dstOf l j = some t → dep o j = true) ∧
      (∀ e ∈ o.after, Region.binds .any e = true → e.on < i) ∧ (∀ cs b, o.op ≠ .select cs b) := by
    intro i hi
    have := hP i (List.mem_range.2 hi)
    cases ho : l[i]? with
    | none => rw [ho] at this; cases this
    | some o =>
      rw [ho] at this
      simp only [Bool.and_eq_true] at this
      obtain ⟨⟨⟨h1, h2⟩, h3⟩, h4⟩ := this
      refine ⟨o, rfl, fun d hd => ?_, fun t ht j hj e => ?_, fun e he hb => ?_, fun cs b e => by rw [e] at h4; cases h4⟩
      · rw [hd] at h1
        simp only [Bool.and_eq_true, decide_eq_true_eq, List.all_eq_true, List.mem_range] at h1
        refine ⟨h1.1, fun j hj hji e => ?_⟩
        have := h1.2 j hj
        simp [hji, e] at this
      · have := List.all_eq_true.1 h2 t ht
        have := List.all_eq_true.1 this j (List.mem_range.2 hj)
        simpa [e] using this
      · have := List.all_eq_true.1 h3 e (Array.mem_toList_iff.2 he)
        simpa [hb] using this
  have take_get : ∀ j, j < k → (l.take k)[j]? = l[j]? := fun j hj => by rw [List.getElem?_take, if_pos hj]
  have take_len : (l.take k).length = k := by rw [List.length_take, Nat.min_eq_left hk]
  have ovget : ∀ x t, (∀ j, j < k → dstOf l j ≠ some t) → (ov a0 (l.take k) 0 x).tmps[t]? = a0.tmps[t]? := fun x t h =>
    ov_get _ _ _ _ _ fun j hj => by rw [take_len] at hj; rw [take_get j hj]; exact h j hj
  have ovat : ∀ x j d, j < k → dstOf l j = some d → (ov a0 (l.take k) 0 x).tmps[d]? = some (x j) := fun x j d hj hd => by
    obtain ⟨o, ho, hdd, -⟩ := one j hj
    have hd' : o.dst = some d := by unfold dstOf at hd; rw [ho] at hd; simpa using hd
    obtain ⟨hsz, hu⟩ := hdd d hd'
    have := ov_at (l.take k) a0 0 x j d (by rw [take_len]; exact hj) (by rw [take_get j hj]; exact hd) hsz (fun j' h1 h2 => by rw [take_len] at h1; rw [take_get j' h1]; exact hu j' h1 h2)
    rw [this]; congr 2; omega
  -- all have come up
  have fin : ∀ (fuel : Nat) (listed : Array Bool) (a : Act) (w : World) (j : Nat → Bool) (x : Nat → Value), listed.size = l.length → (∀ j, k ≤ j → j < l.length → listed.getD j true = false) → l.length - k ≤ fuel → MidP l k C a0 St V listed a w j x →
      (∀ i, i < k → listed.getD i true = true) → wpAny P .any l.toArray Q fuel listed a w := by
    intro fuel listed a w j x hsz htl hf M hall
    have hD : ∀ c ∈ C, j c = true := fun c hc => by rw [← M.ch c hc]; exact hall c (hClt c hc)
    have ha : a = ov a0 (l.take k) 0 x := act_ext (fun t => by
      by_cases ht : ∃ j, j < k ∧ dstOf l j = some t
      · obtain ⟨j, hj, hd⟩ := ht
        rw [ovat x j t hj hd, M.at_ j t hj (hall j hj) hd]
      · have ht' : ∀ j, j < k → dstOf l j ≠ some t := fun j hj hd => ht ⟨j, hj, hd⟩
        rw [ovget x t ht', M.get t (fun j hj _ => ht' j hj)]) (by rw [M.defers, (ov_size _ _ _ _).2])
    refine tail_lex htail fuel k listed a w (Nat.le_refl _) hk (by omega) hsz (fun j hj => ?_) ?_
    · by_cases hjk : j < k
      · rw [hall j hjk]; simp [hjk]
      · rw [htl j (by omega) hj]; simp [hjk]
    · rw [ha]; exact hfin j w x hD M.st M.fl
  have main : ∀ (fuel : Nat) (listed : Array Bool) (a : Act) (w : World) (j : Nat → Bool) (x : Nat → Value), listed.size = l.length → (∀ j, k ≤ j → j < l.length → listed.getD j true = false) →
      (List.range k).countP (fun j => !listed.getD j true) + (l.length - k) ≤ fuel → MidP l k C a0 St V listed a w j x → wpAny P .any l.toArray Q fuel listed a w := by
    intro fuel
    induction fuel with
    | zero =>
      intro listed a w j x hsz htl hc M
      have hall : ∀ j, j < k → listed.getD j true = true := fun j hj => by
        have : (List.range k).countP (fun j => !listed.getD j true) = 0 := by omega
        have := List.countP_eq_zero.1 this j (List.mem_range.2 hj)
        simpa using this
      exact fin 0 listed a w j x hsz htl (by omega) M hall
    | succ fuel ih =>
      intro listed a w j x hsz htl hc M
      by_cases hall : ∀ j, j < k → listed.getD j true = true
      · exact fin _ listed a w j x hsz htl (by omega) M hall
      · have hex : ∃ j, j < k ∧ listed.getD j true = false := Classical.byContradiction fun hn => hall fun j hj => by
          cases e : listed.getD j true with
          | true => rfl
          | false => exact (hn ⟨j, hj, e⟩).elim
        have hlow : ∃ j, (j < k ∧ listed.getD j true = false) ∧ ∀ j', j' < j → listed.getD j' true = true := by
          obtain ⟨j, hj⟩ := hex
          have : ∀ n j, j ≤ n → j < k ∧ listed.getD j true = false → ∃ j, (j < k ∧ listed.getD j true = false) ∧ ∀ j', j' < j → listed.getD j' true = true := by
            intro n
            induction n with
            | zero => intro j hn hj; exact ⟨j, hj, fun j' h => by omega⟩
            | succ n ihn =>
              intro j hn hj
              by_cases hh : ∃ j', j' < j ∧ listed.getD j' true = false
              · obtain ⟨j', h1, h2⟩ := hh
                exact ihn j' (by omega) ⟨by omega, h2⟩
              · exact ⟨j, hj, fun j' h => by
                  cases e : listed.getD j' true with
                  | true => rfl
                  | false => exact (hh ⟨j', h, e⟩).elim⟩
          exact this j j (Nat.le_refl _) hj
        obtain ⟨j0, ⟨hj0, hun⟩, hlo⟩ := hlow
        have hrd : j0 ∈ Region.ready .any l.toArray listed := by
          obtain ⟨o, ho, -, -, he, -⟩ := one j0 hj0
          refine ready_iff.2 ⟨by omega, hun, o, ho, fun e hm hb => ?_⟩
          have h1 := he e hm hb
          have h2 := hlo e.on h1
          simp only [Array.getD_eq_getD_getElem?] at *
          rw [Array.getElem?_eq_getElem (by omega)] at h2 ⊢
          simpa using h2
        refine ⟨fun h0 => (by rw [h0] at hrd; cases hrd), fun i hi => ?_⟩
        obtain ⟨hil, hiu, o, ho, haf⟩ := ready_iff.1 hi
        have hik : i < k := by
          rcases Nat.lt_or_ge i k with h | h
          · exact h
          · have := hT i (List.mem_range.2 hil)
            rw [ho] at this
            simp only [Bool.or_eq_true, decide_eq_true_eq, Bool.and_eq_true] at this
            rcases this with h' | ⟨h', _⟩
            · exact h'
            · split at h'
              · have := List.all_eq_true.1 h' j0 (List.mem_range.2 hj0)
                have := listed_of (dep_listed haf this)
                rw [hun] at this; cases this
              · have := listed_of (dep_listed haf h')
                rw [htl (i - 1) (by omega) (by omega)] at this; cases this
        obtain ⟨o', ho', hdd, hlook, hedge, hsel⟩ := one i hik
        rw [ho] at ho'
        cases ho'
        have same : ∀ t ∈ o.looksAt l.toArray, a.tmps[t]? = (ov a0 (l.take k) 0 x).tmps[t]? := fun t ht => by
          by_cases h : ∃ j, j < k ∧ dstOf l j = some t
          · obtain ⟨j, hj, hjd⟩ := h
            have hl := listed_of (dep_listed haf (hlook t ht j hj hjd))
            rw [M.at_ j t hj hl hjd, ovat x j t hj hjd]
          · have h' : ∀ j, j < k → dstOf l j ≠ some t := fun j hj hjd => h ⟨j, hj, hjd⟩
            rw [M.get t (fun j hj _ => h' j hj), ovget x t h']
        have hexec : execOp a.eval o = execOp (ov a0 (l.take k) 0 x).eval o := execOp_congr o hsel fun y hy => by
          cases y with
          | tmp t =>
            have := same t (List.mem_append_left _ (List.mem_filterMap.2 ⟨.tmp t, by simpa using hy, rfl⟩))
            simp only [Act.eval]
            simp [this]
          | _ => rfl
        have hwant : Region.wanted o (yielded l.toArray a.tmps) = Region.wanted o (yielded l.toArray (ov a0 (l.take k) 0 x).tmps) := by
          unfold Region.wanted
          cases hg : o.guard with
          | none => rfl
          | some gw =>
            obtain ⟨g, want⟩ := gw
            have hy : yielded l.toArray a.tmps g = yielded l.toArray (ov a0 (l.take k) 0 x).tmps g := by
              unfold yielded
              cases ht : (l.toArray[g]?).bind (·.dst) with
              | none => rfl
              | some t =>
                have := same t (by simp only [Oper.looksAt, hg, ht]; simp)
                simp only [Option.bind_some, this]
            simp only [hy]
        have hset : ∀ j, (listed.setIfInBounds i true).getD j true = true ↔ (j = i ∨ listed.getD j true = true) := fun j => by
          simp only [Array.getD_eq_getD_getElem?, Array.getElem?_setIfInBounds]
          by_cases e : i = j
          · subst e; simp [hsz, hil]
          · rw [if_neg e]; constructor
            · exact .inr
            · rintro (h | h)
              · exact (e h.symm).elim
              · exact h
        -- what follows an operation
        have go : ∀ v w'' j' x', MidP l k C a0 St V (listed.setIfInBounds i true) (a.put o.dst v) w'' j' x' → wpAny P .any l.toArray Q fuel (listed.setIfInBounds i true) (a.put o.dst v) w'' := by
          intro v w'' j' x' M'
          refine ih (listed.setIfInBounds i true) (a.put o.dst v) w'' j' x' (by simpa using hsz) (fun j hj hjl => ?_) ?_ M'
          · cases e : (listed.setIfInBounds i true).getD j true with
            | false => rfl
            | true =>
              rcases (hset j).1 e with h | h
              · omega
              · rw [htl j hj hjl] at h; cases h
          · have hlt : (List.range k).countP (fun j => !(listed.setIfInBounds i true).getD j true) < (List.range k).countP (fun j => !listed.getD j true) := by
              refine countP_lt (fun j _ hq => ?_) ⟨i, List.mem_range.2 hik, by simp [hiu], by simp [(hset i).2 (.inl rfl)]⟩
              cases e : listed.getD j true with
              | false => rfl
              | true => rw [(hset j).2 (.inr e)] at hq; simp at hq
            omega
        have frame : ∀ (v : Value) (x' : Nat → Value), x' i = v → (∀ q, q ≠ i → listed.getD q true = true → q < k → x' q = x q) →
            ((a.put o.dst v).tmps.size = a0.tmps.size ∧ (a.put o.dst v).defers = a0.defers ∧ (∀ t, (∀ i', i' < k → (listed.setIfInBounds i true).getD i' true = true → dstOf l i' ≠ some t) → (a.put o.dst v).tmps[t]? = a0.tmps[t]?) ∧
              ∀ i' d, i' < k → (listed.setIfInBounds i true).getD i' true = true → dstOf l i' = some d → (a.put o.dst v).tmps[d]? = some (x' i')) := by
          intro v x' hxi hxq
          refine ⟨?_, ?_, ?_, ?_⟩
          · cases hd : o.dst with
            | none => simpa [Act.put] using M.size
            | some d => simpa [Act.put] using M.size
          · cases hd : o.dst with
            | none => simpa [Act.put] using M.defers
            | some d => simpa [Act.put] using M.defers
          · intro t ht
            have hold := M.get t fun j hj hl => ht j hj ((hset j).2 (.inr hl))
            cases hd : o.dst with
            | none => simpa [Act.put] using hold
            | some d =>
              have hti : d ≠ t := fun e => ht i hik ((hset i).2 (.inl rfl)) (by unfold dstOf; rw [ho]; simp only [Option.bind_some]; rw [hd, e])
              simp only [Act.put]
              rw [Array.getElem?_setIfInBounds_ne hti]
              exact hold
          · intro j d' hj hl hjd
            by_cases e : j = i
            · subst e
              have hd : o.dst = some d' := by unfold dstOf at hjd; rw [ho] at hjd; simpa using hjd
              obtain ⟨hdsz, -⟩ := hdd d' hd
              rw [hd, hxi]
              simp [Act.put, M.size, hdsz]
            · rcases (hset j).1 hl with h | h
              · exact (e h).elim
              · have hold := M.at_ j d' hj h hjd
                rw [hxq j e h hj]
                cases hd : o.dst with
                | none => simpa [Act.put] using hold
                | some d =>
                  obtain ⟨-, hu⟩ := hdd d hd
                  have hne : d ≠ d' := fun ee => hu j hj e (by rw [ee]; exact hjd)
                  simp only [Act.put]
                  rw [Array.getElem?_setIfInBounds_ne hne]
                  exact hold
        unfold wpOp
        simp only [List.getElem?_toArray, ho]
        have close : ∀ Ψ : Value → World → Prop, (∀ v w'', Ψ v w'' → wpAny P .any l.toArray Q fuel (listed.setIfInBounds i true) (a.put o.dst v) w'') → Want P l.toArray o (ov a0 (l.take k) 0 x) w Ψ →
            (if Region.wanted o (yielded l.toArray a.tmps) = true then (o.wp P a w (fun a' w' => wpAny P .any l.toArray Q fuel (listed.setIfInBounds i true) a' w') Q ∨ (o.asks P a w ∧ LetsOut Q)) else wpAny P .any l.toArray Q fuel (listed.setIfInBounds i true) (a.put o.dst undef) w) := by
          intro Ψ hΨ hh
          unfold Want at hh
          rw [← hwant] at hh
          split
          · rename_i hw
            rw [if_pos hw] at hh
            refine .inl (OpG.wp ?_)
            unfold OpG at hh ⊢
            rw [hexec]
            exact OpG.mono' (P := P) (o := o) (a := ov a0 (l.take k) 0 x) (w := w) hh hΨ
          · rename_i hw
            rw [if_neg hw] at hh
            exact hΨ _ _ hh
        by_cases hic : i ∈ C
        · have hci : j i = false := by rw [← M.ch i hic]; exact hiu
          refine close (fun v w'' => St (updB j i) w'' (updV x i v)) (fun v w'' hst => ?_) (hch i o hic ho j w x hci (fun c' hc' hd => by rw [← M.ch c' hc']; exact listed_of (dep_listed haf hd)) M.st M.fl _ (fun v w'' h => h))
          obtain ⟨f1, f2, f3, f4⟩ := frame v (updV x i v) (by simp [updV]) (fun q' hne _ _ => by simp [updV, hne])
          refine go v w'' (updB j i) (updV x i v) ⟨hst, fun i' hi' hn => ?_, fun c hc => ?_, f1, f2, f3, f4⟩
          · have : i' ≠ i := fun e => hn (by rw [e]; exact hic)
            simp [updV, this, M.fl i' hi' hn]
          · unfold updB
            by_cases e : c = i
            · rw [if_pos e]; exact (hset c).2 (.inl e)
            · rw [if_neg e, ← M.ch c hc]
              cases e2 : listed.getD c true with
              | true => exact (hset c).2 (.inr e2)
              | false =>
                cases e3 : (listed.setIfInBounds i true).getD c true with
                | false => rfl
                | true => rcases (hset c).1 e3 with h | h
                          · exact (e h).elim
                          · rw [e2] at h; cases h
        · refine close (fun v w'' => v = V i ∧ w'' = w) (fun v w'' hst => ?_) (hfl i o hik hic ho j w x M.st M.fl _ ⟨rfl, rfl⟩)
          obtain ⟨rfl, rfl⟩ := hst
          obtain ⟨f1, f2, f3, f4⟩ := frame (V i) x (M.fl i hik hic) (fun _ _ _ _ => rfl)
          refine go (V i) w'' j x ⟨M.st, M.fl, fun c hc => ?_, f1, f2, f3, f4⟩
          have hne : c ≠ i := fun e => hic (by rw [← e]; exact hc)
          rw [← M.ch c hc]
          cases e2 : listed.getD c true with
          | true => exact (hset c).2 (.inr e2)
          | false =>
            cases e3 : (listed.setIfInBounds i true).getD c true with
            | false => rfl
            | true => rcases (hset c).1 e3 with h | h
                      · exact (hne h).elim
                      · rw [e2] at h; cases h
  refine wp_region_any hm ?_
  have hget : ∀ j, (Array.replicate l.length false).getD j true = true → ¬ j < l.length := fun j h hj => by
    simp [Array.getD_eq_getD_getElem?, hj] at h
  refine main _ _ a0 _ (fun _ => false) (fun i => if i ∈ C then undef else V i) (by simp) (fun j _ hj => by
    cases e : (Array.replicate l.toArray.size false).getD j true with
    | false => rfl
    | true => exact (hget j (by simpa using e) hj).elim) ?_ ⟨h0, fun i _ hn => by simp [hn], fun c hc => (by
      cases e : (Array.replicate l.toArray.size false).getD c true with
      | false => rfl
      | true => exact (hget c (by simpa using e) (by have := hClt c hc; omega)).elim), rfl, rfl, fun _ _ => rfl, fun i d hi hl => (hget i (by simpa using hl) (by omega)).elim⟩
  have := List.countP_le_length (l := List.range k) (p := fun j => !(Array.replicate l.toArray.size false).getD j true)
  simp only [List.length_range] at this
  simp only [List.size_toArray] at *
  omega

/-- Ms: which of the operations C have come, state by state; TR: state, operation (its place in C), state behind it. -/
def chkP (l : List Oper) (k : Nat) (C : List Nat) (Ms : List (List Bool)) (TR : List (Nat × Nat × Nat)) : Bool :=
  C.all (fun c => decide (c < k)) && decide C.Nodup && (Ms[0]? == some (List.replicate C.length false)) &&
  ((List.range Ms.length).all fun q => (Ms[q]? != some (List.replicate C.length true)) || decide (q + 1 = Ms.length)) &&
  ((List.range Ms.length).all fun q => (List.range C.length).all fun j => match Ms[q]?, C[j]? with
    | some m, some c => m.getD j true || ((List.range C.length).any fun j' => (match l[c]?, C[j']? with | some o, some c' => dep o c' | _, _ => false) && !(m.getD j' false)) ||
        TR.any fun t => t.1 == q && t.2.1 == j && Ms[t.2.2]? == some (m.set j true)
    | _, _ => false)
def ChP (P : Program) (ops : Array Oper) (A : (Nat → Value) → Act) (pre : List Oper) (C : List Nat) (Vs : List Value) (k : Nat) (Ss : List (World → (Nat → Value) → Prop)) : List (Nat × Nat × Nat) → Prop
  | t :: TR => (∀ c o S0 S1, C[t.2.1]? = some c → pre[c]? = some o → Ss[t.1]? = some S0 → Ss[t.2.2]? = some S1 → ∀ (w' : World) (x : Nat → Value) (Φ : Value → World → Prop), S0 w' x → (∀ i, i < k → i ∉ C → x i = Vs.getD i undef) → (∀ v w'', S1 w'' (updV x c v) → Φ v w'') → Want P ops o (A x) w' Φ) ∧ ChP P ops A pre C Vs k Ss TR
  | [] => True
theorem chP_at {ops : Array Oper} {A : (Nat → Value) → Act} {pre : List Oper} {C : List Nat} {Vs : List Value} {k : Nat} {Ss : List (World → (Nat → Value) → Prop)} : ∀ {TR : List (Nat × Nat × Nat)}, ChP P ops A pre C Vs k Ss TR → ∀ t ∈ TR,
    ∀ c o S0 S1, C[t.2.1]? = some c → pre[c]? = some o → Ss[t.1]? = some S0 → Ss[t.2.2]? = some S1 → ∀ (w' : World) (x : Nat → Value) (Φ : Value → World → Prop), S0 w' x → (∀ i, i < k → i ∉ C → x i = Vs.getD i undef) → (∀ v w'', S1 w'' (updV x c v) → Φ v w'') → Want P ops o (A x) w' Φ
  | [], _, t, h => by cases h
  | t' :: TR, ⟨h1, h2⟩, t, h => by
    rcases List.mem_cons.1 h with e | h
    · rw [e]; exact h1
    · exact chP_at h2 t h
theorem wp_draw_P {id k sz : Nat} {pre tail : List Oper} {A : (Nat → Value) → Act} {a0 : Act} {w : World} {E : World} {s : SH} {LL : List HP} (C : List Nat) (Ms : List (List Bool)) (TR : List (Nat × Nat × Nat)) (Vs : List Value) (PL : List HP) (Ss : List (World → (Nat → Value) → Prop))
    (hm : P.follows .mixedOrders = true) (hk : k ≤ l.length) (hsz : a0.tmps.size = sz) (hpre : preOkS l k sz = true) (htail : tailOk l k = true) (hC : chkP l k C Ms TR = true) (hV : ∀ c ∈ C, Vs.getD c undef = undef) (hS : Ss.length + 1 = Ms.length)
    (H : Holds E s LL w) (e1 : l.take k = pre) (e2 : l.drop k = tail) (eA : ∀ x, ov a0 pre 0 x = A x)
    (hinv : InvL E s PL ((fun w _ => Holds E s LL w) :: Ss))
    (hfl : FlL P l.toArray A E s PL C Vs k pre 0)
    (hch : ChP P l.toArray A pre C Vs k ((fun w _ => Holds E s LL w) :: Ss) TR)
    (hfin : ∀ (w' : World) (x : Nat → Value), (((fun w _ => Holds E s LL w) :: Ss).getLast (by simp)) w' x → (∀ i, i < k → i ∉ C → x i = Vs.getD i undef) → wpList P l.toArray Q tail (A x) w') :
    (Code.region id l.toArray true).wp P Q a0 w := by
  have hpl : pre.length = k := by rw [← e1, List.length_take, Nat.min_eq_left hk]
  have pget : ∀ i o, i < k → l[i]? = some o → pre[i]? = some o := fun i o hi ho => (congrArg (·[i]?) e1.symm).trans (by rw [List.getElem?_take, if_pos hi]; exact ho)
  unfold chkP at hC
  simp only [Bool.and_eq_true, decide_eq_true_eq] at hC
  obtain ⟨⟨⟨⟨hC1, hnd⟩, hM0⟩, hML⟩, hTR⟩ := hC
  have hM0 : Ms[0]? = some (List.replicate C.length false) := by simpa using hM0
  have hclt : ∀ c ∈ C, c < k := fun c hc => by simpa using List.all_eq_true.1 hC1 c hc
  let S0 : World → (Nat → Value) → Prop := fun w _ => Holds E s LL w
  let St : (Nat → Bool) → World → (Nat → Value) → Prop := fun D w x => ∃ q : Nat, ∃ S : World → (Nat → Value) → Prop, Ms[q]? = some (C.map D) ∧ (S0 :: Ss)[q]? = some S ∧ S w x
  have hinj : ∀ i j c, C[i]? = some c → C[j]? = some c → i = j := fun i j c h1 h2 => by
    obtain ⟨a1, a2⟩ := List.getElem?_eq_some_iff.1 h1
    obtain ⟨b1, b2⟩ := List.getElem?_eq_some_iff.1 h2
    exact (List.getElem_inj (h₀ := a1) (h₁ := b1) hnd).1 (a2.trans b2.symm)
  refine wp_drawP hm hk (by rw [hsz]; exact hpre) htail C hC1 (fun i => Vs.getD i undef) St ⟨0, S0, ?_, rfl, Holds.drew H⟩ (fun i o hi hic ho D w' x hst hx Φ hΦ => ?_) (fun c o hc ho D w' x hDc hdep hst hx Φ hΦ => ?_) (fun D w' x hD hst hx => ?_)
  · rw [hM0]
    congr 1
    apply List.ext_getElem <;> simp
  · obtain ⟨q, S, hq, hS0, h⟩ := hst
    obtain ⟨s', R, hs, H'⟩ := invL_at hinv q S hS0 w' x h
    rw [e1, eA]
    rcases flL_at hfl i o (pget i o hi ho) with hc | hc
    · rw [Nat.zero_add] at hc; exact (hic hc).elim
    · rw [Nat.zero_add] at hc; exact hc s' R w' x Φ hs H' hx hΦ
  · obtain ⟨q, S, hq, hS0, h⟩ := hst
    obtain ⟨j, hj⟩ := List.getElem?_of_mem hc
    have hjl : j < C.length := (List.getElem?_eq_some_iff.1 hj).1
    have hqM : q < Ms.length := (List.getElem?_eq_some_iff.1 hq).1
    have h1 := List.all_eq_true.1 (List.all_eq_true.1 hTR q (List.mem_range.2 hqM)) j (List.mem_range.2 hjl)
    rw [hq, hj] at h1
    simp only [Bool.or_eq_true] at h1
    have hmj : (C.map D).getD j true = false := by rw [List.getD_eq_getElem?_getD, List.getElem?_map, hj]; exact hDc
    have hno : ((List.range C.length).any fun j' => (match l[c]?, C[j']? with | some o, some c' => dep o c' | _, _ => false) && !((C.map D).getD j' false)) = false := by
      rw [Bool.eq_false_iff]
      intro hh
      obtain ⟨j', hj', hh⟩ := List.any_eq_true.1 hh
      have hj'l := List.mem_range.1 hj'
      have hcj : C[j']? = some C[j'] := List.getElem?_eq_getElem hj'l
      rw [ho, hcj, Bool.and_eq_true] at hh
      have hd := hdep C[j'] (List.getElem_mem hj'l) hh.1
      have := hh.2
      rw [List.getD_eq_getElem?_getD, List.getElem?_map, hcj] at this
      simp [hd] at this
    rcases h1 with (h1 | h1) | h1
    · rw [hmj] at h1; cases h1
    · rw [hno] at h1; cases h1
    · obtain ⟨t, ht, h2⟩ := List.any_eq_true.1 h1
      simp only [Bool.and_eq_true, beq_iff_eq] at h2
      obtain ⟨⟨hq1, hj1⟩, hM⟩ := h2
      have hlt : t.2.2 < (S0 :: Ss).length := by
        have := (List.getElem?_eq_some_iff.1 hM).1
        simp only [List.length_cons]; omega
      rw [e1, eA]
      refine chP_at hch t ht c o S (S0 :: Ss)[t.2.2] (by rw [hj1]; exact hj) (pget c o (hclt c hc) ho) (by rw [hq1]; exact hS0) (List.getElem?_eq_getElem hlt) w' x Φ h hx fun v w'' hh => hΦ v w'' ⟨t.2.2, _, ?_, List.getElem?_eq_getElem hlt, hh⟩
      rw [hM]
      congr 1
      apply List.ext_getElem?
      intro m
      rw [List.getElem?_set, List.getElem?_map, List.getElem?_map]
      by_cases e : j = m
      · subst e
        rw [if_pos rfl, hj, if_pos (by simpa using hjl)]
        simp [updB]
      · rw [if_neg e]
        cases hm2 : C[m]? with
        | none => rfl
        | some c2 =>
          have hne : c2 ≠ c := fun e2 => e (hinj j m c hj (by rw [hm2, e2]))
          simp [updB, hne]
  · obtain ⟨q, S, hq, hS0, h⟩ := hst
    rw [e1, e2, eA]
    have hqM : q < Ms.length := (List.getElem?_eq_some_iff.1 hq).1
    have h1 := List.all_eq_true.1 hML q (List.mem_range.2 hqM)
    have hall : C.map D = List.replicate C.length true := by
      apply List.ext_getElem
      · simp
      · intro i h1 h2
        rw [List.getElem_map, List.getElem_replicate]
        exact hD _ (List.getElem_mem _)
    rw [hq, hall] at h1
    simp at h1
    refine hfin w' x ?_ hx
    have e : (S0 :: Ss)[q]? = some ((S0 :: Ss).getLast (by simp)) := by
      rw [List.getLast_eq_getElem, List.getElem?_eq_getElem (by simp; omega)]
      congr 2; simp; omega
    rw [e] at hS0
    cases hS0
    exact h
end
end Go.Proofs.YtemdmpgekegfhaaDoor
