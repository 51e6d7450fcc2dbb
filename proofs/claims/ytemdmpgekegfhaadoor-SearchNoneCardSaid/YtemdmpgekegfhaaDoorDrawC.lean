/- A region that draws its order, in which some operations form a chain (each waits for the one ahead), and the others tell the same whenever they come. -/
import Derived.Test.YtemdmpgekegfhaaDoorFx
namespace Go.Proofs.YtemdmpgekegfhaaDoor
open Go.RowKit
set_option linter.all false
set_option maxRecDepth 10000

def chainOk (l : List Oper) (k : Nat) (C : List Nat) : Bool :=
  C.all (fun c => decide (c < k)) && (List.range C.length).all fun j => (match C[j + 1]?, C[j]? with
    | some c', some c => (match l[c']? with | some o => dep o c | none => false)
    | _, _ => true) && (List.range C.length).all fun i => decide (i = j) || (C[i]? != C[j]?)
def updV (x : Nat → Value) (c : Nat) (v : Value) : Nat → Value := fun i => if i = c then v else x i
section
variable {P : Program} {l : List Oper} {Q : Exit → Act → World → Prop}
structure MidC (l : List Oper) (k : Nat) (C : List Nat) (a0 : Act) (St : Nat → World → (Nat → Value) → Prop) (V : Nat → Value) (listed : Array Bool) (a : Act) (w : World) (j : Nat) (x : Nat → Value) : Prop where
  st : St j w x
  le : j ≤ C.length
  fl : ∀ i, i < k → i ∉ C → x i = V i
  ch : ∀ i c, C[i]? = some c → (listed.getD c true = true ↔ i < j)
  size : a.tmps.size = a0.tmps.size
  defers : a.defers = a0.defers
  get : ∀ t, (∀ i, i < k → listed.getD i true = true → dstOf l i ≠ some t) → a.tmps[t]? = a0.tmps[t]?
  at_ : ∀ i d, i < k → listed.getD i true = true → dstOf l i = some d → a.tmps[d]? = some (x i)

theorem wp_drawC {id k : Nat} {a0 : Act} {w : World} (hm : P.follows .mixedOrders = true) (hk : k ≤ l.length) (hpre : preOkS l k a0.tmps.size = true) (htail : tailOk l k = true) (C : List Nat) (hC : chainOk l k C = true)
    (V : Nat → Value) (St : Nat → World → (Nat → Value) → Prop) (hdr : ∀ w x, St 0 w x → St 0 w.drew x) (h0 : St 0 w (fun i => if i ∈ C then undef else V i))
    (hfl : ∀ i o, i < k → i ∉ C → l[i]? = some o → ∀ (j : Nat) (w' : World) (x : Nat → Value), St j w' x → (∀ i, i < k → i ∉ C → x i = V i) → ∀ Φ : Value → World → Prop, Φ (V i) w' → Want P l.toArray o (ov a0 (l.take k) 0 x) w' Φ)
    (hch : ∀ j c o, C[j]? = some c → l[c]? = some o → ∀ (w' : World) (x : Nat → Value), St j w' x → (∀ i, i < k → i ∉ C → x i = V i) → ∀ Φ : Value → World → Prop, (∀ v w'', St (j + 1) w'' (updV x c v) → Φ v w'') → Want P l.toArray o (ov a0 (l.take k) 0 x) w' Φ)
    (hfin : ∀ (w' : World) (x : Nat → Value), St C.length w' x → (∀ i, i < k → i ∉ C → x i = V i) → wpList P l.toArray Q (l.drop k) (ov a0 (l.take k) 0 x) w') :
    (Code.region id l.toArray true).wp P Q a0 w := by
  have hP := List.all_eq_true.1 hpre
  have hT := List.all_eq_true.1 htail
  unfold chainOk at hC
  rw [Bool.and_eq_true, List.all_eq_true, List.all_eq_true] at hC
  obtain ⟨hC1, hC2⟩ := hC
  have hClt : ∀ j c, C[j]? = some c → c < k := fun j c hj => by simpa using hC1 c (List.mem_of_getElem? hj)
  have hCdep : ∀ j c c' o, C[j]? = some c → C[j + 1]? = some c' → l[c']? = some o → dep o c = true := fun j c c' o h1 h2 h3 => by
    have := hC2 j (List.mem_range.2 (List.getElem?_eq_some_iff.1 h1).1)
    rw [Bool.and_eq_true] at this
    have := this.1
    rw [h1, h2] at this
    simp only [h3] at this
    exact this
  have hCinj : ∀ i j c, C[i]? = some c → C[j]? = some c → i = j := fun i j c h1 h2 => by
    have := hC2 j (List.mem_range.2 (List.getElem?_eq_some_iff.1 h2).1)
    rw [Bool.and_eq_true, List.all_eq_true] at this
    have := this.2 i (List.mem_range.2 (List.getElem?_eq_some_iff.1 h1).1)
    rw [Bool.or_eq_true, decide_eq_true_eq] at this
    rcases this with h | h
    · exact h
    · rw [h1, h2] at h; simp at h
  have one : ∀ i, i < k → ∃ o, l[i]? = some o ∧ (∀ d, o.dst = some d → d < a0.tmps.size ∧ (∀ j, j < k → j ≠ i → dstOf l j ≠ some d)) ∧ (∀ t ∈ o.looksAt l.toArray, ∀ j, j < k → dstOf l j = some t → dep o j = true) ∧
      (∀ e ∈ o.after, Region.binds .any e = true → e.on < i) ∧ (∀ cs b, o.op ≠ .select cs b) := by
    intro i hi
    have := hP i (List.mem_range.2 hi)
    cases ho : l[i]? with
    | none => rw [ho] at this; cases this
    | some o =>
      rw [ho] at this
      simp only [Bool.and_eq_true] at this
      obtain ⟨⟨⟨h1, h2⟩, h3⟩, h4⟩ := this
      refine ⟨o, rfl, fun d hd => ?_, fun t ht j hj e => ?_, fun e he hb => ?_, fun cs b e => by rw [e] at h4; cases h4⟩
      · rw [hd] at h1
        simp only [Bool.and_eq_true, decide_eq_true_eq, List.all_eq_true, List.mem_range] at h1
        refine ⟨h1.1, fun j hj hji e => ?_⟩
        have := h1.2 j hj
        simp [hji, e] at this
      · have := List.all_eq_true.1 h2 t ht
        have := List.all_eq_true.1 this j (List.mem_range.2 hj)
        simpa [e] using this
      · have := List.all_eq_true.1 h3 e (Array.mem_toList_iff.2 he)
        simpa [hb] using this
  have take_get : ∀ j, j < k → (l.take k)[j]? = l[j]? := fun j hj => by rw [List.getElem?_take, if_pos hj]
  have take_len : (l.take k).length = k := by rw [List.length_take, Nat.min_eq_left hk]
  have ovget : ∀ x t, (∀ j, j < k → dstOf l j ≠ some t) → (ov a0 (l.take k) 0 x).tmps[t]? = a0.tmps[t]? := fun x t h =>
    ov_get _ _ _ _ _ fun j hj => by rw [take_len] at hj; rw [take_get j hj]; exact h j hj
  have ovat : ∀ x j d, j < k → dstOf l j = some d → (ov a0 (l.take k) 0 x).tmps[d]? = some (x j) := fun x j d hj hd => by
    obtain ⟨o, ho, hdd, -⟩ := one j hj
    have hd' : o.dst = some d := by unfold dstOf at hd; rw [ho] at hd; simpa using hd
    obtain ⟨hsz, hu⟩ := hdd d hd'
    have := ov_at (l.take k) a0 0 x j d (by rw [take_len]; exact hj) (by rw [take_get j hj]; exact hd) hsz (fun j' h1 h2 => by rw [take_len] at h1; rw [take_get j' h1]; exact hu j' h1 h2)
    rw [this]; congr 2; omega
  -- all have come up
  have fin : ∀ (fuel : Nat) (listed : Array Bool) (a : Act) (w : World) (j : Nat) (x : Nat → Value), listed.size = l.length → (∀ j, k ≤ j → j < l.length → listed.getD j true = false) → l.length - k ≤ fuel → MidC l k C a0 St V listed a w j x →
      (∀ i, i < k → listed.getD i true = true) → wpAny P .any l.toArray Q fuel listed a w := by
    intro fuel listed a w j x hsz htl hf M hall
    have hj : St C.length w x := by
      have h1 : ∀ i, i < C.length → i < j := fun i hi => (M.ch i C[i] (List.getElem?_eq_getElem hi)).1 (hall _ (hClt i _ (List.getElem?_eq_getElem hi)))
      have : j = C.length := by
        have := M.le
        rcases Nat.lt_or_ge j C.length with h2 | h2
        · have := h1 j h2; omega
        · omega
      rw [← this]; exact M.st
    have ha : a = ov a0 (l.take k) 0 x := act_ext (fun t => by
      by_cases ht : ∃ j, j < k ∧ dstOf l j = some t
      · obtain ⟨j, hj, hd⟩ := ht
        rw [ovat x j t hj hd, M.at_ j t hj (hall j hj) hd]
      · have ht' : ∀ j, j < k → dstOf l j ≠ some t := fun j hj hd => ht ⟨j, hj, hd⟩
        rw [ovget x t ht', M.get t (fun j hj _ => ht' j hj)]) (by rw [M.defers, (ov_size _ _ _ _).2])
    refine tail_lex htail fuel k listed a w (Nat.le_refl _) hk (by omega) hsz (fun j hj => ?_) ?_
    · by_cases hjk : j < k
      · rw [hall j hjk]; simp [hjk]
      · rw [htl j (by omega) hj]; simp [hjk]
    · rw [ha]; exact hfin w x hj M.fl
  have main : ∀ (fuel : Nat) (listed : Array Bool) (a : Act) (w : World) (j : Nat) (x : Nat → Value), listed.size = l.length → (∀ j, k ≤ j → j < l.length → listed.getD j true = false) →
      (List.range k).countP (fun j => !listed.getD j true) + (l.length - k) ≤ fuel → MidC l k C a0 St V listed a w j x → wpAny P .any l.toArray Q fuel listed a w := by
    intro fuel
    induction fuel with
    | zero =>
      intro listed a w j x hsz htl hc M
      have hall : ∀ j, j < k → listed.getD j true = true := fun j hj => by
        have : (List.range k).countP (fun j => !listed.getD j true) = 0 := by omega
        have := List.countP_eq_zero.1 this j (List.mem_range.2 hj)
        simpa using this
      exact fin 0 listed a w j x hsz htl (by omega) M hall
    | succ fuel ih =>
      intro listed a w j x hsz htl hc M
      by_cases hall : ∀ j, j < k → listed.getD j true = true
      · exact fin _ listed a w j x hsz htl (by omega) M hall
      · have hex : ∃ j, j < k ∧ listed.getD j true = false := Classical.byContradiction fun hn => hall fun j hj => by
          cases e : listed.getD j true with
          | true => rfl
          | false => exact (hn ⟨j, hj, e⟩).elim
        have hlow : ∃ j, (j < k ∧ listed.getD j true = false) ∧ ∀ j', j' < j → listed.getD j' true = true := by
          obtain ⟨j, hj⟩ := hex
          have : ∀ n j, j ≤ n → j < k ∧ listed.getD j true = false → ∃ j, (j < k ∧ listed.getD j true = false) ∧ ∀ j', j' < j → listed.getD j' true = true := by
            intro n
            induction n with
            | zero => intro j hn hj; exact ⟨j, hj, fun j' h => by omega⟩
            | succ n ihn =>
              intro j hn hj
              by_cases hh : ∃ j', j' < j ∧ listed.getD j' true = false
              · obtain ⟨j', h1, h2⟩ := hh
                exact ihn j' (by omega) ⟨by omega, h2⟩
              · exact ⟨j, hj, fun j' h => by
                  cases e : listed.getD j' true with
                  | true => rfl
                  | false => exact (hh ⟨j', h, e⟩).elim⟩
          exact this j j (Nat.le_refl _) hj
        obtain ⟨j0, ⟨hj0, hun⟩, hlo⟩ := hlow
        have hrd : j0 ∈ Region.ready .any l.toArray listed := by
          obtain ⟨o, ho, -, -, he, -⟩ := one j0 hj0
          refine ready_iff.2 ⟨by omega, hun, o, ho, fun e hm hb => ?_⟩
          have h1 := he e hm hb
          have h2 := hlo e.on h1
          simp only [Array.getD_eq_getD_getElem?] at *
          rw [Array.getElem?_eq_getElem (by omega)] at h2 ⊢
          simpa using h2
        refine ⟨fun h0 => (by rw [h0] at hrd; cases hrd), fun i hi => ?_⟩
        obtain ⟨hil, hiu, o, ho, haf⟩ := ready_iff.1 hi
        have hik : i < k := by
          rcases Nat.lt_or_ge i k with h | h
          · exact h
          · have := hT i (List.mem_range.2 hil)
            rw [ho] at this
            simp only [Bool.or_eq_true, decide_eq_true_eq, Bool.and_eq_true] at this
            rcases this with h' | ⟨h', _⟩
            · exact h'
            · split at h'
              · have := List.all_eq_true.1 h' j0 (List.mem_range.2 hj0)
                have := listed_of (dep_listed haf this)
                rw [hun] at this; cases this
              · have := listed_of (dep_listed haf h')
                rw [htl (i - 1) (by omega) (by omega)] at this; cases this
        obtain ⟨o', ho', hdd, hlook, hedge, hsel⟩ := one i hik
        rw [ho] at ho'
        cases ho'
        have same : ∀ t ∈ o.looksAt l.toArray, a.tmps[t]? = (ov a0 (l.take k) 0 x).tmps[t]? := fun t ht => by
          by_cases h : ∃ j, j < k ∧ dstOf l j = some t
          · obtain ⟨j, hj, hjd⟩ := h
            have hl := listed_of (dep_listed haf (hlook t ht j hj hjd))
            rw [M.at_ j t hj hl hjd, ovat x j t hj hjd]
          · have h' : ∀ j, j < k → dstOf l j ≠ some t := fun j hj hjd => h ⟨j, hj, hjd⟩
            rw [M.get t (fun j hj _ => h' j hj), ovget x t h']
        have hexec : execOp a.eval o = execOp (ov a0 (l.take k) 0 x).eval o := execOp_congr o hsel fun y hy => by
          cases y with
          | tmp t =>
            have := same t (List.mem_append_left _ (List.mem_filterMap.2 ⟨.tmp t, by simpa using hy, rfl⟩))
            simp only [Act.eval]
            simp [this]
          | _ => rfl
        have hwant : Region.wanted o (yielded l.toArray a.tmps) = Region.wanted o (yielded l.toArray (ov a0 (l.take k) 0 x).tmps) := by
          unfold Region.wanted
          cases hg : o.guard with
          | none => rfl
          | some gw =>
            obtain ⟨g, want⟩ := gw
            have hy : yielded l.toArray a.tmps g = yielded l.toArray (ov a0 (l.take k) 0 x).tmps g := by
              unfold yielded
              cases ht : (l.toArray[g]?).bind (·.dst) with
              | none => rfl
              | some t =>
                have := same t (by simp only [Oper.looksAt, hg, ht]; simp)
                simp only [Option.bind_some, this]
            simp only [hy]
        have hset : ∀ j, (listed.setIfInBounds i true).getD j true = true ↔ (j = i ∨ listed.getD j true = true) := fun j => by
          simp only [Array.getD_eq_getD_getElem?, Array.getElem?_setIfInBounds]
          by_cases e : i = j
          · subst e; simp [hsz, hil]
          · rw [if_neg e]; constructor
            · exact .inr
            · rintro (h | h)
              · exact (e h.symm).elim
              · exact h
        -- what follows an operation
        have go : ∀ v w'' j' x', MidC l k C a0 St V (listed.setIfInBounds i true) (a.put o.dst v) w'' j' x' → wpAny P .any l.toArray Q fuel (listed.setIfInBounds i true) (a.put o.dst v) w'' := by
          intro v w'' j' x' M'
          refine ih (listed.setIfInBounds i true) (a.put o.dst v) w'' j' x' (by simpa using hsz) (fun j hj hjl => ?_) ?_ M'
          · cases e : (listed.setIfInBounds i true).getD j true with
            | false => rfl
            | true =>
              rcases (hset j).1 e with h | h
              · omega
              · rw [htl j hj hjl] at h; cases h
          · have hlt : (List.range k).countP (fun j => !(listed.setIfInBounds i true).getD j true) < (List.range k).countP (fun j => !listed.getD j true) := by
              refine countP_lt (fun j _ hq => ?_) ⟨i, List.mem_range.2 hik, by simp [hiu], by simp [(hset i).2 (.inl rfl)]⟩
              cases e : listed.getD j true with
              | false => rfl
              | true => rw [(hset j).2 (.inr e)] at hq; simp at hq
            omega
        have frame : ∀ (v : Value) (x' : Nat → Value), x' i = v → (∀ q, q ≠ i → listed.getD q true = true → q < k → x' q = x q) →
            ((a.put o.dst v).tmps.size = a0.tmps.size ∧ (a.put o.dst v).defers = a0.defers ∧ (∀ t, (∀ i', i' < k → (listed.setIfInBounds i true).getD i' true = true → dstOf l i' ≠ some t) → (a.put o.dst v).tmps[t]? = a0.tmps[t]?) ∧
              ∀ i' d, i' < k → (listed.setIfInBounds i true).getD i' true = true → dstOf l i' = some d → (a.put o.dst v).tmps[d]? = some (x' i')) := by
          intro v x' hxi hxq
          refine ⟨?_, ?_, ?_, ?_⟩
          · cases hd : o.dst with
            | none => simpa [Act.put] using M.size
            | some d => simpa [Act.put] using M.size
          · cases hd : o.dst with
            | none => simpa [Act.put] using M.defers
            | some d => simpa [Act.put] using M.defers
          · intro t ht
            have hold := M.get t fun j hj hl => ht j hj ((hset j).2 (.inr hl))
            cases hd : o.dst with
            | none => simpa [Act.put] using hold
            | some d =>
              have hti : d ≠ t := fun e => ht i hik ((hset i).2 (.inl rfl)) (by unfold dstOf; rw [ho]; simp only [Option.bind_some]; rw [hd, e])
              simp only [Act.put]
              rw [Array.getElem?_setIfInBounds_ne hti]
              exact hold
          · intro j d' hj hl hjd
            by_cases e : j = i
            · subst e
              have hd : o.dst = some d' := by unfold dstOf at hjd; rw [ho] at hjd; simpa using hjd
              obtain ⟨hdsz, -⟩ := hdd d' hd
              rw [hd, hxi]
              simp [Act.put, M.size, hdsz]
            · rcases (hset j).1 hl with h | h
              · exact (e h).elim
              · have hold := M.at_ j d' hj h hjd
                rw [hxq j e h hj]
                cases hd : o.dst with
                | none => simpa [Act.put] using hold
                | some d =>
                  obtain ⟨-, hu⟩ := hdd d hd
                  have hne : d ≠ d' := fun ee => hu j hj e (by rw [ee]; exact hjd)
                  simp only [Act.put]
                  rw [Array.getElem?_setIfInBounds_ne hne]
                  exact hold
        unfold wpOp
        simp only [List.getElem?_toArray, ho]
        have close : ∀ Ψ : Value → World → Prop, (∀ v w'', Ψ v w'' → wpAny P .any l.toArray Q fuel (listed.setIfInBounds i true) (a.put o.dst v) w'') → Want P l.toArray o (ov a0 (l.take k) 0 x) w Ψ →
            (if Region.wanted o (yielded l.toArray a.tmps) = true then (o.wp P a w (fun a' w' => wpAny P .any l.toArray Q fuel (listed.setIfInBounds i true) a' w') Q ∨ (o.asks P a w ∧ LetsOut Q)) else wpAny P .any l.toArray Q fuel (listed.setIfInBounds i true) (a.put o.dst undef) w) := by
          intro Ψ hΨ hh
          unfold Want at hh
          rw [← hwant] at hh
          split
          · rename_i hw
            rw [if_pos hw] at hh
            refine .inl (OpG.wp ?_)
            unfold OpG at hh ⊢
            rw [hexec]
            exact OpG.mono' (P := P) (o := o) (a := ov a0 (l.take k) 0 x) (w := w) hh hΨ
          · rename_i hw
            rw [if_neg hw] at hh
            exact hΨ _ _ hh
        by_cases hic : i ∈ C
        · obtain ⟨q, hq⟩ := List.getElem?_of_mem hic
          -- it is the next one of the chain
          have hqj : q = j := by
            have h1 : ¬ q < j := fun h => by
              have := (M.ch q i hq).2 h
              rw [hiu] at this; cases this
            rcases Nat.lt_or_ge j q with h | h
            · have hq1 : q - 1 + 1 = q := by omega
              have hlt : q - 1 < C.length := by have := (List.getElem?_eq_some_iff.1 hq).1; omega
              have hd := hCdep (q - 1) C[q - 1] i o (List.getElem?_eq_getElem hlt) (by rw [hq1]; exact hq) ho
              have := listed_of (dep_listed haf hd)
              have := (M.ch (q - 1) C[q - 1] (List.getElem?_eq_getElem hlt)).1 this
              omega
            · omega
          subst hqj
          refine close (fun v w'' => St (q + 1) w'' (updV x i v)) (fun v w'' hst => ?_) (hch q i o hq ho w x M.st M.fl _ (fun v w'' h => h))
          obtain ⟨f1, f2, f3, f4⟩ := frame v (updV x i v) (by simp [updV]) (fun q' hne _ _ => by simp [updV, hne])
          refine go v w'' (q + 1) (updV x i v) ⟨hst, (List.getElem?_eq_some_iff.1 hq).1, fun i' hi' hn => ?_, fun i' c hi' => ?_, f1, f2, f3, f4⟩
          · have : i' ≠ i := fun e => hn (by rw [e]; exact hic)
            simp [updV, this, M.fl i' hi' hn]
          · rw [hset, M.ch i' c hi']
            constructor
            · rintro (h | h)
              · subst h; have := hCinj i' q c hi' hq; omega
              · omega
            · intro h
              by_cases e : i' = q
              · subst e; rw [hq] at hi'; exact .inl (Option.some.inj hi').symm
              · right; omega
        · refine close (fun v w'' => v = V i ∧ w'' = w) (fun v w'' hst => ?_) (hfl i o hik hic ho j w x M.st M.fl _ ⟨rfl, rfl⟩)
          obtain ⟨rfl, rfl⟩ := hst
          obtain ⟨f1, f2, f3, f4⟩ := frame (V i) x (M.fl i hik hic) (fun _ _ _ _ => rfl)
          refine go (V i) w'' j x ⟨M.st, M.le, M.fl, fun i' c hi' => ?_, f1, f2, f3, f4⟩
          rw [hset]
          have hne : c ≠ i := fun e => hic (by rw [← e]; exact List.mem_of_getElem? hi')
          constructor
          · rintro (h | h)
            · exact (hne h).elim
            · exact (M.ch i' c hi').1 h
          · intro h; exact .inr ((M.ch i' c hi').2 h)
  refine wp_region_any hm ?_
  have hget : ∀ j, (Array.replicate l.length false).getD j true = true → ¬ j < l.length := fun j h hj => by
    simp [Array.getD_eq_getD_getElem?, hj] at h
  refine main _ _ a0 _ 0 (fun i => if i ∈ C then undef else V i) (by simp) (fun j _ hj => by
    cases e : (Array.replicate l.toArray.size false).getD j true with
    | false => rfl
    | true => exact (hget j (by simpa using e) hj).elim) ?_ ⟨hdr _ _ h0, Nat.zero_le _, fun i _ hn => by simp [hn], fun i c hi => ⟨fun h => (hget c (by simpa using h) (by have := hClt i c hi; omega)).elim, fun h => by omega⟩, rfl, rfl, fun _ _ => rfl, fun i d hi hl => (hget i (by simpa using hl) (by omega)).elim⟩
  have := List.countP_le_length (l := List.range k) (p := fun j => !(Array.replicate l.toArray.size false).getD j true)
  simp only [List.length_range] at this
  simp only [List.size_toArray] at *
  omega
def FlL (P : Program) (ops : Array Oper) (A : (Nat → Value) → Act) (E : World) (s : SH) (PL : List HP) (C : List Nat) (Vs : List Value) (k : Nat) : List Oper → Nat → Prop
  | [], _ => True
  | o :: r, i => (i ∈ C ∨ ∀ (s' : SH) (R : List HP) (w' : World) (x : Nat → Value) (Φ : Value → World → Prop), Sub s s' → Holds E s' (PL ++ R) w' → (∀ i, i < k → i ∉ C → x i = Vs.getD i undef) → Φ (Vs.getD i undef) w' → Want P ops o (A x) w' Φ) ∧ FlL P ops A E s PL C Vs k r (i + 1)
def ChL (P : Program) (ops : Array Oper) (A : (Nat → Value) → Act) (pre : List Oper) (C0 : List Nat) (Vs : List Value) (k : Nat) : List Nat → List (World → (Nat → Value) → Prop) → Prop
  | c :: C, S0 :: S1 :: Ss => (∀ o, pre[c]? = some o → ∀ (w' : World) (x : Nat → Value) (Φ : Value → World → Prop), S0 w' x → (∀ i, i < k → i ∉ C0 → x i = Vs.getD i undef) → (∀ v w'', S1 w'' (updV x c v) → Φ v w'') → Want P ops o (A x) w' Φ) ∧ ChL P ops A pre C0 Vs k C (S1 :: Ss)
  | [], _ => True
  | _, _ => False
def InvL (E : World) (s : SH) (PL : List HP) : List (World → (Nat → Value) → Prop) → Prop
  | [] => True
  | S :: Ss => (∀ w x, S w x → ∃ s' R, Sub s s' ∧ Holds E s' (PL ++ R) w) ∧ InvL E s PL Ss
theorem flL_at {ops : Array Oper} {A : (Nat → Value) → Act} {E : World} {s : SH} {PL : List HP} {C : List Nat} {Vs : List Value} {k : Nat} : ∀ {r : List Oper} {i : Nat}, FlL P ops A E s PL C Vs k r i → ∀ q o, r[q]? = some o → (i + q ∈ C ∨ ∀ (s' : SH) (R : List HP) (w' : World) (x : Nat → Value) (Φ : Value → World → Prop), Sub s s' → Holds E s' (PL ++ R) w' → (∀ i, i < k → i ∉ C → x i = Vs.getD i undef) → Φ (Vs.getD (i + q) undef) w' → Want P ops o (A x) w' Φ)
  | [], _, _, q, o, h => by simp at h
  | o' :: r, i, ⟨h1, h2⟩, 0, o, h => by simp at h; subst h; exact h1
  | o' :: r, i, ⟨h1, h2⟩, q + 1, o, h => by
    have := flL_at h2 q o (by simpa using h)
    have e : i + 1 + q = i + (q + 1) := by omega
    rw [e] at this; exact this
theorem chL_at {ops : Array Oper} {A : (Nat → Value) → Act} {pre : List Oper} {C0 : List Nat} {Vs : List Value} {k : Nat} : ∀ {C : List Nat} {Ss : List (World → (Nat → Value) → Prop)}, ChL P ops A pre C0 Vs k C Ss → ∀ j c, C[j]? = some c → ∃ S0 S1, Ss[j]? = some S0 ∧ Ss[j + 1]? = some S1 ∧
    ∀ o, pre[c]? = some o → ∀ (w' : World) (x : Nat → Value) (Φ : Value → World → Prop), S0 w' x → (∀ i, i < k → i ∉ C0 → x i = Vs.getD i undef) → (∀ v w'', S1 w'' (updV x c v) → Φ v w'') → Want P ops o (A x) w' Φ
  | [], _, _, j, c, h => by simp at h
  | c' :: C, S0 :: S1 :: Ss, ⟨h1, h2⟩, 0, c, h => by simp at h; subst h; exact ⟨S0, S1, rfl, rfl, h1⟩
  | c' :: C, S0 :: S1 :: Ss, ⟨h1, h2⟩, j + 1, c, h => by
    obtain ⟨T0, T1, k1, k2, k3⟩ := chL_at h2 j c (by simpa using h)
    exact ⟨T0, T1, by simpa using k1, by simpa using k2, k3⟩
  | c' :: C, [], h, _, _, _ => h.elim
  | c' :: C, [_], h, _, _, _ => h.elim
theorem invL_at {E : World} {s : SH} {PL : List HP} : ∀ {Ss : List (World → (Nat → Value) → Prop)}, InvL E s PL Ss → ∀ (j : Nat) S, Ss[j]? = some S → ∀ w x, S w x → ∃ s' R, Sub s s' ∧ Holds E s' (PL ++ R) w
  | [], _, j, S, h => by simp at h
  | S' :: Ss, ⟨h1, h2⟩, 0, S, h => by simp at h; subst h; exact h1
  | S' :: Ss, ⟨h1, h2⟩, j + 1, S, h => invL_at h2 j S (by simpa using h)
theorem wp_draw_C {id k sz : Nat} {pre tail : List Oper} {A : (Nat → Value) → Act} {a0 : Act} {w : World} {E : World} {s : SH} {LL : List HP} (C : List Nat) (Vs : List Value) (PL : List HP) (Ss : List (World → (Nat → Value) → Prop))
    (hm : P.follows .mixedOrders = true) (hk : k ≤ l.length) (hsz : a0.tmps.size = sz) (hpre : preOkS l k sz = true) (htail : tailOk l k = true) (hC : chainOk l k C = true) (hV : ∀ c ∈ C, Vs.getD c undef = undef) (hS : Ss.length = C.length)
    (H : Holds E s LL w) (e1 : l.take k = pre) (e2 : l.drop k = tail) (eA : ∀ x, ov a0 pre 0 x = A x)
    (hinv : InvL E s PL ((fun w _ => Holds E s LL w) :: Ss))
    (hfl : FlL P l.toArray A E s PL C Vs k pre 0)
    (hch : ChL P l.toArray A pre C Vs k C ((fun w _ => Holds E s LL w) :: Ss))
    (hfin : ∀ (w' : World) (x : Nat → Value), (((fun w _ => Holds E s LL w) :: Ss).getLast (by simp)) w' x → (∀ i, i < k → i ∉ C → x i = Vs.getD i undef) → wpList P l.toArray Q tail (A x) w') :
    (Code.region id l.toArray true).wp P Q a0 w := by
  have hpl : pre.length = k := by rw [← e1, List.length_take, Nat.min_eq_left hk]
  have pget : ∀ i o, i < k → l[i]? = some o → pre[i]? = some o := fun i o hi ho => (congrArg (·[i]?) e1.symm).trans (by rw [List.getElem?_take, if_pos hi]; exact ho)
  let St : Nat → World → (Nat → Value) → Prop := fun j w x => ∃ S, ((fun w _ => Holds E s LL w) :: Ss)[j]? = some S ∧ S w x
  have hclt : ∀ c ∈ C, c < k := by
    unfold chainOk at hC
    rw [Bool.and_eq_true, List.all_eq_true] at hC
    exact fun c hc => by simpa using hC.1 c hc
  refine wp_drawC hm hk (by rw [hsz]; exact hpre) htail C hC (fun i => Vs.getD i undef) St (fun w x h => ?_) ⟨_, rfl, H⟩ (fun i o hi hic ho j w' x hst hx Φ hΦ => ?_) (fun j c o hj ho w' x hst hx Φ hΦ => ?_) (fun w' x hst hx => ?_)
  · obtain ⟨S, hS0, h⟩ := h
    simp only [List.getElem?_cons_zero, Option.some.injEq] at hS0
    subst hS0
    exact ⟨_, rfl, Holds.drew h⟩
  · obtain ⟨S, hS0, h⟩ := hst
    obtain ⟨s', R, hs, H'⟩ := invL_at hinv j S hS0 w' x h
    rw [e1, eA]
    rcases flL_at hfl i o (pget i o hi ho) with hc | hc
    · rw [Nat.zero_add] at hc; exact (hic hc).elim
    · rw [Nat.zero_add] at hc; exact hc s' R w' x Φ hs H' hx hΦ
  · obtain ⟨S, hS0, h⟩ := hst
    obtain ⟨T0, T1, k1, k2, k3⟩ := chL_at hch j c hj
    rw [hS0] at k1
    cases k1
    rw [e1, eA]
    exact k3 o (pget c o (hclt c (List.mem_of_getElem? hj)) ho) w' x Φ h hx (fun v w'' hh => hΦ v w'' ⟨T1, k2, hh⟩)
  · obtain ⟨S, hS0, h⟩ := hst
    rw [e1, e2, eA]
    refine hfin w' x ?_ hx
    have e : (((fun w _ => Holds E s LL w) :: Ss : List (World → (Nat → Value) → Prop)))[C.length]? = some (((fun w _ => Holds E s LL w) :: Ss).getLast (by simp)) := by
      rw [List.getLast_eq_getElem, List.getElem?_eq_getElem (by simp [hS])]
      congr 2; simp [hS]
    rw [e] at hS0
    cases hS0
    exact h
theorem updV_same {x : Nat → Value} {c : Nat} {v : Value} : updV x c v c = v := if_pos rfl
theorem updV_ne {x : Nat → Value} {c i : Nat} {v : Value} (h : i ≠ c) : updV x c v i = x i := if_neg h
end
end Go.Proofs.YtemdmpgekegfhaaDoor
