/- Maps that are owned: making, asking, writing. -/
import Derived.Test.YtemdmpgekegfhaaDoorOpsB
import Derived.Maps.Keyed
namespace Go.Proofs.YtemdmpgekegfhaaDoor
open Go.RowKit
set_option linter.all false
set_option maxRecDepth 10000

/-- What is asked of a key's type, and of how a key lies in memory. -/
structure MK {κ : Type} (P : Program) (kt : TypeId) (enc : κ → Value) (ok : κ → Prop) : Prop where
  K : Maps.Keyed P kt
  lit : ∀ a, ok a → ∃ l, keyOf P kt (enc a) = some l
  inj : ∀ a b, ok a → ok b → enc a = enc b → a = b
/-- No two entries of one birth, none of a birth to come. -/
def wfE (es : Array MapEntry) (c : Nat) : Prop := (es.toList.map (·.born)).Nodup ∧ ∀ e ∈ es.toList, e.born < c
/-- Block r is a map with these keys and values, in the order in which they came. -/
def mpP {κ : Type} (enc : κ → Value) (r : Nat) (l : List (κ × Value)) : HP := fun h => ∃ es : Array MapEntry, ∃ c : Nat, ((es.toList.map (fun e => (e.key, e.val)) = l.map fun p => (enc p.1, p.2)) ∧ wfE es c) ∧ pt r (.map es c) h
def mget {κ : Type} [DecidableEq κ] (l : List (κ × Value)) (a : κ) : Option Value := (l.find? fun p => p.1 = a).map (·.2)
def mput {κ : Type} [DecidableEq κ] (l : List (κ × Value)) (a : κ) (v : Value) : List (κ × Value) :=
  if l.any (fun p => p.1 = a) then l.map (fun p => if p.1 = a then (a, v) else p) else l ++ [(a, v)]
def Uniq {κ : Type} (l : List (κ × Value)) : Prop := l.Pairwise fun p q => p.1 ≠ q.1
section
variable {P : Program} {o : Oper} {a : Act} {w : World} {Φ : Value → World → Prop} {E : World} {s : SH} {L : List HP}
variable {κ : Type} [DecidableEq κ] {kt : TypeId} {enc : κ → Value} {ok : κ → Prop}
theorem G_makeMap (t : TypeId) (ho : o.op = .makeMap t none) (H : Holds E s L w) (h : ∀ r w', Holds E s (mpP enc r [] :: L) w' → Φ (.map (some r)) w') : OpG P o a w Φ := by
  unfold OpG execOp
  have hr : (Instr.makeMap t none).run P w = .ok (.map (some w.heap.size)) (w.alloc (.map #[] 0)) := rfl
  simp only [ho, Sem.run_bind, Sem.run_pure, Result.andThen_ok, Option.map_none, hr, Oper.gives]
  exact h _ _ ((H.alloc (.map #[] 0)).map fun _ k => ⟨#[], 0, ⟨rfl, by simp, fun e he => by simp at he⟩, k⟩)
theorem mget_mem {l : List (κ × Value)} (hu : Uniq l) {k : κ} {v : Value} (h : (k, v) ∈ l) : mget l k = some v := by
  unfold mget
  induction l with
  | nil => cases h
  | cons p l ih =>
    obtain ⟨h1, h2⟩ := List.pairwise_cons.1 hu
    rcases List.mem_cons.1 h with e | h
    · subst e; simp
    · have : p.1 ≠ k := h1 _ h
      rw [List.find?_cons_of_neg (by simpa using this)]
      exact ih h2 h
theorem mget_none {l : List (κ × Value)} {k : κ} (h : ∀ p ∈ l, p.1 ≠ k) : mget l k = none := by
  unfold mget
  rw [List.find?_eq_none.2 (fun p hp => by simpa using h p hp)]; rfl
theorem mp_open {r : Nat} {l : List (κ × Value)} (H : Holds E s (mpP enc r l :: L) w) : ∃ es c, (es.toList.map (fun e => (e.key, e.val)) = (l.map fun p => (enc p.1, p.2)) ∧ wfE es c) ∧ Holds E s (pt r (.map es c) :: L) w := by
  obtain ⟨es, H⟩ := Holds.exists_ H
  obtain ⟨c, H⟩ := Holds.exists_ H
  obtain ⟨h, H⟩ := Holds.pure_ H
  exact ⟨es, c, h, H⟩
/-- Where a key stands. -/
theorem mp_find (M : MK P kt enc ok) {l : List (κ × Value)} {k : κ} (hk : ok k) (hl : ∀ p ∈ l, ok p.1) {es : Array MapEntry} (he : es.toList.map (fun e => (e.key, e.val)) = l.map fun p => (enc p.1, p.2)) (w : World) :
    ((Instr.findKey kt (enc k) es.toList).run P w = .ok none w ∧ ∀ p ∈ l, p.1 ≠ k) ∨ ∃ j e v, (Instr.findKey kt (enc k) es.toList).run P w = .ok (some (j, v)) w ∧ es.toList[j]? = some e ∧ e.key = enc k ∧ e.val = v ∧ l[j]? = some (k, v) := by
  obtain ⟨lx, hlx⟩ := M.lit k hk
  have hrd : ∀ e ∈ es.toList, ∃ lk, keyOf P kt e.key = some lk := fun e hm => by
    have : (e.key, e.val) ∈ l.map fun p => (enc p.1, p.2) := by rw [← he]; exact List.mem_map.2 ⟨e, hm, rfl⟩
    obtain ⟨p, hp, hpe⟩ := List.mem_map.1 this
    obtain ⟨lp, hlp⟩ := M.lit p.1 (hl p hp)
    have := congrArg Prod.fst hpe
    simp only at this
    exact ⟨lp, by rw [← this]; exact hlp⟩
  rcases M.K.find w hlx es.toList hrd with ⟨h1, h2⟩ | ⟨j, e, h1, h2, h3⟩
  · refine .inl ⟨h1, fun p hp ep => ?_⟩
    have : (enc p.1, p.2) ∈ es.toList.map (fun e => (e.key, e.val)) := by rw [he]; exact List.mem_map.2 ⟨p, hp, rfl⟩
    obtain ⟨e, hm, hee⟩ := List.mem_map.1 this
    refine h2 e hm ?_
    have := congrArg Prod.fst hee
    simp only at this
    rw [this, ep]
  · have hj : (l.map fun p => (enc p.1, p.2))[j]? = some (e.key, e.val) := by rw [← he, List.getElem?_map, h2]; rfl
    rw [List.getElem?_map] at hj
    cases hp : l[j]? with
    | none => rw [hp] at hj; cases hj
    | some p =>
      rw [hp] at hj
      simp only [Option.map_some, Option.some.injEq, Prod.mk.injEq] at hj
      have hm : p ∈ l := List.mem_of_getElem? hp
      have : p.1 = k := M.inj _ _ (hl p hm) hk (by rw [hj.1, h3])
      refine .inr ⟨j, e, e.val, h1, h2, h3, rfl, ?_⟩
      rw [← this, ← hj.2]; exact hp
theorem G_lookup (M : MK P kt enc ok) (i : Nat) (t : TypeId) (x y : Operand) (ho : o.op = .lookup t x y false) {et : TypeId} (ht : P.underlying t = some (.map kt et)) {r : Nat} {l : List (κ × Value)} {k : κ} (hk : ok k) (hl : ∀ p ∈ l, ok p.1) (hu : Uniq l)
    (hx : a.eval x = .map (some r)) (hy : a.eval y = enc k) (H : Holds E s L w) (hi : L[i]? = some (mpP enc r l)) {z : Value} (hz : (zeroValue et).run P w = .ok z w) (h : Φ ((mget l k).getD z) w) : OpG P o a w Φ := by
  obtain ⟨es, c, ⟨he, hwf⟩, H1⟩ := mp_open (H.front i hi)
  have hb := H1.at_pt
  obtain ⟨lx, hlx⟩ := M.lit k hk
  have hr : (Instr.lookup t (.map (some r)) (enc k) false).run P w = .ok ((mget l k).getD z) w := by
    rcases mp_find M hk hl he w with ⟨h1, h2⟩ | ⟨j, e, v, h1, h2, h3, h4, h5⟩
    · simp [Instr.lookup, run_underlying ht, MapKept.run_getObj_map hb, M.K.check w _ hlx, h1, hz, Result.andThen, mget_none h2]
    · simp [Instr.lookup, run_underlying ht, MapKept.run_getObj_map hb, M.K.check w _ hlx, h1, Result.andThen, mget_mem hu (List.mem_of_getElem? h5)]
  unfold OpG execOp
  simp only [ho, hx, hy, Sem.run_bind, Sem.run_pure, Result.andThen_ok, hr, Oper.gives]
  exact h
theorem mput_new {l : List (κ × Value)} {k : κ} {v : Value} (h : ∀ p ∈ l, p.1 ≠ k) : mput l k v = l ++ [(k, v)] := by
  unfold mput
  rw [if_neg]
  intro hh
  obtain ⟨p, hp, e⟩ := List.any_eq_true.1 hh
  exact h p hp (by simpa using e)
theorem mput_old {l : List (κ × Value)} (hu : Uniq l) {k : κ} {v v0 : Value} {j : Nat} (h : l[j]? = some (k, v0)) : mput l k v = l.set j (k, v) := by
  unfold mput
  rw [if_pos (List.any_eq_true.2 ⟨_, List.mem_of_getElem? h, by simp⟩)]
  obtain ⟨hj, hje⟩ := List.getElem?_eq_some_iff.1 h
  apply List.ext_getElem
  · simp
  · intro m h1 h2
    rw [List.getElem_map, List.getElem_set]
    have hm : m < l.length := by simpa using h1
    by_cases e : j = m
    · subst e; rw [if_pos rfl, hje]; simp
    · rw [if_neg e]
      have : l[m].1 ≠ k := by
        have hp := List.pairwise_iff_getElem.1 hu
        rcases Nat.lt_or_ge j m with h3 | h3
        · have := hp j m hj hm h3; rw [hje] at this; exact fun h => this h.symm
        · have := hp m j hm hj (by omega); rw [hje] at this; exact this
      rw [if_neg this]
theorem mput_uniq {l : List (κ × Value)} (hu : Uniq l) (k : κ) (v : Value) : Uniq (mput l k v) := by
  by_cases h : ∀ p ∈ l, p.1 ≠ k
  · rw [mput_new h]
    refine List.pairwise_append.2 ⟨hu, by simp, fun p hp q hq => ?_⟩
    rw [List.mem_singleton.1 hq]; exact h p hp
  · unfold mput
    rw [if_pos (by
      refine Classical.byContradiction fun hn => h fun p hp e => hn (List.any_eq_true.2 ⟨p, hp, by simpa using e⟩))]
    unfold Uniq
    rw [List.pairwise_map]
    refine hu.imp fun {p q} hpq => ?_
    by_cases e1 : p.1 = k
    · by_cases e2 : q.1 = k
      · exact absurd (e1.trans e2.symm) hpq
      · rw [if_pos e1, if_neg e2]; exact fun h => e2 h.symm
    · by_cases e2 : q.1 = k
      · rw [if_neg e1, if_pos e2]; exact e1
      · rw [if_neg e1, if_neg e2]; exact hpq
theorem mput_mem {l : List (κ × Value)} {k : κ} {v : Value} {p : κ × Value} (h : p ∈ mput l k v) : p = (k, v) ∨ p ∈ l := by
  unfold mput at h
  split at h
  · obtain ⟨q, hq, e⟩ := List.mem_map.1 h
    split at e
    · exact .inl e.symm
    · subst e; exact .inr hq
  · rcases List.mem_append.1 h with h | h
    · exact .inr h
    · exact .inl (List.mem_singleton.1 h)
theorem mget_put {l : List (κ × Value)} (k a : κ) (v : Value) : mget (mput l k v) a = if a = k then some v else mget l a := by
  unfold mput mget
  by_cases hany : (l.any fun p => p.1 = k) = true
  · rw [if_pos hany]
    by_cases e : a = k
    · subst e
      rw [if_pos rfl]
      have : ∀ l : List (κ × Value), (l.any fun p => p.1 = a) = true → ((l.map fun p => if p.1 = a then (a, v) else p).find? fun p => p.1 = a) = some (a, v) := fun l => by
        induction l with
        | nil => intro h; cases h
        | cons p l ih =>
          intro h
          by_cases e2 : p.1 = a
          · simp [e2]
          · simp only [List.map_cons, if_neg e2]
            rw [List.find?_cons_of_neg (by simpa using e2)]
            exact ih (by simpa [e2] using h)
      rw [this l hany]; rfl
    · rw [if_neg e]
      congr 1
      clear hany
      induction l with
      | nil => rfl
      | cons p l ih =>
        simp only [List.map_cons]
        by_cases e2 : p.1 = k
        · rw [if_pos e2, List.find?_cons_of_neg (by simpa using fun h => e h.symm), List.find?_cons_of_neg (by rw [e2]; simpa using fun h => e h.symm)]
          exact ih
        · rw [if_neg e2]
          by_cases e3 : p.1 = a
          · rw [List.find?_cons_of_pos (by simpa using e3), List.find?_cons_of_pos (by simpa using e3)]
          · rw [List.find?_cons_of_neg (by simpa using e3), List.find?_cons_of_neg (by simpa using e3)]
            exact ih
  · rw [if_neg hany, List.find?_append]
    by_cases e : a = k
    · subst e
      rw [if_pos rfl]
      have : l.find? (fun p => p.1 = a) = none := List.find?_eq_none.2 fun p hp h => hany (List.any_eq_true.2 ⟨p, hp, h⟩)
      rw [this]; simp
    · rw [if_neg e]
      have : (k = a) = False := by simpa using fun h => e h.symm
      cases h : l.find? (fun p => p.1 = a) with
      | none => simp [this]
      | some p => simp
theorem G_mapUpdate (M : MK P kt enc ok) (i : Nat) (t : TypeId) (x y z : Operand) (ho : o.op = .mapUpdate t x y z) {et : TypeId} (ht : P.underlying t = some (.map kt et)) {r : Nat} {l : List (κ × Value)} {k : κ} {v : Value} (hk : ok k) (hl : ∀ p ∈ l, ok p.1) (hu : Uniq l)
    (hx : a.eval x = .map (some r)) (hy : a.eval y = enc k) (hz : a.eval z = v) (H : Holds E s L w) (hi : L[i]? = some (mpP enc r l)) (h : ∀ w', Holds E s (L.set i (mpP enc r (mput l k v))) w' → Φ undef w') : OpG P o a w Φ := by
  obtain ⟨es, c, ⟨he, hwf⟩, H1⟩ := mp_open (H.front i hi)
  have hb := H1.at_pt
  have hlt : r < w.heap.size := (Array.getElem?_eq_some_iff.1 hb).1
  obtain ⟨lx, hlx⟩ := M.lit k hk
  obtain ⟨es', c', hr, he', hwf'⟩ : ∃ es' c', (Instr.mapUpdate t (.map (some r)) (enc k) v).run P w = .ok () { w with heap := w.heap.setIfInBounds r (.map es' c') } ∧ es'.toList.map (fun e => (e.key, e.val)) = ((mput l k v).map fun p => (enc p.1, p.2)) ∧ wfE es' c' := by
    rcases mp_find M hk hl he w with ⟨h1, h2⟩ | ⟨j, e, v0, h1, h2, h3, h4, h5⟩
    · refine ⟨es.push { key := enc k, val := v, born := c }, c + 1, ?_, ?_, ?_⟩
      · simp [Instr.mapUpdate, run_underlying ht, MapKept.run_getObj_map hb, M.K.check w false hlx, h1, MapKept.run_setObj_map _ hb, Result.andThen]
      · rw [mput_new h2, Array.toList_push, List.map_append, List.map_append, he]; rfl
      · refine ⟨?_, fun e hm => ?_⟩
        · rw [Array.toList_push, List.map_append, List.nodup_append]
          refine ⟨hwf.1, by simp, fun x hx y hy => ?_⟩
          obtain ⟨e, hm, rfl⟩ := List.mem_map.1 hx
          have := hwf.2 e hm
          simp only [List.map_cons, List.map_nil, List.mem_singleton] at hy
          omega
        · rw [Array.toList_push, List.mem_append, List.mem_singleton] at hm
          rcases hm with hm | hm
          · have := hwf.2 e hm; omega
          · subst hm; simp
    · have hkey : ((es[j]?).map (·.key)).getD (enc k) = enc k := by rw [← Array.getElem?_toList, h2]; simpa using h3
      have hbr : (es.modify j fun e => { e with key := enc k, val := v }).toList.map (·.born) = es.toList.map (·.born) := by
        apply List.ext_getElem?
        intro m
        rw [List.getElem?_map, List.getElem?_map, Array.getElem?_toList, Array.getElem?_modify, Array.getElem?_toList]
        split
        · cases es[m]? <;> rfl
        · rfl
      refine ⟨es.modify j fun e => { e with key := enc k, val := v }, c, ?_, ?_, ?_⟩
      · simp [Instr.mapUpdate, run_underlying ht, MapKept.run_getObj_map hb, M.K.check w false hlx, h1, hkey, M.K.stays w hlx, MapKept.run_setObj_map _ hb, Result.andThen]
      · rw [mput_old hu h5, List.map_set, ← he]
        apply List.ext_getElem?
        intro m
        rw [List.getElem?_map, Array.getElem?_toList, Array.getElem?_modify, List.getElem?_set, List.getElem?_map, Array.getElem?_toList]
        have hjl : j < es.size := by
          have := (List.getElem?_eq_some_iff.1 h2).1; simpa using this
        by_cases e5 : j = m
        · subst e5
          rw [if_pos rfl, if_pos rfl]
          rw [Array.getElem?_eq_getElem hjl]
          simp [hjl]
        · rw [if_neg e5, if_neg e5]
      · refine ⟨by rw [hbr]; exact hwf.1, fun e hm => ?_⟩
        have h6 : e.born ∈ es.toList.map (·.born) := by rw [← hbr]; exact List.mem_map.2 ⟨e, hm, rfl⟩
        obtain ⟨e7, hm7, h7⟩ := List.mem_map.1 h6
        rw [← h7]; exact hwf.2 e7 hm7
  unfold OpG execOp
  simp only [ho, hx, hy, hz, Sem.run_bind, Sem.run_pure, Result.andThen_ok, hr, Oper.gives]
  refine h _ (Holds.back i hi ?_)
  have H2 := H1.upd (w' := { w with heap := w.heap.setIfInBounds r (.map es' c') }) (o' := .map es' c') rfl rfl rfl (fun m _ hm => by simp only; rw [Array.getElem?_setIfInBounds_ne (fun e => hm e.symm)]) (by simp [hlt])
  exact H2.map fun _ k => ⟨es', c', ⟨he', hwf'⟩, k⟩
end
end Go.Proofs.YtemdmpgekegfhaaDoor
