/- Maps from two numbers to a number: m[k] |= x; what DepsGraph's map has. -/
import Derived.Test.YtemdmpgekegfhaaDoorDgD
import Derived.Test.YtemdmpgekegfhaaDoorDgB
namespace Go.Proofs.YtemdmpgekegfhaaDoor
open Go.RowKit
set_option linter.all false
set_option maxRecDepth 10000

section
variable {P : Program} {κ : Type} [DecidableEq κ] {kt : TypeId} {enc : κ → Value} {ok : κ → Prop}
theorem look_run (M : MK P kt enc ok) (t : TypeId) {et : TypeId} (ht : P.underlying t = some (.map kt et)) {r : Nat} {es : Array MapEntry} {c : Nat} {l : List (κ × Value)} {k : κ} (hk : ok k) (hl : ∀ p ∈ l, ok p.1) (hu : Uniq l)
    (he : es.toList.map (fun e => (e.key, e.val)) = l.map fun p => (enc p.1, p.2)) {z : Value} (hz : ∀ w, (zeroValue et).run P w = .ok z w) {w : World} (hb : w.heap[r]? = some (.map es c)) :
    (Instr.lookup t (.map (some r)) (enc k) false).run P w = .ok ((mget l k).getD z) w := by
  obtain ⟨lx, hlx⟩ := M.lit k hk
  rcases mp_find M hk hl he w with ⟨h1, h2⟩ | ⟨j, e, v, h1, h2, h3, h4, h5⟩
  · simp [Instr.lookup, run_underlying ht, MapKept.run_getObj_map hb, M.K.check w _ hlx, h1, hz, Result.andThen, mget_none h2]
  · simp [Instr.lookup, run_underlying ht, MapKept.run_getObj_map hb, M.K.check w _ hlx, h1, Result.andThen, mget_mem hu (List.mem_of_getElem? h5)]
theorem entry_pre2 (M : MK P kt enc ok) (t : TypeId) {et : TypeId} (ht : P.underlying t = some (.map kt et)) {r : Nat} {es : Array MapEntry} {c : Nat} {l : List (κ × Value)} {k : κ} (hk : ok k) (hl : ∀ p ∈ l, ok p.1) (hu : Uniq l)
    (he : es.toList.map (fun e => (e.key, e.val)) = l.map fun p => (enc p.1, p.2)) (hwf : wfE es c) {z : Value} (hz : ∀ w, (zeroValue et).run P w = .ok z w) :
    ∃ es1 c1, ∃ st : Nat, (∀ w : World, w.heap[r]? = some (.map es c) → (Instr.mapEntry t (.map (some r)) (enc k)).run P w = .ok (.tuple #[(mget l k).getD z, goInt st]) { w with heap := w.heap.setIfInBounds r (.map es1 c1) }) ∧ (∀ w : World, w.heap[r]? = some (.map es1 c1) → (Instr.lookup t (.map (some r)) (enc k) false).run P w = .ok ((mget l k).getD z) w) ∧
      ∀ v, ∃ es2, es2.toList.map (fun e => (e.key, e.val)) = ((mput l k v).map fun p => (enc p.1, p.2)) ∧ wfE es2 c1 ∧ ∀ w : World, w.heap[r]? = some (.map es1 c1) → (Instr.entryStore t (.map (some r)) (goInt st) v).run P w = .ok () { w with heap := w.heap.setIfInBounds r (.map es2 c1) } := by
  obtain ⟨lx, hlx⟩ := M.lit k hk
  by_cases hex : ∃ (j : Nat) (v : Value), l[j]? = some (k, v)
  · obtain ⟨j, v0, hj⟩ := hex
    have hje : ∃ e, es.toList[j]? = some e ∧ e.key = enc k ∧ e.val = v0 := by
      have h := congrArg (·[j]?) he
      simp only [List.getElem?_map, hj, Option.map_some] at h
      cases h2 : es.toList[j]? with
      | none => rw [h2] at h; cases h
      | some e => rw [h2] at h; simp only [Option.map_some, Option.some.injEq, Prod.mk.injEq] at h; exact ⟨e, rfl, h.1, h.2⟩
    obtain ⟨e, hes, hke, hve⟩ := hje
    have hes' : es[j]? = some e := by rw [← Array.getElem?_toList]; exact hes
    have hkey : ((es[j]?).map (·.key)).getD (enc k) = enc k := by rw [hes']; exact hke
    have hst : ((es[j]?).map (·.born)).getD 0 = e.born := by rw [hes']; rfl
    have hmg : (mget l k).getD z = v0 := by rw [mget_mem hu (List.mem_of_getElem? hj)]; rfl
    have hsame : (es.modify j fun e => { e with key := enc k }) = es := by
      apply Array.ext_getElem?
      intro m
      rw [Array.getElem?_modify]
      split
      · rename_i e4; subst e4; rw [hes']; simp only [Option.map_some, ← hke]
      · rfl
    refine ⟨es, c, e.born, fun w hb => ?_, fun w hb => look_run M t ht hk hl hu he hz hb, fun v => ⟨es.modify j fun e => { e with val := v }, ?_, ?_, fun w hb => ?_⟩⟩
    · rcases mp_find M hk hl he w with ⟨h1, h2⟩ | ⟨j', e', v', h1, h2, h3, h4, h5⟩
      · exact absurd rfl (h2 _ (List.mem_of_getElem? hj))
      · obtain rfl := uniq_idx hu h5 hj
        rw [hj] at h5
        obtain rfl : v0 = v' := by simpa using h5
        rw [hmg]
        simp [Instr.mapEntry, run_underlying ht, MapKept.run_getObj_map hb, M.K.check w false hlx, h1, hkey, M.K.stays w hlx, MapKept.run_setObj_map _ hb, Result.andThen, hsame]
        rw [hes']; rfl
    · rw [mput_old hu hj, List.map_set, ← he]
      apply List.ext_getElem?
      intro m
      rw [List.getElem?_map, Array.getElem?_toList, Array.getElem?_modify, List.getElem?_set, List.getElem?_map, Array.getElem?_toList]
      by_cases e5 : j = m
      · subst e5
        have hjl : j < es.size := (Array.getElem?_eq_some_iff.1 hes').1
        rw [if_pos rfl, if_pos rfl, hes']
        simp [hjl, hke]
      · rw [if_neg e5, if_neg e5]
    · have hbr : (es.modify j fun e => { e with val := v }).toList.map (·.born) = es.toList.map (·.born) := by
        apply List.ext_getElem?
        intro m
        rw [List.getElem?_map, List.getElem?_map, Array.getElem?_toList, Array.getElem?_modify, Array.getElem?_toList]
        split
        · cases es[m]? <;> rfl
        · rfl
      refine ⟨by rw [hbr]; exact hwf.1, fun e hm => ?_⟩
      have h6 : e.born ∈ es.toList.map (·.born) := by rw [← hbr]; exact List.mem_map.2 ⟨e, hm, rfl⟩
      obtain ⟨e7, hm7, h7⟩ := List.mem_map.1 h6
      rw [← h7]; exact hwf.2 e7 hm7
    · simp [Instr.entryStore, goInt, asInt, asIntOf, MapKept.run_getObj_map hb, find_stamp hwf.1 hes', MapKept.run_setObj_map _ hb, Result.andThen]
  · have hno : ∀ p ∈ l, p.1 ≠ k := fun p hp e => hex (by obtain ⟨j, hj⟩ := List.getElem?_of_mem hp; exact ⟨j, p.2, by rw [hj, ← e]⟩)
    have hmg : (mget l k).getD z = z := by rw [mget_none hno]; rfl
    have hwf1 : ∀ v, wfE (es.push { key := enc k, val := v, born := c }) (c + 1) := fun v => by
      refine ⟨?_, fun e hm => ?_⟩
      · rw [Array.toList_push, List.map_append, List.nodup_append]
        refine ⟨hwf.1, by simp, fun x hx y hy => ?_⟩
        obtain ⟨e, hm, rfl⟩ := List.mem_map.1 hx
        have := hwf.2 e hm
        simp only [List.map_cons, List.map_nil, List.mem_singleton] at hy
        omega
      · rw [Array.toList_push, List.mem_append, List.mem_singleton] at hm
        rcases hm with hm | hm
        · have := hwf.2 e hm; omega
        · subst hm; simp
    have hlk : ∀ w : World, w.heap[r]? = some (.map (es.push { key := enc k, val := z, born := c }) (c + 1)) → (Instr.lookup t (.map (some r)) (enc k) false).run P w = .ok ((mget l k).getD z) w := fun w hb => by
      have h := look_run M t ht (l := mput l k z) hk (fun p hp => (mput_mem hp).elim (fun e => by rw [e]; exact hk) (hl p)) (mput_uniq hu k z) (by rw [mput_new hno, Array.toList_push, List.map_append, List.map_append, he]; rfl) hz hb
      rw [mget_put, if_pos rfl] at h
      rw [hmg]; exact h
    refine ⟨es.push { key := enc k, val := z, born := c }, c + 1, c, fun w hb => ?_, fun w hb => hlk w hb, fun v => ⟨es.push { key := enc k, val := v, born := c }, ?_, hwf1 v, fun w hb => ?_⟩⟩
    · rcases mp_find M hk hl he w with ⟨h1, h2⟩ | ⟨j', e', v', h1, h2, h3, h4, h5⟩
      · rw [hmg]
        simp [Instr.mapEntry, run_underlying ht, MapKept.run_getObj_map hb, M.K.check w false hlx, h1, hz w, MapKept.run_setObj_map _ hb, Result.andThen]
      · exact absurd ⟨j', v', h5⟩ hex
    · rw [mput_new hno, Array.toList_push, List.map_append, List.map_append, he]; rfl
    · have hf := find_stamp (hwf1 z).1 (j := es.size) (e := { key := enc k, val := z, born := c }) (by simp)
      have hm : ((es.push { key := enc k, val := z, born := c }).modify es.size fun e => { e with val := v }) = es.push { key := enc k, val := v, born := c } := by
        apply Array.ext_getElem?
        intro m
        rw [Array.getElem?_modify, Array.getElem?_push, Array.getElem?_push]
        by_cases e : es.size = m
        · subst e; simp
        · rw [if_neg e, if_neg (fun h => e h.symm), if_neg (fun h => e h.symm)]
      simp [Instr.entryStore, goInt, asInt, asIntOf, MapKept.run_getObj_map hb, hf, MapKept.run_setObj_map _ hb, Result.andThen, hm]
end
section
variable {P : Program} {o : Oper} {a : Act} {w : World} {Φ : Value → World → Prop} {E : World} {s : SH} {L : List HP} {r c c1 : Nat} {es es1 : Array MapEntry}
theorem G_lookR (i : Nat) (t : TypeId) (x y : Operand) (ho : o.op = .lookup t x y false) {K V : Value} (hx : a.eval x = .map (some r)) (hy : a.eval y = K) (H : Holds E s L w) (hi : L[i]? = some (pt r (.map es c)))
    (hr : ∀ w : World, w.heap[r]? = some (.map es c) → (Instr.lookup t (.map (some r)) K false).run P w = .ok V w) (h : Φ V w) : OpG P o a w Φ := by
  have H1 := H.front i hi
  have hb := H1.at_pt
  unfold OpG execOp
  simp only [ho, hx, hy, Sem.run_bind, Sem.run_pure, Result.andThen_ok, hr w hb, Oper.gives]
  exact h
end
/-! ### what the map has -/
def Lm (M : Nat → Nat → Nat) (m : List ((Int × Int) × Int)) : Prop := (Uq m ∧ ∀ p ∈ m, 0 ≤ p.1.1 ∧ 0 ≤ p.1.2) ∧ ∀ u v : Nat, mgt m ((u : Int), (v : Int)) = if M u v ≠ 0 then some ((M u v : Nat) : Int) else none
theorem Lm.nil : Lm (fun _ _ => 0) [] := ⟨⟨List.Pairwise.nil, fun p hp => (List.not_mem_nil hp).elim⟩, fun u v => by simp [mgt]⟩
theorem Lm.get {M : Nat → Nat → Nat} {m : List ((Int × Int) × Int)} (h : Lm M m) (u v : Nat) : (mgt m ((u : Int), (v : Int))).getD 0 = ((M u v : Nat) : Int) := by
  rw [h.2]
  by_cases e : M u v ≠ 0
  · rw [if_pos e]; rfl
  · rw [if_neg e]; simp only [Classical.not_not] at e; simp [e]
theorem Lm.put {n : Nat} {M : Nat → Nat → Nat} {m : List ((Int × Int) × Int)} (h : Lm M m) {fr to of : Int} (he : addE n fr to of = 0) : ∃ u v o : Nat, fr = u ∧ to = v ∧ of = o ∧ u < n ∧ v < n ∧ o < 16 ∧ Lm (addM n M fr to of) (mpt m (fr, to) ((M u v ||| o : Nat) : Int)) := by
  have hc : 0 ≤ fr ∧ fr < n ∧ 0 ≤ to ∧ to < n := by
    unfold addE at he; split at he
    · assumption
    · exact absurd he (by decide)
  have ho : ¬ (of < 1 ∨ of > 15 ∨ fr = to) := by
    unfold addE at he; rw [if_pos hc] at he
    intro hh; rw [if_pos hh] at he; exact absurd he (by decide)
  obtain ⟨u, rfl⟩ : ∃ u : Nat, fr = u := ⟨fr.toNat, by omega⟩
  obtain ⟨v, rfl⟩ : ∃ v : Nat, to = v := ⟨to.toNat, by omega⟩
  obtain ⟨o, rfl⟩ : ∃ o : Nat, of = o := ⟨of.toNat, by omega⟩
  refine ⟨u, v, o, rfl, rfl, rfl, by omega, by omega, by omega, ⟨mpt_uq h.1.1 _ _, fun p hp => ?_⟩, fun a b => ?_⟩
  · rcases mpt_mem hp with e | e
    · rw [e]; exact ⟨by simp, by simp⟩
    · exact h.1.2 p e
  · have e2 : addM n M u v o = upF M u (upF (M u) v (M u v ||| o)) := by unfold addM; rw [he, if_pos rfl]; simp
    rw [mgt_put, e2]
    have hor : M u v ||| o ≠ 0 := by
      intro hh
      have : o = 0 := by
        have := Nat.right_le_or (n := M u v) (m := o)
        omega
      omega
    unfold upF
    by_cases ha : a = u
    · subst ha
      by_cases hb : b = v
      · subst hb
        simp only [if_pos]
        rw [if_pos hor]
      · have : ((a : Int), (b : Int)) ≠ ((a : Int), (v : Int)) := fun e => hb (by have := (Prod.mk.inj e).2; omega)
        rw [if_neg this, if_pos rfl, if_neg hb, h.2]
    · have : ((a : Int), (b : Int)) ≠ ((u : Int), (v : Int)) := fun e => ha (by have := (Prod.mk.inj e).1; omega)
      rw [if_neg this, if_neg ha, h.2]
def edKey (x : Ed) : Int × Int := (x.from_, x.to)
theorem edR_keys (M : Nat → Nat → Nat) (u t : Nat) : (edR M u t).map edKey = ((List.range t).filter fun v => decide (M u v ≠ 0)).map fun v : Nat => ((u : Int), (v : Int)) := by
  unfold edR; rw [List.map_map]; rfl
theorem edR_nodup (M : Nat → Nat → Nat) (u t : Nat) : ((edR M u t).map edKey).Nodup := by
  rw [edR_keys]
  unfold List.Nodup
  rw [List.pairwise_map]
  refine (List.Pairwise.filter _ List.nodup_range).imp fun {a b} hab e => hab ?_
  have := (Prod.mk.inj e).2; omega
theorem edK_mem {n : Nat} {M : Nat → Nat → Nat} : ∀ {k : Nat} {p : Int × Int}, p ∈ (edK n M k).map edKey ↔ ∃ u v : Nat, u < k ∧ v < n ∧ M u v ≠ 0 ∧ p = ((u : Int), (v : Int))
  | 0, p => by simp [edK]
  | k + 1, p => by
    rw [edK_succ, List.map_append, List.mem_append, edK_mem, edR_keys]
    constructor
    · rintro (⟨u, v, h1, h2, h3, h4⟩ | h)
      · exact ⟨u, v, by omega, h2, h3, h4⟩
      · obtain ⟨v, hv, rfl⟩ := List.mem_map.1 h
        obtain ⟨h1, h2⟩ := List.mem_filter.1 hv
        exact ⟨k, v, by omega, List.mem_range.1 h1, by simpa using h2, rfl⟩
    · rintro ⟨u, v, h1, h2, h3, h4⟩
      by_cases e : u = k
      · subst e
        exact .inr (List.mem_map.2 ⟨v, List.mem_filter.2 ⟨List.mem_range.2 h2, by simpa using h3⟩, h4.symm⟩)
      · exact .inl ⟨u, v, by omega, h2, h3, h4⟩
theorem edK_nodup (n : Nat) (M : Nat → Nat → Nat) : ∀ k, ((edK n M k).map edKey).Nodup
  | 0 => by simp [edK]
  | k + 1 => by
    rw [edK_succ, List.map_append, List.nodup_append]
    refine ⟨edK_nodup n M k, edR_nodup M k n, fun a ha b hb e => ?_⟩
    obtain ⟨u, v, h1, h2, h3, rfl⟩ := edK_mem.1 ha
    rw [edR_keys] at hb
    obtain ⟨v', -, rfl⟩ := List.mem_map.1 hb
    have := (Prod.mk.inj e).1
    omega
theorem edK_lab {n : Nat} {M : Nat → Nat → Nat} : ∀ {k : Nat} {x : Ed}, x ∈ edK n M k → ∃ u v : Nat, u < k ∧ v < n ∧ x = ⟨(u : Int), (v : Int), ((M u v : Nat) : Int)⟩
  | 0, x, h => by simp [edK] at h
  | k + 1, x, h => by
    rw [edK_succ, List.mem_append] at h
    rcases h with h | h
    · obtain ⟨u, v, h1, h2, h3⟩ := edK_lab h
      exact ⟨u, v, by omega, h2, h3⟩
    · unfold edR at h
      obtain ⟨v, hv, rfl⟩ := List.mem_map.1 h
      exact ⟨k, v, by omega, List.mem_range.1 (List.mem_filter.1 hv).1, rfl⟩
theorem same_len {α : Type} [DecidableEq α] {a b : List α} (ha : a.Nodup) (hb : b.Nodup) (h : ∀ x, x ∈ a ↔ x ∈ b) : a.length = b.length := by
  have : a.Perm b := List.perm_iff_count.2 fun x => by
    rw [ha.count, hb.count]
    simp only [h]
  exact this.length_eq
theorem Lm.len {n : Nat} {M : Nat → Nat → Nat} {m : List ((Int × Int) × Int)} (h : Lm M m) (hz : ∀ u v, M u v ≠ 0 → u < n ∧ v < n) : m.length = (edK n M n).length := by
  have h1 : (m.map (·.1)).Nodup := by unfold List.Nodup; rw [List.pairwise_map]; exact h.1.1
  have := same_len h1 (edK_nodup n M n) fun p => by
    rw [edK_mem, List.mem_map]
    constructor
    · rintro ⟨q, hq, rfl⟩
      obtain ⟨h2, h3⟩ := h.1.2 q hq
      obtain ⟨u, hu⟩ : ∃ u : Nat, q.1.1 = u := ⟨q.1.1.toNat, by omega⟩
      obtain ⟨v, hv⟩ : ∃ v : Nat, q.1.2 = v := ⟨q.1.2.toNat, by omega⟩
      have e : q.1 = ((u : Int), (v : Int)) := by rw [← hu, ← hv]
      have hg := h.2 u v
      have hne : M u v ≠ 0 := fun h0 => by
        rw [if_neg (by simpa using h0)] at hg
        unfold mgt at hg
        rw [Option.map_eq_none_iff, List.find?_eq_none] at hg
        exact hg q hq (by simpa using e)
      obtain ⟨k1, k2⟩ := hz u v hne
      exact ⟨u, v, k1, k2, hne, e⟩
    · rintro ⟨u, v, h1, h2, h3, rfl⟩
      have hg := h.2 u v
      rw [if_pos h3] at hg
      unfold mgt at hg
      obtain ⟨q, hq, e⟩ := Option.map_eq_some_iff.1 hg
      have h4 := List.find?_some hq
      exact ⟨q, List.mem_of_find?_eq_some hq, by simpa using h4⟩
  simpa using this
theorem ML_in (n : Nat) : ∀ (l : List Wy) (M : Nat → Nat → Nat), (∀ u v, M u v ≠ 0 → u < n ∧ v < n) → ∀ u v, (l.foldl (fun M x => addM n M x.from_ x.to x.label) M) u v ≠ 0 → u < n ∧ v < n
  | [], _, h => h
  | x :: r, M, h => ML_in n r _ fun u v huv => by
    have huv : addM n M x.from_ x.to x.label u v ≠ 0 := huv
    unfold addM at huv
    split at huv
    · rename_i he
      have hc : 0 ≤ x.from_ ∧ x.from_ < n ∧ 0 ≤ x.to ∧ x.to < n := by
        unfold addE at he; split at he
        · assumption
        · exact absurd he (by decide)
      unfold upF at huv
      by_cases e1 : u = x.from_.toNat
      · subst e1
        rw [if_pos rfl] at huv
        by_cases e2 : v = x.to.toNat
        · subst e2; omega
        · rw [if_neg e2] at huv
          exact h _ _ huv
      · rw [if_neg e1] at huv
        exact h _ _ huv
    · exact h _ _ huv
theorem errL_ok {n : Nat} : ∀ {l : List Wy}, errL n l = 0 → ∀ {t : Nat} (ht : t < l.length), addE n l[t].from_ l[t].to l[t].label = 0
  | x :: r, h, 0, _ => by
    unfold errL at h
    split at h
    · assumption
    · exact h
  | x :: r, h, t + 1, ht => by
    unfold errL at h
    split at h
    · exact errL_ok h (by simpa using ht)
    · rename_i h1; exact absurd h h1
end Go.Proofs.YtemdmpgekegfhaaDoor
