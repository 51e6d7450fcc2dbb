/- Maps that are owned: m[k] = append(m[k], ..): the entry, and the store into it. -/
import Derived.Test.YtemdmpgekegfhaaDoorMap
namespace Go.Proofs.YtemdmpgekegfhaaDoor
open Go.RowKit
set_option linter.all false
set_option maxRecDepth 10000

section
variable {P : Program} {κ : Type} [DecidableEq κ] {kt : TypeId} {enc : κ → Value} {ok : κ → Prop}
theorem uniq_idx {l : List (κ × Value)} (hu : Uniq l) {j j' : Nat} {k : κ} {v v' : Value} (h : l[j]? = some (k, v)) (h' : l[j']? = some (k, v')) : j = j' := by
  obtain ⟨h1, h2⟩ := List.getElem?_eq_some_iff.1 h
  obtain ⟨h3, h4⟩ := List.getElem?_eq_some_iff.1 h'
  have hp := List.pairwise_iff_getElem.1 hu
  rcases Nat.lt_trichotomy j j' with e | e | e
  · exact absurd (by rw [h2, h4]) (hp j j' h1 h3 e)
  · exact e
  · exact absurd (by rw [h2, h4]) (hp j' j h3 h1 e)
theorem find_stamp {es : Array MapEntry} {j : Nat} {e : MapEntry} (hn : (es.toList.map (·.born)).Nodup) (hj : es[j]? = some e) : es.findIdx? (fun x => (x.born : Int) == (e.born : Int)) = some j := by
  obtain ⟨h1, h2⟩ := Array.getElem?_eq_some_iff.1 hj
  rw [Array.findIdx?_eq_some_iff_getElem]
  refine ⟨h1, by rw [h2]; simp, fun i hi => ?_⟩
  have hp := List.pairwise_iff_getElem.1 hn i j (by simp; omega) (by simpa using h1) hi
  simp only [List.getElem_map, Array.getElem_toList, h2] at hp
  simp only [Bool.not_eq_true, beq_eq_false_iff_ne]
  intro e3
  exact hp (by omega)
theorem entry_pre (M : MK P kt enc ok) (t : TypeId) {et : TypeId} (ht : P.underlying t = some (.map kt et)) {r : Nat} {es : Array MapEntry} {c : Nat} {l : List (κ × Value)} {k : κ} (hk : ok k) (hl : ∀ p ∈ l, ok p.1) (hu : Uniq l)
    (he : es.toList.map (fun e => (e.key, e.val)) = l.map fun p => (enc p.1, p.2)) (hwf : wfE es c) {z : Value} (hz : ∀ w, (zeroValue et).run P w = .ok z w) :
    ∃ es1 c1, ∃ st : Nat, (∀ w : World, w.heap[r]? = some (.map es c) → (Instr.mapEntry t (.map (some r)) (enc k)).run P w = .ok (.tuple #[(mget l k).getD z, goInt st]) { w with heap := w.heap.setIfInBounds r (.map es1 c1) }) ∧
      ∀ v, ∃ es2, es2.toList.map (fun e => (e.key, e.val)) = ((mput l k v).map fun p => (enc p.1, p.2)) ∧ wfE es2 c1 ∧ ∀ w : World, w.heap[r]? = some (.map es1 c1) → (Instr.entryStore t (.map (some r)) (goInt st) v).run P w = .ok () { w with heap := w.heap.setIfInBounds r (.map es2 c1) } := by
  obtain ⟨lx, hlx⟩ := M.lit k hk
  by_cases hex : ∃ (j : Nat) (v : Value), l[j]? = some (k, v)
  · obtain ⟨j, v0, hj⟩ := hex
    have hje : ∃ e, es.toList[j]? = some e ∧ e.key = enc k ∧ e.val = v0 := by
      have h := congrArg (·[j]?) he
      simp only [List.getElem?_map, hj, Option.map_some] at h
      cases h2 : es.toList[j]? with
      | none => rw [h2] at h; cases h
      | some e => rw [h2] at h; simp only [Option.map_some, Option.some.injEq, Prod.mk.injEq] at h; exact ⟨e, rfl, h.1, h.2⟩
    obtain ⟨e, hes, hke, hve⟩ := hje
    have hes' : es[j]? = some e := by rw [← Array.getElem?_toList]; exact hes
    have hkey : ((es[j]?).map (·.key)).getD (enc k) = enc k := by rw [hes']; exact hke
    have hst : ((es[j]?).map (·.born)).getD 0 = e.born := by rw [hes']; rfl
    have hmg : (mget l k).getD z = v0 := by rw [mget_mem hu (List.mem_of_getElem? hj)]; rfl
    have hsame : (es.modify j fun e => { e with key := enc k }) = es := by
      apply Array.ext_getElem?
      intro m
      rw [Array.getElem?_modify]
      split
      · rename_i e4; subst e4; rw [hes']; simp only [Option.map_some, ← hke]
      · rfl
    refine ⟨es, c, e.born, fun w hb => ?_, fun v => ⟨es.modify j fun e => { e with val := v }, ?_, ?_, fun w hb => ?_⟩⟩
    · rcases mp_find M hk hl he w with ⟨h1, h2⟩ | ⟨j', e', v', h1, h2, h3, h4, h5⟩
      · exact absurd rfl (h2 _ (List.mem_of_getElem? hj))
      · obtain rfl := uniq_idx hu h5 hj
        rw [hj] at h5
        obtain rfl : v0 = v' := by simpa using h5
        rw [hmg]
        simp [Instr.mapEntry, run_underlying ht, MapKept.run_getObj_map hb, M.K.check w false hlx, h1, hkey, M.K.stays w hlx, MapKept.run_setObj_map _ hb, Result.andThen, hsame]
        rw [hes']; rfl
    · rw [mput_old hu hj, List.map_set, ← he]
      apply List.ext_getElem?
      intro m
      rw [List.getElem?_map, Array.getElem?_toList, Array.getElem?_modify, List.getElem?_set, List.getElem?_map, Array.getElem?_toList]
      by_cases e5 : j = m
      · subst e5
        have hjl : j < es.size := (Array.getElem?_eq_some_iff.1 hes').1
        rw [if_pos rfl, if_pos rfl, hes']
        simp [hjl, hke]
      · rw [if_neg e5, if_neg e5]
    · have hbr : (es.modify j fun e => { e with val := v }).toList.map (·.born) = es.toList.map (·.born) := by
        apply List.ext_getElem?
        intro m
        rw [List.getElem?_map, List.getElem?_map, Array.getElem?_toList, Array.getElem?_modify, Array.getElem?_toList]
        split
        · cases es[m]? <;> rfl
        · rfl
      refine ⟨by rw [hbr]; exact hwf.1, fun e hm => ?_⟩
      have h6 : e.born ∈ es.toList.map (·.born) := by rw [← hbr]; exact List.mem_map.2 ⟨e, hm, rfl⟩
      obtain ⟨e7, hm7, h7⟩ := List.mem_map.1 h6
      rw [← h7]; exact hwf.2 e7 hm7
    · simp [Instr.entryStore, goInt, asInt, asIntOf, MapKept.run_getObj_map hb, find_stamp hwf.1 hes', MapKept.run_setObj_map _ hb, Result.andThen]
  · have hno : ∀ p ∈ l, p.1 ≠ k := fun p hp e => hex (by obtain ⟨j, hj⟩ := List.getElem?_of_mem hp; exact ⟨j, p.2, by rw [hj, ← e]⟩)
    have hmg : (mget l k).getD z = z := by rw [mget_none hno]; rfl
    have hwf1 : ∀ v, wfE (es.push { key := enc k, val := v, born := c }) (c + 1) := fun v => by
      refine ⟨?_, fun e hm => ?_⟩
      · rw [Array.toList_push, List.map_append, List.nodup_append]
        refine ⟨hwf.1, by simp, fun x hx y hy => ?_⟩
        obtain ⟨e, hm, rfl⟩ := List.mem_map.1 hx
        have := hwf.2 e hm
        simp only [List.map_cons, List.map_nil, List.mem_singleton] at hy
        omega
      · rw [Array.toList_push, List.mem_append, List.mem_singleton] at hm
        rcases hm with hm | hm
        · have := hwf.2 e hm; omega
        · subst hm; simp
    refine ⟨es.push { key := enc k, val := z, born := c }, c + 1, c, fun w hb => ?_, fun v => ⟨es.push { key := enc k, val := v, born := c }, ?_, hwf1 v, fun w hb => ?_⟩⟩
    · rcases mp_find M hk hl he w with ⟨h1, h2⟩ | ⟨j', e', v', h1, h2, h3, h4, h5⟩
      · rw [hmg]
        simp [Instr.mapEntry, run_underlying ht, MapKept.run_getObj_map hb, M.K.check w false hlx, h1, hz w, MapKept.run_setObj_map _ hb, Result.andThen]
      · exact absurd ⟨j', v', h5⟩ hex
    · rw [mput_new hno, Array.toList_push, List.map_append, List.map_append, he]; rfl
    · have hf := find_stamp (hwf1 z).1 (j := es.size) (e := { key := enc k, val := z, born := c }) (by simp)
      have hm : ((es.push { key := enc k, val := z, born := c }).modify es.size fun e => { e with val := v }) = es.push { key := enc k, val := v, born := c } := by
        apply Array.ext_getElem?
        intro m
        rw [Array.getElem?_modify, Array.getElem?_push, Array.getElem?_push]
        by_cases e : es.size = m
        · subst e; simp
        · rw [if_neg e, if_neg (fun h => e h.symm), if_neg (fun h => e h.symm)]
      simp [Instr.entryStore, goInt, asInt, asIntOf, MapKept.run_getObj_map hb, hf, MapKept.run_setObj_map _ hb, Result.andThen, hm]
end
section
variable {P : Program} {o : Oper} {a : Act} {w : World} {Φ : Value → World → Prop} {E : World} {s : SH} {L : List HP} {r c c1 : Nat} {es es1 : Array MapEntry}
theorem G_mapEntry (i : Nat) (t : TypeId) (x y : Operand) (ho : o.op = .mapEntry t x y) {K V : Value} (hx : a.eval x = .map (some r)) (hy : a.eval y = K) (H : Holds E s L w) (hi : L[i]? = some (pt r (.map es c)))
    (hr : ∀ w : World, w.heap[r]? = some (.map es c) → (Instr.mapEntry t (.map (some r)) K).run P w = .ok V { w with heap := w.heap.setIfInBounds r (.map es1 c1) })
    (h : ∀ w', Holds E s (L.set i (pt r (.map es1 c1))) w' → Φ V w') : OpG P o a w Φ := by
  have H1 := H.front i hi
  have hb := H1.at_pt
  have hlt : r < w.heap.size := (Array.getElem?_eq_some_iff.1 hb).1
  unfold OpG execOp
  simp only [ho, hx, hy, Sem.run_bind, Sem.run_pure, Result.andThen_ok, hr w hb, Oper.gives]
  refine h _ (Holds.back i hi ?_)
  exact H1.upd (w' := { w with heap := w.heap.setIfInBounds r (.map es1 c1) }) (o' := .map es1 c1) rfl rfl rfl (fun m _ hm => by simp only; rw [Array.getElem?_setIfInBounds_ne (fun e => hm e.symm)]) (by simp [hlt])
theorem G_entryStore (i : Nat) (t : TypeId) (x y z : Operand) (ho : o.op = .entryStore t x y z) {S V : Value} (hx : a.eval x = .map (some r)) (hy : a.eval y = S) (hz : a.eval z = V) (H : Holds E s L w) (hi : L[i]? = some (pt r (.map es c)))
    (hr : ∀ w : World, w.heap[r]? = some (.map es c) → (Instr.entryStore t (.map (some r)) S V).run P w = .ok () { w with heap := w.heap.setIfInBounds r (.map es1 c1) })
    (h : ∀ w', Holds E s (L.set i (pt r (.map es1 c1))) w' → Φ undef w') : OpG P o a w Φ := by
  have H1 := H.front i hi
  have hb := H1.at_pt
  have hlt : r < w.heap.size := (Array.getElem?_eq_some_iff.1 hb).1
  unfold OpG execOp
  simp only [ho, hx, hy, hz, Sem.run_bind, Sem.run_pure, Result.andThen_ok, hr w hb, Oper.gives]
  refine h _ (Holds.back i hi ?_)
  exact H1.upd (w' := { w with heap := w.heap.setIfInBounds r (.map es1 c1) }) (o' := .map es1 c1) rfl rfl rfl (fun m _ hm => by simp only; rw [Array.getElem?_setIfInBounds_ne (fun e => hm e.symm)]) (by simp [hlt])
end
end Go.Proofs.YtemdmpgekegfhaaDoor
