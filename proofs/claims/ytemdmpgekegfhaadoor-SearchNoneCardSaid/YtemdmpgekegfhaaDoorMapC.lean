/- What copying a map of slices asks: making with a hint, the length of a map, copy between slices, going over a map that stays, maps.Clone. -/
import Derived.Test.YtemdmpgekegfhaaDoorMapF
import Derived.Test.YtemdmpgekegfhaaDoorDrawP
import Derived.Test.YtemdmpgekegfhaaDoorRange
import Derived.Test.YtemdmpgekegfhaaDoorMake
import Derived.Laws.CopyRow
import Derived.Laws.IdiomCopy
import Derived.WideLaws
import Derived.Laws.Externs
namespace Go.Proofs.YtemdmpgekegfhaaDoor
open Go.RowKit
set_option linter.all false
set_option maxRecDepth 10000

section
variable {P : Program} {o : Oper} {a : Act} {w : World} {Φ : Value → World → Prop} {E : World} {s : SH} {L : List HP}
theorem G_rangeS (t : TypeId) (x : Operand) (ho : o.op = .range t x) {kt et : TypeId} (ht : P.underlying t = some (.map kt et)) {r : Nat} {es : Array MapEntry} {c : Nat}
    (hx : a.eval x = .map (some r)) (H : Holds E s L w) (hr : s r = some (.map es c))
    (h : ∀ it w', Holds E s (pt it (.mapIter (some r) c #[] c) :: L) w' → Φ (.pointer (some ⟨it, 0, none⟩)) w') : OpG P o a w Φ := by
  have hb := H.at_s hr
  unfold OpG execOp
  have hr : (Instr.range t (.map (some r))).run P w = .ok (.pointer (some ⟨w.heap.size, 0, none⟩)) (w.alloc (.mapIter (some r) c #[] c)) := by
    simp [Instr.range, run_underlying ht, MapKept.run_getObj_map hb, Result.andThen]
  simp only [ho, hx, Sem.run_bind, Sem.run_pure, Result.andThen_ok, hr, Oper.gives]
  exact h _ _ (H.alloc _)
open Go.ChangeMaps (setBlock) in
theorem G_nextS (i : Nat) (x : Operand) (ho : o.op = .next x false) {r it : Nat} {es : Array MapEntry} {c : Nat} {seen : Array Nat}
    (hx : a.eval x = .pointer (some ⟨it, 0, none⟩)) (H : Holds E s L w) (hi : L[i]? = some (pt it (.mapIter (some r) c seen c))) (hr : s r = some (.map es c)) (hw : wfE es c)
    (h : ∀ (b : Bool) (e : MapEntry) w', (b = true → e ∈ es.toList ∧ e.born ∉ seen.toList) → (b = false → ∀ e ∈ es.toList, e.born ∈ seen.toList) → Holds E s (L.set i (pt it (.mapIter (some r) c (if b then seen.push e.born else seen) c))) w' → Φ (nx b e.key e.val) w') : OpG P o a w Φ := by
  have hb := H.at_s hr
  have hit := H.read i hi
  unfold OpG execOp
  rcases run_next_at (P := P) w o.type it r c c seen es c hit hb hw.2 (Nat.le_refl _) with ⟨h1, h2⟩ | ⟨e, he, w1, hw1, h2⟩
  · simp only [ho, hx, Sem.run_bind, Sem.run_pure, Result.andThen_ok, h2, Oper.gives]
    refine h false ⟨undef, undef, 0⟩ w (fun e => by cases e) (fun _ e he => ?_) ?_
    · have h3 : leftOf es seen = #[] := Array.eq_empty_of_size_eq_zero h1
      unfold leftOf at h3
      rw [Array.filter_eq_empty_iff] at h3
      have := h3 e (by simpa using he)
      simpa using this
    · rw [show (if false = true then seen.push 0 else seen) = seen from rfl]
      exact Holds.back i hi (H.front i hi)
  · simp only [ho, hx, Sem.run_bind, Sem.run_pure, Result.andThen_ok, h2, Oper.gives]
    unfold leftOf at he
    have he2 : e ∈ es.toList ∧ e.born ∉ seen.toList := by simpa using he
    have H1 : Holds E s L w1 := by
      rcases hw1 with e1 | e1
      · rw [e1]; exact H
      · rw [e1]; exact H.drew
    refine h true e _ (fun _ => he2) (fun e => by cases e) (Holds.back i hi ?_)
    have H2 := H1.front i hi
    exact H2.upd (w' := setBlock w1 it (.mapIter (some r) c (seen.push e.born) c)) rfl rfl rfl (fun m _ hm => by simp only [setBlock]; rw [Array.getElem?_setIfInBounds_ne (fun e => hm e.symm)]) (by
      have := H2.at_pt
      have hlt := (Array.getElem?_eq_some_iff.1 this).1
      simp [setBlock, hlt])
theorem G_entryS (i : Nat) (x : Operand) (ho : o.op = .entry x) {r it : Nat} {es : Array MapEntry} {c : Nat} {seen : Array Nat} {e : MapEntry}
    (hx : a.eval x = .pointer (some ⟨it, 0, none⟩)) (H : Holds E s L w) (hi : L[i]? = some (pt it (.mapIter (some r) c (seen.push e.born) c))) (hr : s r = some (.map es c)) (hw : wfE es c) (he : e ∈ es.toList)
    (h : Φ (.tuple #[e.key, e.val]) w) : OpG P o a w Φ := by
  have hb := H.at_s hr
  have hit := H.read i hi
  unfold OpG execOp
  simp only [ho, hx, Sem.run_bind, Sem.run_pure, Result.andThen_ok, run_entry_at w it r c seen es c e hit hb he hw.1, Oper.gives]
  exact h
end
section
variable {P : Program} {o : Oper} {a : Act} {w : World} {Φ : Value → World → Prop} {E : World} {s : SH} {L : List HP}
theorem G_makeMapR {κ : Type} {enc : κ → Value} (t : TypeId) {x : Operand} (ho : o.op = .makeMap t (some x)) {kt et : TypeId} (ht : P.underlying t = some (.map kt et)) {k : IntKind} {n : Int} (hx : a.eval x = .int k n) (H : Holds E s L w) (h : ∀ r w', Holds E s (mpP enc r [] :: L) w' → Φ (.map (some r)) w') : OpG P o a w Φ := by
  unfold OpG execOp
  have hr : (Instr.makeMap t (some (.int k n))).run P w = .ok (.map (some w.heap.size)) (w.alloc (.map #[] 0)) := by
    simp [Instr.makeMap, run_underlying ht, asInt, asIntOf, newObj, Result.andThen]
    rfl
  simp only [ho, Sem.run_bind, Sem.run_pure, Result.andThen_ok, Option.map_some, hx, hr, Oper.gives]
  exact h _ _ ((H.alloc (.map #[] 0)).map fun _ k => ⟨#[], 0, ⟨rfl, by simp, fun e he => by simp at he⟩, k⟩)
theorem O_makeR {κ α : Type} [DecidableEq κ] {K : KC κ} {d : Kin α} (s0 : SH) (t : TypeId) {x : Operand} (ho : o.op = .makeMap t (some x)) {kt et : TypeId} (ht : P.underlying t = some (.map kt et)) {k : IntKind} {n : Int} (hx : a.eval x = .int k n) (H : Holds E s L w)
    (h : ∀ r w', Holds E s (mpO K d s0 r fnil :: L) w' → Φ (.map (some r)) w') : OpG P o a w Φ :=
  G_makeMapR (enc := K.enc) t ho ht hx H fun r w' H' => h r w' (H'.map fun _ q => ⟨[], [], ⟨fun _ => rfl, List.Pairwise.nil, fun p hp => (List.not_mem_nil hp).elim, rfl⟩, to_star_emp q⟩)
theorem O_lenM (t : TypeId) {x : Operand} (ho : o.op = .call { callee := .builtin .len, args := #[x], argTypes := #[t] }) {kt et : TypeId} (ht : P.underlying t = some (.map kt et)) {r : Nat} {n : Nat} (hx : a.eval x = .map (some r)) (H : Holds E s L w)
    (hn : ∃ es c, s r = some (.map es c) ∧ es.size = n) (h : Φ (.int .i64 (n : Int)) w) : OpG P o a w Φ := by
  obtain ⟨es, c, hr, rfl⟩ := hn
  have hb := H.at_s hr
  have e1 : P.underlying t = some (.map (P.mapKeyOf t) (P.mapElemOf t)) := by unfold Program.mapKeyOf Program.mapElemOf; rw [ht]
  have hl := run_len_map (P := P) w t o.type r es c e1 hb
  unfold OpG execOp
  simp only [ho, resolve, invoke, builtin, Sem.run_bind, Sem.run_pure, Result.andThen_ok, List.map_toArray, List.map_cons, List.map_nil, hx, hl, Oper.gives]
  exact h
theorem KO_len {κ α : Type} [DecidableEq κ] {K : KC κ} {d : Kin α} {r : Nat} {f : κ → Option (List α)} (h : MapKO K d s r f) : ∃ n : Nat, ∃ es c, s r = some (.map es c) ∧ es.size = n := by
  obtain ⟨m, vs, -, ⟨es, c, hr, -⟩, -⟩ := h
  exact ⟨_, es, c, hr, rfl⟩
theorem lenW {n : Nat} {r : Nat} {s' : SH} (hs : Sub s s') (h : ∃ es c, s r = some (.map es c) ∧ es.size = n) : ∃ es c, s' r = some (.map es c) ∧ es.size = n := let ⟨es, c, h1, h2⟩ := h; ⟨es, c, hs _ _ h1, h2⟩
/-- copy into a slice that is owned, of one that stays and is as long. -/
theorem G_copyO {α : Type} {d : Kin α} (h1 : d.sz = 1) {t : TypeId} (hd : d.At P t) (x y : Operand) (ho : o.op = .call { callee := .builtin .copy, args := #[x, y], argTypes := #[t, t] })
    {v u : Value} {xs ys : List α} (H : Holds E s ((d.sh s).Osl v xs :: L) w) (hs : d.Sl s u ys) (hx : a.eval x = v) (hy : a.eval y = u) (hl : xs.length = ys.length)
    (h : ∀ w', Holds E s ((d.sh s).Osl v ys :: L) w' → Φ (.int .i64 (ys.length : Int)) w') : OpG P o a w Φ := by
  obtain ⟨i, z, hi, hz, hzs, hsz, hbytes⟩ := hd.hi
  have hsm : (P.info? d.e).map (·.size) = some 1 := by rw [hi]; simp [hsz, h1]
  by_cases hne : ys = []
  · subst hne
    have : xs = [] := List.eq_nil_of_length_eq_zero hl
    subst this
    obtain ⟨A, cap, e1, -⟩ := hs
    obtain ⟨B, capB, e2, -⟩ := H.len
    subst e1; subst e2
    have hr := run_copy_none (P := P) w t t o.type d.e B A 0 capB 0 cap hd.ht hsm rfl
    unfold OpG execOp
    simp only [ho, resolve, invoke, builtin, Sem.run_bind, Sem.run_pure, Result.andThen_ok, List.map_toArray, List.map_cons, List.map_nil, hx, hy, List.length_nil, hr, Oper.gives]
    exact h _ H
  · obtain ⟨ad, cap, cs, e1, hrow, hc⟩ := hs.cells hne
    have hcl : cs.length = ys.length := by rw [Kin.Row.len hrow, h1, Nat.mul_one]
    subst e1
    rcases Holds.or_ H with H | H
    · obtain ⟨⟨-, e⟩, -⟩ := Holds.pure_ H
      subst e
      exact absurd (List.eq_nil_of_length_eq_zero hl.symm) hne
    · obtain ⟨b, H⟩ := Holds.exists_ H
      obtain ⟨cB, H⟩ := Holds.exists_ H
      obtain ⟨cur, H⟩ := Holds.exists_ H
      obtain ⟨⟨e2, k1, k2, k3, k4⟩, H⟩ := Holds.pure_ H
      have H1 := H.open_
      have hb := H1.at_pt
      have hlt : b < w.heap.size := (Array.getElem?_eq_some_iff.1 hb).1
      have hcz : cur.size = cB := by rw [k3]; show cB * d.sz = cB; rw [h1, Nat.mul_one]
      have hr := run_copy_row (P := P) w t t o.type d.e b 0 xs.length cB ad ys.length cap cur d.e cs hd.ht hsm hb (by rw [hcl, hl]; exact (Nat.min_self _).symm) (fun j u hu => hc.cell H1 j u hu) (by omega) (fun u hu => Kin.Row.one hrow u hu)
      rw [e2] at hx h
      unfold OpG execOp
      simp only [ho, resolve, invoke, builtin, Sem.run_bind, Sem.run_pure, Result.andThen_ok, List.map_toArray, List.map_cons, List.map_nil, hx, hy, hr, Oper.gives]
      rw [hcl]
      have e3 : (cur.toList.take 0 ++ cs ++ cur.toList.drop (0 + ys.length)).toArray.toList.take (ys.length * d.sz) = cs := by
        rw [List.take_zero, List.nil_append, h1, Nat.mul_one, List.toList_toArray, ← hcl, List.take_left']
        rfl
      have H3 := (H1.upd (w' := w.setRow b (cur.toList.take 0 ++ cs ++ cur.toList.drop (0 + ys.length)).toArray) (o' := .cells (cur.toList.take 0 ++ cs ++ cur.toList.drop (0 + ys.length)).toArray d.e (0, 0)) rfl rfl rfl (fun k _ hk => setRow_other w b k _ hk) (setRow_heap w b cur _ d.e _ hb)).swap.drop
      have H4 : Holds E s (pt b (.cells (cur.toList.take 0 ++ cs ++ cur.toList.drop (0 + ys.length)).toArray d.e (0, 0)) :: (d.sh s).RowM ys ((cur.toList.take 0 ++ cs ++ cur.toList.drop (0 + ys.length)).toArray.toList.take (ys.length * d.sz)) :: L) (w.setRow b (cur.toList.take 0 ++ cs ++ cur.toList.drop (0 + ys.length)).toArray) := by
        rw [e3]; exact (Kin.Row.own hrow H3).swap
      have H5 := Kin.Osl.mk (d := d.sh s) (cap := cB) (by omega) k2 (by
        have : cs.length + (cur.size - ys.length) = cB := by omega
        simp only [List.take_zero, List.nil_append, List.size_toArray, List.length_append, List.length_drop, Array.length_toList, Nat.zero_add]
        rw [this]; show cB = cB * d.sz; rw [h1, Nat.mul_one]) (by rw [← hl]; exact k4) H4
      rw [hl] at h
      exact h _ H5
/-! ### maps.Clone -/
theorem O_mki {t : TypeId} {x : Operand} {v : Value} {k e : TypeId} (ho : o.op = .makeInterface t x) (ht : P.underlying t = some (.map k e)) (hx : a.eval x = v) (h : Φ (.iface t v) w) : OpG P o a w Φ := by
  have hr : (Instr.makeInterface t v).run P w = .ok (.iface t v) w := by simp [Instr.makeInterface, run_underlying ht]
  unfold OpG execOp
  simp only [ho, hx, Sem.run_bind, Sem.run_pure, Result.andThen_ok, hr, Oper.gives]
  exact h
theorem O_tam {t xT : TypeId} {x : Operand} {v : Value} {k e : TypeId} (ho : o.op = .typeAssert x xT t false) (ht : P.underlying t = some (.map k e)) (hx : a.eval x = .iface t v) (h : Φ v w) : OpG P o a w Φ := by
  have hr : (Instr.typeAssert (.iface t v) xT t false).run P w = .ok v w := by simp [Instr.typeAssert, run_underlying ht, go_sem, Result.andThen]
  unfold OpG execOp
  simp only [ho, hx, Sem.run_bind, Sem.run_pure, Result.andThen_ok, hr, Oper.gives]
  exact h
theorem run_mclone {r : Nat} {es : Array MapEntry} {clock : Nat} (t : TypeId) (hb : w.heap[r]? = some (.map es clock)) :
    (Extern.MapsClone.clone #[.iface t (.map (some r))]).run P w = .ok (.iface t (.map (some w.heap.size))) (w.alloc (.map es clock)) := by
  have e : Extern.MapsClone.clone #[.iface t (.map (some r))] = (getObj r >>= fun o => match o with
      | .map entries clock => (newObj (.map entries clock) >>= fun n => pure (.iface t (.map (some n))))
      | _ => stuck "maps.clone: a map expected") := rfl
  rw [e]
  simp [MapKept.run_getObj_map hb, Result.andThen, go_sem]
theorem O_mclone {κ β : Type} [DecidableEq κ] {K : KC κ} {V : VC β} {f : Nat} {fn : Func} {x1 : Operand} {ts : Array TypeId} {t : TypeId} {r : Nat} {m : κ → Option β} (ho : o.op = .call { callee := .value (.func f), args := #[x1], argTypes := ts }) (hf : P.funcs[f]? = some fn)
    (hb : fn.body.isNone = true) (hnm : (fn.name == "runtime.NumGoroutine") = false) (hn : Extern.findNext fn = none) (he : Extern.find fn = some Extern.MapsClone.clone) (h1 : a.eval x1 = .iface t (.map (some r))) (H : Holds E s L w) (hm : MapKF K V s r m)
    (h : ∀ r' w', Holds E s (mpF K V r' m :: L) w' → Φ (.iface t (.map (some r'))) w') : OpG P o a w Φ := by
  obtain ⟨l, hl, hu, es, c, hr, hes, hwf⟩ := hm
  have hb2 := H.at_s hr
  have hc := run_callFunc_extern hf hnm hb hn he #[.iface t (.map (some r))] w
  rw [run_mclone t hb2] at hc
  unfold OpG execOp
  simp only [ho, resolve, invoke, Deferred.ofValue, Act.eval, Sem.run_bind, Sem.run_pure, Result.andThen_ok, List.map_toArray, List.map_cons, List.map_nil, Array.append_empty]
  show Oper.gives P Φ ((callFunc f #[a.eval x1]).run P w)
  rw [h1, hc]
  exact h _ _ ((H.alloc (.map es c)).map fun _ q => ⟨l, hl, hu, es, c, ⟨hes, hwf⟩, q⟩)
/-! ### entries of a map of slices that stays -/
theorem born_inj {l : List MapEntry} (hn : (l.map (·.born)).Nodup) {x y : MapEntry} (hx : x ∈ l) (hy : y ∈ l) (e : x.born = y.born) : x = y := by
  induction l with
  | nil => cases hx
  | cons p l ih =>
    rw [List.map_cons, List.nodup_cons] at hn
    rcases List.mem_cons.1 hx with rfl | hx2 <;> rcases List.mem_cons.1 hy with rfl | hy2
    · rfl
    · exact absurd (List.mem_map.2 ⟨y, hy2, e.symm⟩) hn.1
    · exact absurd (List.mem_map.2 ⟨x, hx2, e⟩) hn.1
    · exact ih hn.2 hx2 hy2
theorem len_by {v : Value} {xs : List Int} (h : kI.Sl s v xs) : xs.length * 8 ≤ 140737488355328 := by
  obtain ⟨A, cap, -, -, h3, -⟩ := h
  exact h3
section
variable {κ α : Type} [DecidableEq κ] {K : KC κ} {d : Kin α} {f : κ → Option (List α)} {m : List (κ × List α)} {vs : List Value} {es : Array MapEntry}
theorem KO_ent (hm : ∀ k, mgt m k = f k) (hu : Uq m) (hok : ∀ p ∈ m, K.ok p.1) (hl : vs.length = m.length) (he : es.toList.map (fun e => (e.key, e.val)) = ((kv m vs).map fun p => (K.enc p.1, p.2)))
    (hsl : ∀ (j : Nat) p v, m[j]? = some p → vs[j]? = some v → d.Sl s v p.2) {key val : Value} {born : Nat} (h : (⟨key, val, born⟩ : MapEntry) ∈ es.toList) :
    ∃ k0 A xs c, key = K.enc k0 ∧ K.ok k0 ∧ f k0 = some xs ∧ val = .slice A xs.length c ∧ d.Sl s (.slice A xs.length c) xs := by
  have h1 : (key, val) ∈ (kv m vs).map fun p => (K.enc p.1, p.2) := by rw [← he]; exact List.mem_map.2 ⟨_, h, rfl⟩
  obtain ⟨p, hp, e⟩ := List.mem_map.1 h1
  obtain ⟨j, hj⟩ := List.getElem?_of_mem hp
  unfold kv at hj
  rw [List.getElem?_zipWith] at hj
  cases hq : m[j]? with
  | none => rw [hq] at hj; cases hj
  | some q =>
    cases hv : vs[j]? with
    | none => rw [hq, hv] at hj; cases hj
    | some v =>
      rw [hq, hv] at hj
      obtain rfl := Option.some.inj hj
      have hS := hsl j q v hq hv
      obtain ⟨A, cap, e1, -⟩ := id hS
      refine ⟨q.1, A, q.2, cap, (congrArg Prod.fst e).symm, hok q (List.mem_of_getElem? hq), ?_, (congrArg Prod.snd e).symm.trans e1, e1 ▸ hS⟩
      rw [← hm]
      rcases mgt_idx hu (k := q.1) with ⟨j', xs, h2, h3⟩ | ⟨h2, -⟩
      · have : j' = j := by
          obtain ⟨a1, a2⟩ := List.getElem?_eq_some_iff.1 h2
          obtain ⟨b1, b2⟩ := List.getElem?_eq_some_iff.1 hq
          have hp := List.pairwise_iff_getElem.1 hu
          rcases Nat.lt_trichotomy j' j with x | x | x
          · exact absurd (by rw [a2, b2]) (hp j' j a1 b1 x)
          · exact x
          · exact absurd (by rw [a2, b2]) (hp j j' b1 a1 x)
        subst this
        rw [hq] at h2
        rw [h3]; exact (congrArg (fun z => some z.2) (Option.some.inj h2)).symm
      · exact absurd rfl (h2 q (List.mem_of_getElem? hq))
theorem KO_all (hm : ∀ k, mgt m k = f k) (hl : vs.length = m.length) (he : es.toList.map (fun e => (e.key, e.val)) = ((kv m vs).map fun p => (K.enc p.1, p.2))) {k : κ} {xs : List α} (h : f k = some xs) : ∃ e ∈ es.toList, e.key = K.enc k := by
  rw [← hm] at h
  obtain ⟨j, hj⟩ := List.getElem?_of_mem (mgt_mem h)
  have hjl : j < vs.length := by rw [hl]; exact (List.getElem?_eq_some_iff.1 hj).1
  have h1 : (K.enc k, vs[j]) ∈ es.toList.map (fun e => (e.key, e.val)) := by
    rw [he]; exact List.mem_map.2 ⟨_, List.mem_of_getElem? (kv_get hj (List.getElem?_eq_getElem hjl)), rfl⟩
  obtain ⟨e, h2, h3⟩ := List.mem_map.1 h1
  exact ⟨e, h2, congrArg Prod.fst h3⟩
end
theorem kI_zero {s0 : SH} : ∀ i z, Tryd.prog.info? (kI.sh s0).e = some i → i.zero = some z → ∀ h, emp h → (kI.sh s0).M 0 z.cells.toList h := fun i z hi hz h e => by
  rw [show Tryd.prog.info? (kI.sh s0).e = some Tryd.t3 from Tryd.type3] at hi
  cases hi; cases hz
  exact ⟨⟨rfl, by constructor <;> omega⟩, e⟩
end
end Go.Proofs.YtemdmpgekegfhaaDoor
