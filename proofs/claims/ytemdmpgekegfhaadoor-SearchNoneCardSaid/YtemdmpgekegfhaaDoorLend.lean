/- Owned memory that is lent: for a while it is memory that stays. Maps of memory that stays. -/
import Derived.Test.YtemdmpgekegfhaaDoorMapT
import Derived.Test.YtemdmpgekegfhaaDoorShal
namespace Go.Proofs.YtemdmpgekegfhaaDoor
open Go.RowKit
set_option linter.all false
set_option maxRecDepth 10000

section
variable {E : World} {s : SH} {L : List HP} {w : World}
theorem lendOsl {α : Type} {d : Kin α} {s0 : SH} {v : Value} {xs : List α} (i : Nat) (hi : L[i]? = some ((d.sh s0).Osl v xs)) (hs0 : Sub s0 s) (H : Holds E s L w) :
    ∃ s', Sub s s' ∧ d.Sl s' v xs ∧ Holds E s' (L.eraseIdx i) w ∧ (∀ {w'}, Holds E s' (L.eraseIdx i) w' → Holds E s L w') ∧ ∀ {L' : List HP} {w'}, Holds E s' L' w' → Holds E s ((d.sh s0).Osl v xs :: L') w' := by
  suffices h : ∃ s', Sub s s' ∧ d.Sl s' v xs ∧ Holds E s' (L.eraseIdx i) w ∧ ∀ {L' : List HP} {w'}, Holds E s' L' w' → Holds E s ((d.sh s0).Osl v xs :: L') w' from
    let ⟨s', h1, h2, h3, h4⟩ := h
    ⟨s', h1, h2, h3, fun H' => (h4 H').unfront i hi, h4⟩
  have H1 := H.front i hi
  rcases Holds.or_ H1 with H2 | H2
  · obtain ⟨⟨e1, e2⟩, H3⟩ := Holds.pure_ H2
    subst e1; subst e2
    exact ⟨s, Sub.refl s, Kin.Sl.nil, H3.emp, fun H' => Kin.Osl.nil H'⟩
  · obtain ⟨b, H2⟩ := Holds.exists_ H2
    obtain ⟨cap, H2⟩ := Holds.exists_ H2
    obtain ⟨cur, H2⟩ := Holds.exists_ H2
    obtain ⟨⟨e1, h1, h2, h3, h4⟩, H3⟩ := Holds.pure_ H2
    subst e1
    have H4 := H3.open_
    have hrow : d.Row s0 xs (cur.toList.take (xs.length * d.sz)) := by
      obtain ⟨h, ⟨_, _, k, _⟩, _⟩ := H4.swap.ex
      exact rowSh_row k
    have H5 := ((H4.swap).map fun h k => rowSh_emp k).emp
    obtain ⟨s', hs, hb, H6, -, back⟩ := lendAt (L := pt b (.cells cur d.e (0, 0)) :: L.eraseIdx i) 0 rfl H5
    refine ⟨s', hs, ⟨some ⟨b, 0, none⟩, cap, rfl, h1, h4, fun _ => ⟨b, 0, cur, d.e, (0, 0), rfl, hb, ?_⟩⟩, H6, fun H' => ?_⟩
    · simpa using hrow.mono (hs0.trans hs)
    · exact Kin.Osl.shutS (back H') h1 h2 h3 h4 hrow
end
section
variable {κ β : Type} [DecidableEq κ]
/-- Block r is a map with these pairs, in memory that stays. -/
def MapK (K : KC κ) (V : VC β) (s : SH) (r : Nat) (m : List (κ × β)) : Prop := (Uq m ∧ ∀ p ∈ m, K.ok p.1 ∧ V.ok p.2) ∧ ∃ es c, s r = some (.map es c) ∧ (es.toList.map (fun e => (e.key, e.val)) = ((em V m).map fun p => (K.enc p.1, p.2)) ∧ wfE es c)
theorem MapK.mono {K : KC κ} {V : VC β} {s t : SH} (hs : Sub s t) {r : Nat} {m : List (κ × β)} (h : MapK K V s r m) : MapK K V t r m :=
  ⟨h.1, let ⟨es, c, h1, h2⟩ := h.2; ⟨es, c, hs _ _ h1, h2⟩⟩
variable {E : World} {s : SH} {L : List HP} {w : World} {K : KC κ} {V : VC β}
theorem lendMap {r : Nat} {m : List (κ × β)} (i : Nat) (hi : L[i]? = some (mpS K V r m)) (H : Holds E s L w) :
    ∃ s', Sub s s' ∧ MapK K V s' r m ∧ Holds E s' (L.eraseIdx i) w ∧ (∀ {w'}, Holds E s' (L.eraseIdx i) w' → Holds E s L w') ∧ ∀ {L' : List HP} {w'}, Holds E s' L' w' → Holds E s (mpS K V r m :: L') w' := by
  suffices h : ∃ s', Sub s s' ∧ MapK K V s' r m ∧ Holds E s' (L.eraseIdx i) w ∧ ∀ {L' : List HP} {w'}, Holds E s' L' w' → Holds E s (mpS K V r m :: L') w' from
    let ⟨s', h1, h2, h3, h4⟩ := h
    ⟨s', h1, h2, h3, fun H' => (h4 H').unfront i hi, h4⟩
  obtain ⟨hm, H1⟩ := mps_open H hi
  obtain ⟨es, c, he, H2⟩ := mp_open H1
  obtain ⟨s', hs, hb, H6, -, back⟩ := lendAt (L := pt r (.map es c) :: L.eraseIdx i) 0 rfl H2
  exact ⟨s', hs, ⟨hm, es, c, hb, he⟩, H6, fun H' => (back H').map fun _ k => ⟨hm, es, c, he, k⟩⟩
variable {P : Program} {o : Oper} {a : Act} {Φ : Value → World → Prop} {kt : TypeId}
theorem MS_look (M : MK P kt K.enc K.ok) (t : TypeId) {et : TypeId} (ht : P.underlying t = some (.map kt et)) {r : Nat} {m : List (κ × β)} {k : κ} (hk : K.ok k) (hm : MapK K V s r m) (H : Holds E s L w) {z : β} (hz : (zeroValue et).run P w = .ok (V.enc z) w) (b : Bool) :
    (Instr.lookup t (.map (some r)) (K.enc k) b).run P w = .ok (if b then .tuple #[V.enc ((mgt m k).getD z), .bool (mgt m k).isSome] else V.enc ((mgt m k).getD z)) w := by
  obtain ⟨⟨hu, hok⟩, es, c, hr, he, hwf⟩ := hm
  have hb := H.at_s hr
  obtain ⟨lx, hlx⟩ := M.lit k hk
  have e1 : V.enc ((mgt m k).getD z) = (mget (em V m) k).getD (V.enc z) := by rw [em_get]; cases mgt m k <;> rfl
  have e2 : (mgt m k).isSome = (mget (em V m) k).isSome := by rw [em_get]; cases mgt m k <;> rfl
  rw [e1, e2]
  rcases mp_find M hk (em_ok V fun p hp => (hok p hp).1) he w with ⟨h1, h2⟩ | ⟨j, e, v, h1, h2, h3, h4, h5⟩
  · cases b <;> simp [Instr.lookup, run_underlying ht, MapKept.run_getObj_map hb, M.K.check w _ hlx, h1, hz, Result.andThen, mget_none h2]
  · cases b <;> simp [Instr.lookup, run_underlying ht, MapKept.run_getObj_map hb, M.K.check w _ hlx, h1, Result.andThen, mget_mem (em_uq V hu) (List.mem_of_getElem? h5)]
theorem MS_get (M : MK P kt K.enc K.ok) (t : TypeId) (x y : Operand) (ho : o.op = .lookup t x y false) {et : TypeId} (ht : P.underlying t = some (.map kt et)) {r : Nat} {m : List (κ × β)} {k : κ} (hk : K.ok k) (hm : MapK K V s r m)
    (hx : a.eval x = .map (some r)) (hy : a.eval y = K.enc k) (H : Holds E s L w) {z : β} (hz : (zeroValue et).run P w = .ok (V.enc z) w) (h : Φ (V.enc ((mgt m k).getD z)) w) : OpG P o a w Φ := by
  have hr := MS_look M t ht hk hm H hz false
  unfold OpG execOp
  simp only [ho, hx, hy, Sem.run_bind, Sem.run_pure, Result.andThen_ok, hr, Oper.gives]
  exact h
theorem MS_get2 (M : MK P kt K.enc K.ok) (t : TypeId) (x y : Operand) (ho : o.op = .lookup t x y true) {et : TypeId} (ht : P.underlying t = some (.map kt et)) {r : Nat} {m : List (κ × β)} {k : κ} (hk : K.ok k) (hm : MapK K V s r m)
    (hx : a.eval x = .map (some r)) (hy : a.eval y = K.enc k) (H : Holds E s L w) {z : β} (hz : (zeroValue et).run P w = .ok (V.enc z) w) (h : Φ (.tuple #[V.enc ((mgt m k).getD z), .bool (mgt m k).isSome]) w) : OpG P o a w Φ := by
  have hr := MS_look M t ht hk hm H hz true
  unfold OpG execOp
  simp only [ho, hx, hy, Sem.run_bind, Sem.run_pure, Result.andThen_ok, hr, Oper.gives, if_true]
  exact h
end
section
variable {P : Program} {o : Oper} {a : Act} {w : World} {Φ : Value → World → Prop} {E : World} {s : SH} {L : List HP}
/-- append of all elements of a slice that is owned, too. -/
theorem G_appendO {α : Type} {d : Kin α} {s0 : SH} {t : TypeId} (hd : d.At P t) (x y : Operand) (ho : o.op = .call { callee := .builtin .append, args := #[x, y], argTypes := #[t, t] })
    {v u : Value} {xs ys : List α} (H : Holds E s ((d.sh s0).Osl v xs :: (d.sh s0).Osl u ys :: L) w) (hx : a.eval x = v) (hy : a.eval y = u) (hby : (xs.length + ys.length) * d.by_ ≤ 140737488355328)
    (h : ∀ v' w', Holds E s ((d.sh s0).Osl v' (xs ++ ys) :: (d.sh s0).Osl u ys :: L) w' → Φ v' w') : OpG P o a w Φ := by
  by_cases hne : ys = []
  · subst hne
    obtain ⟨A, cap, e1, h1, -⟩ := H.swap.len
    obtain ⟨B, capB, e2, h2, h3, h4⟩ := H.len
    subst e1; subst e2
    obtain ⟨i, z, hi, hz, hzs, hsz, hbytes⟩ := hd.hi
    have hr : (Builtin.append_ #[t, t] o.type #[.slice B xs.length capB, .slice A 0 cap]).run P w = .ok (.slice B xs.length capB) w := by
      cases A <;> cases B <;> simp [Builtin.append_, run_underlying hd.ht, sizeOf, typeInfo, hi, Builtin.lenOf, Builtin.firstCells, loadCells, loadCellsFrom, h2, storeCells]
    unfold OpG execOp
    simp only [ho, resolve, invoke, builtin, Sem.run_bind, Sem.run_pure, Result.andThen_ok, List.map_toArray, List.map_cons, List.map_nil, hx, hy, List.length_nil, hr, Oper.gives]
    exact h _ _ (by simpa using H)
  · obtain ⟨b, cap, cur, ⟨e1, g1, g2, g3, g4⟩, hrow, H1⟩ := Kin.Osl.openS H.swap hne
    subst e1
    have hb := H1.at_pt
    have H3 := (Kin.Row.own hrow H1).rot3'
    refine G_append (d := d.sh s0) ⟨hd.ht, hd.bypos, hd.hi⟩ x y ho H3 hx hy rfl (fun j u hu => ?_) hby (fun v' w' H' => h v' w' (Kin.Osl.shutS H'.swap g1 g2 g3 g4 hrow).swap)
    have e : (⟨b, 0, none⟩ : Addr).add j = ⟨b, j, none⟩ := by unfold Addr.add; split <;> simp_all
    rw [e]; simp only [World.cell?, hb]
    rw [List.getElem?_take] at hu
    split at hu
    · simpa using hu
    · cases hu
end
end Go.Proofs.YtemdmpgekegfhaaDoor
