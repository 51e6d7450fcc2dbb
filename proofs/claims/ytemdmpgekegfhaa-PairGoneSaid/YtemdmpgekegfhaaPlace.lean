/- Places (a key with a value) as keys of a map; m[k] = append(m[k], ..) in a map of slices that it owns. -/
import Derived.Test.YtemdmpgekegfhaaMapF
import Derived.Test.YtemdmpgekegfhaaMapE
import Derived.Test.YtemdmpgekegfhaaMapC
import Derived.Test.YtemdmpgekegfhaaKinds
import Derived.DeepKeys4
namespace Go.Proofs.Ytemdmpgekegfhaa
open Go.RowKit
set_option linter.all false
set_option maxRecDepth 10000

deriving instance DecidableEq for Place
def kcP : KC Place := ⟨fun p => .agg #[.string p.key, .int .i64 p.value], fun p => p.key.size ≤ maxLen ∧ Kin.inI64 p.value⟩
theorem place_laid : laidOutB Try.prog = true := by kernel_rfl
theorem place_lits (s : ByteArray) (n : Int) (h : s.size ≤ maxLen) (hn : Kin.inI64 n) : Try.prog.keyLits (Try.prog.types.size + 1) 108 [.string s, .int .i64 n] = some [.string s.data.toList, .int .i64 n] := by
  have h0 : 0 < Try.prog.types.size := of_decide_eq_true (by kernel_rfl)
  obtain ⟨m, hm⟩ : ∃ m, Try.prog.types.size = m + 1 := ⟨Try.prog.types.size - 1, by omega⟩
  rw [hm]
  have hs : Try.prog.keyLits (m + 1) 9 [.string s] = some [.string s.data.toList] := by
    unfold Program.keyLits
    rw [Try.underlying9]
    exact if_pos h
  have hi : Try.prog.keyLits (m + 1) 3 [.int .i64 n] = some [.int .i64 n] := by
    unfold Program.keyLits
    rw [Try.underlying3]
    refine if_pos ⟨rfl, ?_⟩
    unfold Kin.inI64 at hn
    simp only [Lit.wf, IntKind.min, IntKind.max, IntKind.signed, IntKind.bits, Bool.and_eq_true, decide_eq_true_eq, if_true]
    omega
  have hc : Try.prog.cellsOf 108 = 2 := by kernel_rfl
  have h1 : Try.prog.cellsOf 3 = 1 := by kernel_rfl
  have h2 : Try.prog.cellsOf 9 = 1 := by kernel_rfl
  unfold Program.keyLits
  rw [Try.underlying108]
  simp only []
  rw [if_pos ⟨by rw [hc]; rfl, by kernel_rfl⟩]
  simp only [List.mapM_cons, List.mapM_nil, h1, h2, List.drop_zero, List.drop_succ_cons, List.take_succ_cons, List.take_zero, hi, hs]
  rfl
theorem mk_P : MK Try.prog 108 kcP.enc kcP.ok where
  K := Maps.Keyed.of_law (deep_law_laid place_laid (m := 3) (by omega) (of_decide_eq_true (by kernel_rfl)) (by kernel_rfl) (by rw [Try.underlying108]))
  lit := fun a ha => by
    refine ⟨.string (keyBytes [.string a.key.data.toList, .int .i64 a.value]), ?_⟩
    unfold keyOf
    rw [Try.underlying108]
    have hk : Try.prog.keyType 108 = true := by kernel_rfl
    have hf : Value.formed Try.prog 108 (kcP.enc a) = true := by kernel_rfl
    simp only [hk, hf, Bool.and_self, if_true]
    show ((Try.prog.keyLits (Try.prog.types.size + 1) 108 [.string a.key, .int .i64 a.value]).map fun ls => Lit.string (keyBytes ls)) = _
    rw [place_lits _ _ ha.1 ha.2]; rfl
  inj := fun a b _ _ h => by
    cases a; cases b
    simp only [kcP, Value.agg.injEq, Array.mk.injEq, List.cons.injEq, Value.int.injEq, Value.string.injEq, true_and, and_true] at h
    obtain ⟨rfl, rfl⟩ := h; rfl
section
variable {P : Program} {o : Oper} {a : Act} {w : World} {Φ : Value → World → Prop} {E : World} {s : SH} {L : List HP}
variable {κ α : Type} [DecidableEq κ] {K : KC κ} {d : Kin α} {kt : TypeId}
/-- The map r, ready to be told what its key k has now (by the entry's stamp st). -/
def mpE (P : Program) (t : TypeId) (K : KC κ) (d : Kin α) (s0 : SH) (r : Nat) (f : κ → Option (List α)) (k : κ) (st : Nat) : HP := fun h => ∃ es1 c1, ∃ rest : HP,
  (∀ (v : Value) (xs : List α), ∃ es2 c2, (∀ w : World, w.heap[r]? = some (.map es1 c1) → (Instr.entryStore t (.map (some r)) (goInt st) v).run P w = .ok () { w with heap := w.heap.setIfInBounds r (.map es2 c2) }) ∧
    ∀ h, star (pt r (.map es2 c2)) (star ((d.sh s0).Osl v xs) rest) h → mpO K d s0 r (fset f k xs) h) ∧ star (pt r (.map es1 c1)) rest h
theorem E_entry (M : MK P kt K.enc K.ok) {s0 : SH} (i : Nat) (t : TypeId) (x y : Operand) (ho : o.op = .mapEntry t x y) {et : TypeId} (ht : P.underlying t = some (.map kt et)) {r : Nat} {f : κ → Option (List α)} {k : κ} (hk : K.ok k)
    (hx : a.eval x = .map (some r)) (hy : a.eval y = K.enc k) (H : Holds E s L w) (hi : L[i]? = some (mpO K d s0 r f)) (hz : ∀ w, (zeroValue et).run P w = .ok (.slice none 0 0) w)
    (h : ∀ A c st w', Holds E s ((d.sh s0).Osl (.slice A ((f k).getD []).length c) ((f k).getD []) :: L.set i (mpE P t K d s0 r f k st)) w' → Φ (.tuple #[.slice A ((f k).getD []).length c, goInt st]) w') : OpG P o a w Φ := by
  obtain ⟨m, vs, ⟨hm, hu, hok, hl⟩, H1⟩ := mpO_open i hi H
  obtain ⟨es, c, ⟨he, hwf⟩, H2⟩ := mp_open H1
  obtain ⟨es1, c1, st, hr, hst⟩ := entry_pre M t ht hk (kv_ok hl hok) (kv_uq hl hu) he hwf hz
  refine G_mapEntry 0 t x y ho hx hy H2 rfl hr fun w' H' => ?_
  rw [List.set_cons_zero] at H'
  have fin : ∀ (v0 : Value) (rest : HP), (mget (kv m vs) k).getD (.slice none 0 0) = v0 → (∀ (v : Value) (xs : List α) es2, es2.toList.map (fun e => (e.key, e.val)) = ((mput (kv m vs) k v).map fun p => (K.enc p.1, p.2)) → wfE es2 c1 → ∀ h, star (pt r (.map es2 c1)) (star ((d.sh s0).Osl v xs) rest) h → mpO K d s0 r (fset f k xs) h) →
      Holds E s ((d.sh s0).Osl v0 ((f k).getD []) :: pt r (.map es1 c1) :: rest :: L.eraseIdx i) w' → Φ (.tuple #[(mget (kv m vs) k).getD (.slice none 0 0), goInt st]) w' := by
    intro v0 rest e0 hback H3
    rw [e0]
    obtain ⟨A, cp, rfl, -⟩ := H3.len
    refine h A cp st w' ?_
    have H4 := (H3.swap.swap2.shut.map (A' := mpE P t K d s0 r f k st) fun h q => ⟨es1, c1, rest, fun v xs => by
      obtain ⟨es2, g1, g2, g3⟩ := hst v
      exact ⟨es2, c1, g3, hback v xs es2 g1 g2⟩, q⟩)
    have H5 := H4.back (i + 1) (L := (d.sh s0).Osl (.slice A ((f k).getD []).length cp) ((f k).getD []) :: L) (A := mpO K d s0 r f) (by simpa using hi)
    rw [List.set_cons_succ] at H5
    exact H5
  rcases mgt_idx hu (k := k) with ⟨j, xs, hj, hg⟩ | ⟨hno, hg⟩
  · have hjl : j < vs.length := by rw [hl]; exact (List.getElem?_eq_some_iff.1 hj).1
    have hjm : j < m.length := by omega
    have hv : vs[j]? = some vs[j] := List.getElem?_eq_getElem hjl
    have hfk : (f k).getD [] = xs := by rw [← hm, hg]; rfl
    have hmg : (mget (kv m vs) k).getD (.slice none 0 0) = vs[j] := by rw [mget_mem (kv_uq hl hu) (List.mem_of_getElem? (kv_get hj hv))]; rfl
    refine fin vs[j] (oslAll d s0 (vs.eraseIdx j) (m.eraseIdx j)) hmg ?_ ?_
    · intro v xs' es2 g1 g2 h q
      have e1 : mput (kv m vs) k v = kv (mpt m k xs') (vs.set j v) := by
        rw [mput_old (kv_uq hl hu) (kv_get hj hv), mpt_idx hu hj]
        unfold kv
        apply List.ext_getElem?
        intro q
        rw [List.getElem?_set, List.getElem?_zipWith, List.getElem?_zipWith, List.getElem?_set, List.getElem?_set]
        by_cases e : j = q
        · subst e
          have hz : j < (List.zipWith (fun (p : κ × List α) v => (p.1, v)) m vs).length := by rw [List.length_zipWith]; omega
          rw [if_pos rfl, if_pos rfl, if_pos rfl, if_pos hz, if_pos hjm, if_pos hjl]
        · rw [if_neg e, if_neg e, if_neg e]
      rw [e1] at g1
      refine ⟨mpt m k xs', vs.set j v, ⟨fun a => ?_, mpt_uq hu k xs', fun p hp => (mpt_mem hp).elim (fun e => by subst e; exact hk) (hok p), ?_⟩, ?_⟩
      · rw [mgt_put]; unfold fset; rw [hm]
      · rw [mpt_idx hu hj, List.length_set, List.length_set, hl]
      · refine star_mono (fun _ a => ⟨es2, c1, ⟨g1, g2⟩, a⟩) (fun h b => ?_) q
        rw [mpt_idx hu hj]
        exact oslAll_set (d := d) (s0 := s0) (v := v) (p := (k, xs')) hjl hl h b
    · rw [hfk]
      have H3 := (H'.swap.map fun h q => (oslAll_out hv hj h).1 q).open_
      exact H3.swap2
  · have hfk : (f k).getD [] = [] := by rw [← hm, hg]; rfl
    have hnk : ∀ p ∈ kv m vs, p.1 ≠ k := fun p hp e => by
      have : p.1 ∈ (kv m vs).map (·.1) := List.mem_map.2 ⟨p, hp, rfl⟩
      rw [kv_keys hl] at this
      obtain ⟨q, hq, e2⟩ := List.mem_map.1 this
      exact hno q hq (e2.trans e)
    have hmg : (mget (kv m vs) k).getD (.slice none 0 0) = .slice none 0 0 := by rw [mget_none hnk]; rfl
    refine fin (.slice none 0 0) (oslAll d s0 vs m) hmg ?_ ?_
    · intro v xs' es2 g1 g2 h q
      have e0 : mpt m k xs' = m ++ [(k, xs')] := by
        unfold mpt
        rw [if_neg]
        intro hh
        obtain ⟨p, hp, e⟩ := List.any_eq_true.1 hh
        exact hno p hp (by simpa using e)
      have e1 : mput (kv m vs) k v = kv (mpt m k xs') (vs ++ [v]) := by
        rw [mput_new hnk, e0]
        unfold kv
        rw [List.zipWith_append (by rw [hl])]; rfl
      rw [e1] at g1
      refine ⟨mpt m k xs', vs ++ [v], ⟨fun a => ?_, mpt_uq hu k xs', fun p hp => (mpt_mem hp).elim (fun e => by subst e; exact hk) (hok p), ?_⟩, ?_⟩
      · rw [mgt_put]; unfold fset; rw [hm]
      · rw [e0, List.length_append, List.length_append, hl]; rfl
      · refine star_mono (fun _ a => ⟨es2, c1, ⟨g1, g2⟩, a⟩) (fun h b => ?_) q
        rw [e0]
        exact oslAll_snoc (d := d) (s0 := s0) (v := v) (p := (k, xs')) hl h b
    · rw [hfk]
      exact Kin.Osl.nil H'
theorem E_store {s0 : SH} (i : Nat) (t : TypeId) (x y z : Operand) (ho : o.op = .entryStore t x y z) {r : Nat} {f : κ → Option (List α)} {k : κ} {st : Nat} {v : Value} {xs : List α}
    (hx : a.eval x = .map (some r)) (hy : a.eval y = goInt st) (hz : a.eval z = v) (H : Holds E s ((d.sh s0).Osl v xs :: L) w) (hi : L[i]? = some (mpE P t K d s0 r f k st))
    (h : ∀ w', Holds E s (L.set i (mpO K d s0 r (fset f k xs))) w' → Φ undef w') : OpG P o a w Φ := by
  have H0 := H.front (i + 1) (A := mpE P t K d s0 r f k st) (by simpa using hi)
  rw [List.eraseIdx_cons_succ] at H0
  obtain ⟨es1, H1⟩ := Holds.exists_ H0
  obtain ⟨c1, H1⟩ := Holds.exists_ H1
  obtain ⟨rest, H1⟩ := Holds.exists_ H1
  obtain ⟨hst, H2⟩ := Holds.pure_ H1
  obtain ⟨es2, c2, hr, hb⟩ := hst v xs
  refine G_entryStore 0 t x y z ho hx hy hz H2.open_ rfl hr fun w' H' => h w' (Holds.back i hi ?_)
  rw [List.set_cons_zero] at H'
  have H3 := ((H'.rot3.swap).shut.swap).shut
  exact H3.map fun h q => hb h q
end
theorem kWr_pure : kWr.Pure := fun _ _ _ _ h => h
theorem kWy_pure : kWy.Pure := fun _ _ _ _ h => h
theorem kPr_pure : kPr.Pure := fun _ _ _ _ h => h
theorem kcS_inj {a b : ByteArray} (h : kcS.enc a = kcS.enc b) : a = b := Value.string.inj h
theorem kcI_inj {a b : Int} (h : kcI.enc a = kcI.enc b) : a = b := (Value.int.inj h).2
theorem kcP_inj {a b : Place} (h : kcP.enc a = kcP.enc b) : a = b := by
  cases a; cases b
  simp only [kcP, Value.agg.injEq, Array.mk.injEq, List.cons.injEq, Value.int.injEq, Value.string.injEq, true_and, and_true] at h
  obtain ⟨rfl, rfl⟩ := h; rfl
theorem neg_if {α : Sort _} {a b : α} (c : Bool) : (if c = true then b else a) = (if (!c) = true then a else b) := by cases c <;> rfl
/-! ### going over a map that stays -/
theorem any_step {α : Sort _} {p : Prop} {dp : Decidable p} {c : Bool} {a b r : α} (hp : c = true → p) (h : (@ite α p dp a b) = r) : (if c = true then a else (@ite α p dp a b)) = r := by
  by_cases hc : c = true
  · rw [if_pos hc]; rwa [if_pos (hp hc)] at h
  · rw [if_neg hc]; exact h
theorem ifN {α : Sort _} {p : Prop} {dp : Decidable p} {a b r : α} (hp : ¬ p) (h : (@ite α p dp a b) = r) : b = r := by rwa [if_neg hp] at h
section
variable {κ β : Type} [DecidableEq κ] {K : KC κ} {V : VC β} {f : κ → Option β} {m : List (κ × β)} {es : Array MapEntry}
theorem mgt_of_mem {m : List (κ × β)} (hu : Uq m) {q : κ × β} (h : q ∈ m) : mgt m q.1 = some q.2 := by
  induction m with
  | nil => cases h
  | cons p m ih =>
    rcases List.mem_cons.1 h with e | e
    · subst e; unfold mgt; simp
    · have h1 := (List.pairwise_cons.1 hu).1 q e
      have h2 := ih (List.pairwise_cons.1 hu).2 e
      unfold mgt at h2 ⊢
      rw [List.find?_cons]
      simp only [h1, decide_false]
      exact h2
theorem KF_ent (hm : ∀ k, mgt m k = f k) (hu : Uq m) (hok : ∀ p ∈ m, K.ok p.1 ∧ V.ok p.2) (he : es.toList.map (fun e => (e.key, e.val)) = ((em V m).map fun p => (K.enc p.1, p.2))) {key val : Value} {born : Nat} (h : (⟨key, val, born⟩ : MapEntry) ∈ es.toList) :
    ∃ k0 x0, key = K.enc k0 ∧ K.ok k0 ∧ f k0 = some x0 ∧ val = V.enc x0 := by
  have h1 : (key, val) ∈ (em V m).map fun p => (K.enc p.1, p.2) := by rw [← he]; exact List.mem_map.2 ⟨_, h, rfl⟩
  obtain ⟨p, hp, e⟩ := List.mem_map.1 h1
  unfold em at hp
  obtain ⟨q, hq, rfl⟩ := List.mem_map.1 hp
  refine ⟨q.1, q.2, (congrArg Prod.fst e).symm, (hok q hq).1, ?_, (congrArg Prod.snd e).symm⟩
  rw [← hm]
  exact mgt_of_mem hu hq
theorem KF_all (hm : ∀ k, mgt m k = f k) (he : es.toList.map (fun e => (e.key, e.val)) = ((em V m).map fun p => (K.enc p.1, p.2))) {k : κ} {x : β} (h : f k = some x) : ∃ e ∈ es.toList, e.key = K.enc k := by
  rw [← hm] at h
  have h1 : (K.enc k, V.enc x) ∈ es.toList.map (fun e => (e.key, e.val)) := by
    rw [he]; exact List.mem_map.2 ⟨(k, V.enc x), List.mem_map.2 ⟨(k, x), mgt_mem h, rfl⟩, rfl⟩
  obtain ⟨e, h2, h3⟩ := List.mem_map.1 h1
  exact ⟨e, h2, congrArg Prod.fst h3⟩
end
end Go.Proofs.Ytemdmpgekegfhaa
