/- Maps as functions: what they hold, whatever the order in which it came. -/
import Derived.Test.YtemdmpgekegfhaaDoorLend
import Derived.Laws.Pointers
namespace Go.Proofs.YtemdmpgekegfhaaDoor
open Go.RowKit
set_option linter.all false
set_option maxRecDepth 10000

def fset {κ β : Type} [DecidableEq κ] (f : κ → Option β) (k : κ) (v : β) : κ → Option β := fun a => if a = k then some v else f a
def fdel {κ β : Type} [DecidableEq κ] (f : κ → Option β) (k : κ) : κ → Option β := fun a => if a = k then none else f a
def fnil {κ β : Type} : κ → Option β := fun _ => none
section
variable {κ β : Type} [DecidableEq κ]
def mpF (K : KC κ) (V : VC β) (r : Nat) (f : κ → Option β) : HP := fun h => ∃ m : List (κ × β), (∀ k, mgt m k = f k) ∧ mpS K V r m h
def MapKF (K : KC κ) (V : VC β) (s : SH) (r : Nat) (f : κ → Option β) : Prop := ∃ m : List (κ × β), (∀ k, mgt m k = f k) ∧ MapK K V s r m
theorem MapKF.mono {K : KC κ} {V : VC β} {s t : SH} (hs : Sub s t) {r : Nat} {f : κ → Option β} (h : MapKF K V s r f) : MapKF K V t r f := let ⟨m, h1, h2⟩ := h; ⟨m, h1, h2.mono hs⟩
variable {E : World} {s : SH} {L : List HP} {w : World} {K : KC κ} {V : VC β}
theorem mpF_open {r : Nat} {f : κ → Option β} (i : Nat) (hi : L[i]? = some (mpF K V r f)) (H : Holds E s L w) : ∃ m, (∀ k, mgt m k = f k) ∧ Holds E s (mpS K V r m :: L.eraseIdx i) w := by
  obtain ⟨m, H1⟩ := Holds.exists_ (H.front i hi)
  obtain ⟨h1, H2⟩ := Holds.pure_ H1
  exact ⟨m, h1, H2⟩
theorem lendMapF {r : Nat} {f : κ → Option β} (i : Nat) (hi : L[i]? = some (mpF K V r f)) (H : Holds E s L w) :
    ∃ s', Sub s s' ∧ MapKF K V s' r f ∧ Holds E s' (L.eraseIdx i) w ∧ (∀ {w'}, Holds E s' (L.eraseIdx i) w' → Holds E s L w') ∧ ∀ {L' : List HP} {w'}, Holds E s' L' w' → Holds E s (mpF K V r f :: L') w' := by
  obtain ⟨m, hm, H1⟩ := mpF_open i hi H
  obtain ⟨s', h1, h2, h3, -, h4⟩ := lendMap 0 rfl H1
  have h5 : ∀ {L' : List HP} {w'}, Holds E s' L' w' → Holds E s (mpF K V r f :: L') w' := fun H' => (h4 H').map fun _ q => ⟨m, hm, q⟩
  exact ⟨s', h1, ⟨m, hm, h2⟩, h3, fun H' => (h5 H').unfront i hi, h5⟩
variable {P : Program} {o : Oper} {a : Act} {Φ : Value → World → Prop} {kt : TypeId}
theorem F_make (t : TypeId) (ho : o.op = .makeMap t none) (H : Holds E s L w) (h : ∀ r w', Holds E s (mpF K V r fnil :: L) w' → Φ (.map (some r)) w') : OpG P o a w Φ :=
  M_make (K := K) (V := V) t ho H fun r w' H' => h r w' (H'.map fun _ q => ⟨[], fun _ => rfl, q⟩)
theorem F_get (M : MK P kt K.enc K.ok) (i : Nat) (t : TypeId) (x y : Operand) (ho : o.op = .lookup t x y false) {et : TypeId} (ht : P.underlying t = some (.map kt et)) {r : Nat} {f : κ → Option β} {k : κ} (hk : K.ok k)
    (hx : a.eval x = .map (some r)) (hy : a.eval y = K.enc k) (H : Holds E s L w) (hi : L[i]? = some (mpF K V r f)) {z : β} (hz : (zeroValue et).run P w = .ok (V.enc z) w) (h : Φ (V.enc ((f k).getD z)) w) : OpG P o a w Φ := by
  obtain ⟨m, hm, H1⟩ := mpF_open i hi H
  exact M_get M 0 t x y ho ht hk hx hy H1 rfl hz (by rw [hm]; exact h)
theorem F_get2 (M : MK P kt K.enc K.ok) (i : Nat) (t : TypeId) (x y : Operand) (ho : o.op = .lookup t x y true) {et : TypeId} (ht : P.underlying t = some (.map kt et)) {r : Nat} {f : κ → Option β} {k : κ} (hk : K.ok k)
    (hx : a.eval x = .map (some r)) (hy : a.eval y = K.enc k) (H : Holds E s L w) (hi : L[i]? = some (mpF K V r f)) {z : β} (hz : (zeroValue et).run P w = .ok (V.enc z) w) (h : Φ (.tuple #[V.enc ((f k).getD z), .bool (f k).isSome]) w) : OpG P o a w Φ := by
  obtain ⟨m, hm, H1⟩ := mpF_open i hi H
  exact M_get2 M 0 t x y ho ht hk hx hy H1 rfl hz (by rw [hm]; exact h)
theorem F_put (M : MK P kt K.enc K.ok) (i : Nat) (t : TypeId) (x y z : Operand) (ho : o.op = .mapUpdate t x y z) {et : TypeId} (ht : P.underlying t = some (.map kt et)) {r : Nat} {f : κ → Option β} {k : κ} {v : β} (hk : K.ok k) (hv : V.ok v)
    (hx : a.eval x = .map (some r)) (hy : a.eval y = K.enc k) (hz : a.eval z = V.enc v) (H : Holds E s L w) (hi : L[i]? = some (mpF K V r f)) (h : ∀ w', Holds E s (L.set i (mpF K V r (fset f k v))) w' → Φ undef w') : OpG P o a w Φ := by
  obtain ⟨m, hm, H1⟩ := mpF_open i hi H
  refine M_put M 0 t x y z ho ht hk hv hx hy hz H1 rfl fun w' H' => h w' (Holds.back i hi ?_)
  rw [List.set_cons_zero] at H'
  exact H'.map fun _ q => ⟨mpt m k v, fun a => by rw [mgt_put]; unfold fset; rw [hm], q⟩
theorem F_del (M : MK P kt K.enc K.ok) (i : Nat) (t : TypeId) (x y : Operand) (ho : o.op = .call { callee := .builtin .delete, args := #[x, y], argTypes := #[t, kt] }) {et : TypeId} (ht : P.underlying t = some (.map kt et)) {r : Nat} {f : κ → Option β} {k : κ} (hk : K.ok k)
    (hx : a.eval x = .map (some r)) (hy : a.eval y = K.enc k) (H : Holds E s L w) (hi : L[i]? = some (mpF K V r f)) (h : ∀ w', Holds E s (L.set i (mpF K V r (fdel f k))) w' → Φ (.tuple #[]) w') : OpG P o a w Φ := by
  obtain ⟨m, hm, H1⟩ := mpF_open i hi H
  refine M_del M 0 t x y ho ht hk hx hy H1 rfl fun w' H' => h w' (Holds.back i hi ?_)
  rw [List.set_cons_zero] at H'
  exact H'.map fun _ q => ⟨mdl m k, fun a => by rw [mgt_del]; unfold fdel; rw [hm], q⟩
theorem FS_get (M : MK P kt K.enc K.ok) (t : TypeId) (x y : Operand) (ho : o.op = .lookup t x y false) {et : TypeId} (ht : P.underlying t = some (.map kt et)) {r : Nat} {f : κ → Option β} {k : κ} (hk : K.ok k) (hm : MapKF K V s r f)
    (hx : a.eval x = .map (some r)) (hy : a.eval y = K.enc k) (H : Holds E s L w) {z : β} (hz : (zeroValue et).run P w = .ok (V.enc z) w) (h : Φ (V.enc ((f k).getD z)) w) : OpG P o a w Φ := by
  obtain ⟨m, h1, h2⟩ := hm
  exact MS_get M t x y ho ht hk h2 hx hy H hz (by rw [h1]; exact h)
theorem FS_get2 (M : MK P kt K.enc K.ok) (t : TypeId) (x y : Operand) (ho : o.op = .lookup t x y true) {et : TypeId} (ht : P.underlying t = some (.map kt et)) {r : Nat} {f : κ → Option β} {k : κ} (hk : K.ok k) (hm : MapKF K V s r f)
    (hx : a.eval x = .map (some r)) (hy : a.eval y = K.enc k) (H : Holds E s L w) {z : β} (hz : (zeroValue et).run P w = .ok (V.enc z) w) (h : Φ (.tuple #[V.enc ((f k).getD z), .bool (f k).isSome]) w) : OpG P o a w Φ := by
  obtain ⟨m, h1, h2⟩ := hm
  exact MS_get2 M t x y ho ht hk h2 hx hy H hz (by rw [h1]; exact h)
end
/-! ### maps whose values are slices that they own -/
section
variable {κ α : Type} [DecidableEq κ]
/-- The slices behind the values vs hold the lists of m. -/
def oslAll (d : Kin α) (s0 : SH) : List Value → List (κ × List α) → HP
  | v :: vs, p :: m => star ((d.sh s0).Osl v p.2) (oslAll d s0 vs m)
  | [], [] => emp
  | _, _ => fun _ => False
def kv (m : List (κ × List α)) (vs : List Value) : List (κ × Value) := m.zipWith (fun p v => (p.1, v)) vs
def mpO (K : KC κ) (d : Kin α) (s0 : SH) (r : Nat) (f : κ → Option (List α)) : HP := fun h => ∃ m : List (κ × List α), ∃ vs : List Value, ((∀ k, mgt m k = f k) ∧ Uq m ∧ (∀ p ∈ m, K.ok p.1) ∧ vs.length = m.length) ∧ star (mpP K.enc r (kv m vs)) (oslAll d s0 vs m) h
/-- The same, but for the slice of the key k, which is out; v is what the map has of it. -/
def mpH (K : KC κ) (d : Kin α) (s0 : SH) (r : Nat) (f : κ → Option (List α)) (k : κ) (v : Value) : HP := fun h => ∃ m : List (κ × List α), ∃ vs : List Value, ∃ j : Nat,
  ((∀ k, mgt m k = f k) ∧ Uq m ∧ (∀ p ∈ m, K.ok p.1) ∧ vs.length = m.length ∧ ((vs[j]? = some v ∧ (m[j]?).map (·.1) = some k) ∨ (m.length ≤ j ∧ f k = none ∧ v = .slice none 0 0))) ∧ star (mpP K.enc r (kv m vs)) (oslAll d s0 (vs.eraseIdx j) (m.eraseIdx j)) h
theorem oslAll_out {d : Kin α} {s0 : SH} : ∀ {vs : List Value} {m : List (κ × List α)} {j : Nat} {v : Value} {p : κ × List α}, vs[j]? = some v → m[j]? = some p → ∀ h, oslAll d s0 vs m h ↔ star ((d.sh s0).Osl v p.2) (oslAll d s0 (vs.eraseIdx j) (m.eraseIdx j)) h
  | v0 :: vs, p0 :: m, 0, v, p, h1, h2, h => by simp at h1 h2; subst h1; subst h2; rfl
  | v0 :: vs, p0 :: m, j + 1, v, p, h1, h2, h => by
    simp only [List.getElem?_cons_succ] at h1 h2
    have ih := oslAll_out (d := d) (s0 := s0) h1 h2
    show star ((d.sh s0).Osl v0 p0.2) (oslAll d s0 vs m) h ↔ star ((d.sh s0).Osl v p.2) (star ((d.sh s0).Osl v0 p0.2) (oslAll d s0 (vs.eraseIdx j) (m.eraseIdx j))) h
    exact ⟨fun k => star_swap (star_mono (fun _ a => a) (fun h k => (ih h).1 k) k), fun k => star_mono (fun _ a => a) (fun h k => (ih h).2 k) (star_swap k)⟩
  | [], _, j, v, p, h1, _, _ => by simp at h1
  | _ :: _, [], j, v, p, _, h2, _ => by simp at h2
theorem oslAll_snoc {d : Kin α} {s0 : SH} : ∀ {vs : List Value} {m : List (κ × List α)} {v : Value} {p : κ × List α}, vs.length = m.length → ∀ h, star ((d.sh s0).Osl v p.2) (oslAll d s0 vs m) h → oslAll d s0 (vs ++ [v]) (m ++ [p]) h
  | [], [], v, p, _, h, k => k
  | v0 :: vs, p0 :: m, v, p, hl, h, k => star_mono (fun _ a => a) (fun h k => oslAll_snoc (by simpa using hl) h k) (star_swap k)
  | [], _ :: _, _, _, hl, _, _ => by simp at hl
  | _ :: _, [], _, _, hl, _, _ => by simp at hl
theorem oslAll_set {d : Kin α} {s0 : SH} : ∀ {vs : List Value} {m : List (κ × List α)} {j : Nat} {v : Value} {p : κ × List α}, j < vs.length → vs.length = m.length → ∀ h, star ((d.sh s0).Osl v p.2) (oslAll d s0 (vs.eraseIdx j) (m.eraseIdx j)) h → oslAll d s0 (vs.set j v) (m.set j p) h
  | v0 :: vs, p0 :: m, 0, v, p, _, _, h, k => k
  | v0 :: vs, p0 :: m, j + 1, v, p, hj, hl, h, k => star_mono (fun _ a => a) (fun h k => oslAll_set (by simpa using hj) (by simpa using hl) h k) (star_swap k)
  | [], _, j, v, p, hj, _, _, _ => by simp at hj
  | _ :: _, [], _, _, _, _, hl, _, _ => by simp at hl
theorem kv_get {m : List (κ × List α)} {vs : List Value} {j : Nat} {p : κ × List α} {v : Value} (h1 : m[j]? = some p) (h2 : vs[j]? = some v) : (kv m vs)[j]? = some (p.1, v) := by
  unfold kv; rw [List.getElem?_zipWith, h1, h2]
theorem kv_keys {m : List (κ × List α)} {vs : List Value} (hl : vs.length = m.length) : (kv m vs).map (·.1) = m.map (·.1) := by
  unfold kv
  apply List.ext_getElem?
  intro j
  rw [List.getElem?_map, List.getElem?_map, List.getElem?_zipWith]
  cases h1 : m[j]? with
  | none => simp
  | some p =>
    have : j < vs.length := by rw [hl]; exact (List.getElem?_eq_some_iff.1 h1).1
    rw [List.getElem?_eq_getElem this]; rfl
theorem kv_ok {m : List (κ × List α)} {vs : List Value} (hl : vs.length = m.length) {ok : κ → Prop} (h : ∀ p ∈ m, ok p.1) : ∀ p ∈ kv m vs, ok p.1 := fun p hp => by
  have : p.1 ∈ (kv m vs).map (·.1) := List.mem_map.2 ⟨p, hp, rfl⟩
  rw [kv_keys hl] at this
  obtain ⟨q, hq, e⟩ := List.mem_map.1 this
  rw [← e]; exact h q hq
theorem kv_uq {m : List (κ × List α)} {vs : List Value} (hl : vs.length = m.length) (h : Uq m) : Uniq (kv m vs) := by
  unfold Uniq; unfold Uq at h
  have h1 : (m.map (·.1)).Pairwise (· ≠ ·) := by rw [List.pairwise_map]; exact h
  rw [← kv_keys hl, List.pairwise_map] at h1
  exact h1
theorem mgt_idx {m : List (κ × List α)} (hu : Uq m) {k : κ} : (∃ (j : Nat) (xs : List α), m[j]? = some (k, xs) ∧ mgt m k = some xs) ∨ ((∀ p ∈ m, p.1 ≠ k) ∧ mgt m k = none) := by
  cases hg : mgt m k with
  | some xs =>
    obtain ⟨j, hj⟩ := List.getElem?_of_mem (mgt_mem hg)
    exact .inl ⟨j, xs, hj, rfl⟩
  | none =>
    refine .inr ⟨fun p hp e => ?_, rfl⟩
    unfold mgt at hg
    cases hf : m.find? (fun p => decide (p.1 = k)) with
    | some q => rw [hf] at hg; cases hg
    | none => have := List.find?_eq_none.1 hf p hp; simp [e] at this
variable {E : World} {s : SH} {L : List HP} {w : World} {K : KC κ} {d : Kin α} {P : Program} {o : Oper} {a : Act} {Φ : Value → World → Prop} {kt : TypeId}
theorem to_star_emp {A : HP} {h : SH} (k : A h) : star A emp h := ⟨h, fun _ => none, k, fun _ => rfl, fun _ => .inr rfl, by funext b; unfold uni; cases h b <;> rfl⟩
theorem O_make (s0 : SH) (t : TypeId) (ho : o.op = .makeMap t none) (H : Holds E s L w) (h : ∀ r w', Holds E s (mpO K d s0 r fnil :: L) w' → Φ (.map (some r)) w') : OpG P o a w Φ :=
  G_makeMap (enc := K.enc) t ho H fun r w' H' => h r w' (H'.map fun _ q => ⟨[], [], ⟨fun _ => rfl, List.Pairwise.nil, fun p hp => (List.not_mem_nil hp).elim, rfl⟩, to_star_emp q⟩)
theorem oslAll_mono {s0 s1 : SH} (hs : Sub s0 s1) : ∀ {vs : List Value} {m : List (κ × List α)} (h : SH), oslAll d s0 vs m h → oslAll d s1 vs m h
  | v :: vs, p :: m, h, k => star_mono (fun h k => Kin.Osl.sh_mono hs h k) (fun h k => oslAll_mono hs h k) k
  | [], [], _, k => k
  | [], _ :: _, _, k => k.elim
  | _ :: _, [], _, k => k.elim
theorem mpO_mono {s0 s1 : SH} (hs : Sub s0 s1) {r : Nat} {f : κ → Option (List α)} (h : SH) (k : mpO K d s0 r f h) : mpO K d s1 r f h :=
  let ⟨m, vs, hm, k⟩ := k
  ⟨m, vs, hm, star_mono (fun _ a => a) (fun h k => oslAll_mono hs h k) k⟩
theorem mpO_open {s0 : SH} {r : Nat} {f : κ → Option (List α)} (i : Nat) (hi : L[i]? = some (mpO K d s0 r f)) (H : Holds E s L w) :
    ∃ (m : List (κ × List α)) (vs : List Value), ((∀ k, mgt m k = f k) ∧ Uq m ∧ (∀ p ∈ m, K.ok p.1) ∧ vs.length = m.length) ∧ Holds E s (mpP K.enc r (kv m vs) :: oslAll d s0 vs m :: L.eraseIdx i) w := by
  obtain ⟨m, H1⟩ := Holds.exists_ (H.front i hi)
  obtain ⟨vs, H1⟩ := Holds.exists_ H1
  obtain ⟨h1, H2⟩ := Holds.pure_ H1
  exact ⟨m, vs, h1, H2.open_⟩
theorem mpH_mono {s0 s1 : SH} (hs : Sub s0 s1) {r : Nat} {f : κ → Option (List α)} {k : κ} {v : Value} (h : SH) (q : mpH K d s0 r f k v h) : mpH K d s1 r f k v h :=
  let ⟨m, vs, j, hm, q⟩ := q
  ⟨m, vs, j, hm, star_mono (fun _ a => a) (fun h k => oslAll_mono hs h k) q⟩
theorem oslAll_pure (hp : d.Pure) {s0 s1 : SH} : ∀ {vs : List Value} {m : List (κ × List α)} (h : SH), oslAll d s0 vs m h → oslAll d s1 vs m h
  | v :: vs, p :: m, h, k => star_mono (fun h k => Kin.Pure.osl hp h k) (fun h k => oslAll_pure hp h k) k
  | [], [], _, k => k
  | [], _ :: _, _, k => k.elim
  | _ :: _, [], _, k => k.elim
theorem mpO_pure (hp : d.Pure) {s0 s1 : SH} {r : Nat} {f : κ → Option (List α)} (h : SH) (k : mpO K d s0 r f h) : mpO K d s1 r f h :=
  let ⟨m, vs, hm, k⟩ := k
  ⟨m, vs, hm, star_mono (fun _ a => a) (fun h k => oslAll_pure hp h k) k⟩
/-- The slice of a key is taken out of the map. -/
theorem mpO_take {s0 : SH} (k : κ) (i : Nat) {r : Nat} {f : κ → Option (List α)} (hi : L[i]? = some (mpO K d s0 r f)) (H : Holds E s L w) :
    ∃ A c, Holds E s ((d.sh s0).Osl (.slice A ((f k).getD []).length c) ((f k).getD []) :: L.set i (mpH K d s0 r f k (.slice A ((f k).getD []).length c))) w := by
  obtain ⟨m, vs, ⟨hm, hu, hok, hl⟩, H1⟩ := mpO_open i hi H
  have fin : ∀ v, Holds E s ((d.sh s0).Osl v ((f k).getD []) :: mpH K d s0 r f k v :: L.eraseIdx i) w → ∃ A c, Holds E s ((d.sh s0).Osl (.slice A ((f k).getD []).length c) ((f k).getD []) :: L.set i (mpH K d s0 r f k (.slice A ((f k).getD []).length c))) w := fun v H' => by
    obtain ⟨A, c, rfl, -⟩ := H'.len
    exact ⟨A, c, (H'.swap.back (i + 1) (L := (d.sh s0).Osl (.slice A ((f k).getD []).length c) ((f k).getD []) :: L) (A := mpO K d s0 r f) (by simpa using hi))⟩
  rcases mgt_idx hu (k := k) with ⟨j, xs, hj, hg⟩ | ⟨hno, hg⟩
  · have hjl : j < vs.length := by rw [hl]; exact (List.getElem?_eq_some_iff.1 hj).1
    have hv : vs[j]? = some vs[j] := List.getElem?_eq_getElem hjl
    refine fin vs[j] ?_
    have hfk : (f k).getD [] = xs := by rw [← hm, hg]; rfl
    rw [hfk]
    have H2 := (H1.swap.map fun h q => (oslAll_out hv hj h).1 q).open_
    have H3 : Holds E s (mpP K.enc r (kv m vs) :: oslAll d s0 (vs.eraseIdx j) (m.eraseIdx j) :: (d.sh s0).Osl vs[j] xs :: L.eraseIdx i) w := H2.rot3'.swap2
    exact (H3.shut.map fun h q => ⟨m, vs, j, ⟨hm, hu, hok, hl, .inl ⟨hv, by rw [hj]; rfl⟩⟩, q⟩).swap
  · refine fin (.slice none 0 0) ?_
    have hfk : (f k).getD [] = [] := by rw [← hm, hg]; rfl
    rw [hfk]
    refine Kin.Osl.nil (H1.shut.map fun h q => ⟨m, vs, m.length, ⟨hm, hu, hok, hl, .inr ⟨Nat.le_refl _, by rw [← hm]; exact hg, rfl⟩⟩, ?_⟩)
    rw [List.eraseIdx_of_length_le (by omega), List.eraseIdx_of_length_le (by omega)]; exact q
/-- What the map has of the key whose slice is out. -/
theorem H_get (M : MK P kt K.enc K.ok) {s0 : SH} (i : Nat) (t : TypeId) (x y : Operand) (ho : o.op = .lookup t x y false) {et : TypeId} (ht : P.underlying t = some (.map kt et)) {r : Nat} {f : κ → Option (List α)} {k : κ} {v : Value} (hk : K.ok k)
    (hx : a.eval x = .map (some r)) (hy : a.eval y = K.enc k) (H : Holds E s L w) (hi : L[i]? = some (mpH K d s0 r f k v)) (hz : (zeroValue et).run P w = .ok (.slice none 0 0) w) (h : Φ v w) : OpG P o a w Φ := by
  obtain ⟨m, H1⟩ := Holds.exists_ (H.front i hi)
  obtain ⟨vs, H1⟩ := Holds.exists_ H1
  obtain ⟨j, H1⟩ := Holds.exists_ H1
  obtain ⟨⟨hm, hu, hok, hl, hj⟩, H2⟩ := Holds.pure_ H1
  refine G_lookup M 0 t x y ho ht hk (kv_ok hl hok) (kv_uq hl hu) hx hy H2.open_ rfl hz ?_
  rcases hj with ⟨hv, hjk⟩ | ⟨-, hno, rfl⟩
  · cases hq : m[j]? with
    | none => rw [hq] at hjk; cases hjk
    | some p =>
      rw [hq] at hjk
      have e : p.1 = k := Option.some.inj hjk
      rw [mget_mem (kv_uq hl hu) (List.mem_of_getElem? (e ▸ kv_get hq hv))]
      exact h
  · rw [mget_none fun p hp e => ?_]
    · exact h
    · have : p.1 ∈ (kv m vs).map (·.1) := List.mem_map.2 ⟨p, hp, rfl⟩
      rw [kv_keys hl] at this
      obtain ⟨q, hq, e2⟩ := List.mem_map.1 this
      rcases mgt_idx hu (k := k) with ⟨_, _, _, hg⟩ | ⟨hn, _⟩
      · rw [hm, hno] at hg; cases hg
      · exact hn q hq (e2.trans e)
theorem mpt_idx {m : List (κ × List α)} {k : κ} {xs xs' : List α} {j : Nat} (hu : Uq m) (hj : m[j]? = some (k, xs)) : mpt m k xs' = m.set j (k, xs') := by
  unfold mpt
  rw [if_pos (List.any_eq_true.2 ⟨_, List.mem_of_getElem? hj, by simp⟩)]
  obtain ⟨hjl, hje⟩ := List.getElem?_eq_some_iff.1 hj
  apply List.ext_getElem
  · simp
  · intro q h1 h2
    rw [List.getElem_map, List.getElem_set]
    have hq : q < m.length := by simpa using h1
    by_cases e : j = q
    · subst e; rw [if_pos rfl, hje]; simp
    · rw [if_neg e]
      have : m[q].1 ≠ k := by
        have hp := List.pairwise_iff_getElem.1 hu
        rcases Nat.lt_or_ge j q with h3 | h3
        · have := hp j q hjl hq h3; rw [hje] at this; exact fun h => this h.symm
        · have := hp q j hq hjl (by omega); rw [hje] at this; exact this
      rw [if_neg this]
/-- A slice that is owned is put into the map, at the key whose own slice is out. -/
theorem O_in (M : MK P kt K.enc K.ok) {s0 : SH} (i : Nat) (t : TypeId) (x y z : Operand) (ho : o.op = .mapUpdate t x y z) {et : TypeId} (ht : P.underlying t = some (.map kt et)) {r : Nat} {f : κ → Option (List α)} {k : κ} {v v0 : Value} {xs' : List α} (hk : K.ok k)
    (hx : a.eval x = .map (some r)) (hy : a.eval y = K.enc k) (hv : a.eval z = v) (H : Holds E s ((d.sh s0).Osl v xs' :: L) w) (hi : L[i]? = some (mpH K d s0 r f k v0))
    (h : ∀ w', Holds E s (L.set i (mpO K d s0 r (fset f k xs'))) w' → Φ undef w') : OpG P o a w Φ := by
  have H0 := H.front (i + 1) (A := mpH K d s0 r f k v0) (by simpa using hi)
  rw [List.eraseIdx_cons_succ] at H0
  obtain ⟨m, H1⟩ := Holds.exists_ H0
  obtain ⟨vs, H1⟩ := Holds.exists_ H1
  obtain ⟨j, H1⟩ := Holds.exists_ H1
  obtain ⟨⟨hm, hu, hok, hl, hj⟩, H2⟩ := Holds.pure_ H1
  have H3 := H2.open_
  refine G_mapUpdate M 0 t x y z ho ht hk (kv_ok hl hok) (kv_uq hl hu) hx hy hv H3 rfl fun w' H' => h w' (Holds.back i hi ?_)
  rw [List.set_cons_zero] at H'
  rcases hj with ⟨hjv, hjk⟩ | ⟨hjm, hno, -⟩
  · have hjl : j < vs.length := (List.getElem?_eq_some_iff.1 hjv).1
    have hjm : j < m.length := by omega
    obtain ⟨xs, hjx⟩ : ∃ xs, m[j]? = some (k, xs) := by
      cases hq : m[j]? with
      | none => rw [hq] at hjk; cases hjk
      | some p => rw [hq] at hjk; have := Option.some.inj hjk; simp only at this; exact ⟨p.2, by rw [← this]⟩
    have e1 : mput (kv m vs) k v = kv (mpt m k xs') (vs.set j v) := by
      rw [mput_old (kv_uq hl hu) (kv_get hjx (List.getElem?_eq_getElem hjl)), mpt_idx hu hjx]
      unfold kv
      apply List.ext_getElem?
      intro q
      rw [List.getElem?_set, List.getElem?_zipWith, List.getElem?_zipWith, List.getElem?_set, List.getElem?_set]
      by_cases e : j = q
      · subst e
        have hz : j < (List.zipWith (fun (p : κ × List α) v => (p.1, v)) m vs).length := by rw [List.length_zipWith]; omega
        rw [if_pos rfl, if_pos rfl, if_pos rfl, if_pos hz, if_pos hjm, if_pos hjl]
      · rw [if_neg e, if_neg e, if_neg e]
    rw [e1] at H'
    have H4 := (H'.rot3.swap).shut
    have H5 := ((H4.map fun h q => oslAll_set (d := d) (s0 := s0) (v := v) (p := (k, xs')) hjl hl h q).swap).shut
    refine H5.map fun h q => ⟨mpt m k xs', vs.set j v, ⟨fun a => ?_, mpt_uq hu k xs', fun p hp => (mpt_mem hp).elim (fun e => by subst e; exact hk) (hok p), ?_⟩, ?_⟩
    · rw [mgt_put]; unfold fset; rw [hm]
    · rw [mpt_idx hu hjx, List.length_set, List.length_set, hl]
    · rw [mpt_idx hu hjx] at q ⊢; exact q
  · have hnk : ∀ p ∈ m, p.1 ≠ k := by
      rcases mgt_idx hu (k := k) with ⟨j', xs, _, hg⟩ | ⟨h1, _⟩
      · rw [hm, hno] at hg; cases hg
      · exact h1
    have e0 : mpt m k xs' = m ++ [(k, xs')] := by
      unfold mpt
      rw [if_neg]
      intro hh
      obtain ⟨p, hp, e⟩ := List.any_eq_true.1 hh
      exact hnk p hp (by simpa using e)
    have e1 : mput (kv m vs) k v = kv (mpt m k xs') (vs ++ [v]) := by
      rw [mput_new (fun p hp e => by
        have : p.1 ∈ (kv m vs).map (·.1) := List.mem_map.2 ⟨p, hp, rfl⟩
        rw [kv_keys hl] at this
        obtain ⟨q, hq, e2⟩ := List.mem_map.1 this
        exact hnk q hq (e2.trans e)), e0]
      unfold kv
      rw [List.zipWith_append (by rw [hl])]; rfl
    rw [e1, List.eraseIdx_of_length_le (by omega), List.eraseIdx_of_length_le (by omega)] at H'
    have H4 := (H'.rot3.swap).shut
    have H5 := ((H4.map fun h q => oslAll_snoc (v := v) (p := (k, xs')) hl h q).swap).shut
    refine H5.map fun h q => ⟨mpt m k xs', vs ++ [v], ⟨fun a => ?_, mpt_uq hu k xs', fun p hp => (mpt_mem hp).elim (fun e => by subst e; exact hk) (hok p), ?_⟩, ?_⟩
    · rw [mgt_put]; unfold fset; rw [hm]
    · rw [e0, List.length_append, List.length_append, hl]; rfl
    · rw [e0] at q ⊢; exact q
theorem O_put (M : MK P kt K.enc K.ok) {s0 : SH} (i : Nat) (t : TypeId) (x y z : Operand) (ho : o.op = .mapUpdate t x y z) {et : TypeId} (ht : P.underlying t = some (.map kt et)) {r : Nat} {f : κ → Option (List α)} {k : κ} {v : Value} {xs' : List α} (hk : K.ok k)
    (hx : a.eval x = .map (some r)) (hy : a.eval y = K.enc k) (hv : a.eval z = v) (H : Holds E s ((d.sh s0).Osl v xs' :: L) w) (hi : L[i]? = some (mpO K d s0 r f))
    (h : ∀ w', Holds E s (L.set i (mpO K d s0 r (fset f k xs'))) w' → Φ undef w') : OpG P o a w Φ := by
  obtain ⟨A, c, H0⟩ := mpO_take k (i + 1) (L := (d.sh s0).Osl v xs' :: L) (by simpa using hi) H
  rw [List.set_cons_succ] at H0
  have hil : i < L.length := (List.getElem?_eq_some_iff.1 hi).1
  refine O_in M i t x y z ho ht hk hx hy hv H0.drop (by rw [List.getElem?_set_self hil]) fun w' H' => h w' ?_
  rw [List.set_set] at H'; exact H'
/-- Such a map of memory that stays. -/
def MapKO (K : KC κ) (d : Kin α) (s : SH) (r : Nat) (f : κ → Option (List α)) : Prop := ∃ (m : List (κ × List α)) (vs : List Value), ((∀ k, mgt m k = f k) ∧ Uq m ∧ (∀ p ∈ m, K.ok p.1) ∧ vs.length = m.length) ∧
  (∃ es c, s r = some (.map es c) ∧ (es.toList.map (fun e => (e.key, e.val)) = ((kv m vs).map fun p => (K.enc p.1, p.2)) ∧ wfE es c)) ∧ ∀ (j : Nat) p v, m[j]? = some p → vs[j]? = some v → d.Sl s v p.2
theorem MapKO.mono {s t : SH} (hs : Sub s t) {r : Nat} {f : κ → Option (List α)} (h : MapKO K d s r f) : MapKO K d t r f :=
  let ⟨m, vs, h1, ⟨es, c, h2, h3⟩, h4⟩ := h
  ⟨m, vs, h1, ⟨es, c, hs _ _ h2, h3⟩, fun j p v a b => (h4 j p v a b).mono hs⟩
theorem lendAll {s0 : SH} : ∀ {vs : List Value} {m : List (κ × List α)} {s : SH} {w : World} {L : List HP}, Sub s0 s → Holds E s (oslAll d s0 vs m :: L) w →
    ∃ s', Sub s s' ∧ (∀ (j : Nat) p v, m[j]? = some p → vs[j]? = some v → d.Sl s' v p.2) ∧ Holds E s' L w ∧ ∀ {L' : List HP} {w'}, Holds E s' L' w' → Holds E s (oslAll d s0 vs m :: L') w'
  | [], [], s, w, L, hs, H => ⟨s, Sub.refl s, fun j p v h => by simp at h, Holds.emp H, fun H' => Holds.mkEmp H'⟩
  | v :: vs, p :: m, s, w, L, hs, H => by
    have H1 : Holds E s ((d.sh s0).Osl v p.2 :: oslAll d s0 vs m :: L) w := Holds.open_ H
    obtain ⟨s1, h1, h2, H2, -, b1⟩ := lendOsl 0 rfl hs H1
    obtain ⟨s2, k1, k2, H3, b2⟩ := lendAll (hs.trans h1) H2
    refine ⟨s2, h1.trans k1, fun j q u hq hu => ?_, H3, fun H' => ?_⟩
    · cases j with
      | zero => simp at hq hu; subst hq; subst hu; exact h2.mono k1
      | succ j => exact k2 j q u (by simpa using hq) (by simpa using hu)
    · have := b1 (b2 H')
      exact Holds.shut this
  | [], _ :: _, s, w, L, hs, H => by
    obtain ⟨h, ⟨_, _, k, _⟩, _⟩ := H.ex
    exact k.elim
  | _ :: _, [], s, w, L, hs, H => by
    obtain ⟨h, ⟨_, _, k, _⟩, _⟩ := H.ex
    exact k.elim
theorem lendMapO {s0 : SH} {r : Nat} {f : κ → Option (List α)} (i : Nat) (hi : L[i]? = some (mpO K d s0 r f)) (hs0 : Sub s0 s) (H : Holds E s L w) :
    ∃ s', Sub s s' ∧ MapKO K d s' r f ∧ Holds E s' (L.eraseIdx i) w ∧ (∀ {w'}, Holds E s' (L.eraseIdx i) w' → Holds E s L w') ∧ ∀ {L' : List HP} {w'}, Holds E s' L' w' → Holds E s (mpO K d s0 r f :: L') w' := by
  obtain ⟨m, vs, hm, H1⟩ := mpO_open i hi H
  obtain ⟨es, c, he, H2⟩ := mp_open H1
  obtain ⟨s1, h1, hb, H3, -, b1⟩ := lendAt (L := pt r (.map es c) :: oslAll d s0 vs m :: L.eraseIdx i) 0 rfl H2
  obtain ⟨s2, k1, k2, H4, b2⟩ := lendAll (hs0.trans h1) H3
  have b : ∀ {L' : List HP} {w'}, Holds E s2 L' w' → Holds E s (mpO K d s0 r f :: L') w' := fun H' =>
    (((b1 (b2 H')).map fun _ q => ⟨es, c, he, q⟩ : Holds E s (mpP K.enc r (kv m vs) :: oslAll d s0 vs m :: _) _).shut).map fun _ q => ⟨m, vs, hm, q⟩
  exact ⟨s2, h1.trans k1, ⟨m, vs, hm, ⟨es, c, k1 _ _ hb, he⟩, k2⟩, H4, fun H' => (b H').unfront i hi, b⟩
/-- What a key of such a map has. -/
theorem KO_get (M : MK P kt K.enc K.ok) (t : TypeId) {et : TypeId} (ht : P.underlying t = some (.map kt et)) {r : Nat} {f : κ → Option (List α)} {k : κ} (hk : K.ok k) (hm : MapKO K d s r f) :
    ∃ A c, d.Sl s (.slice A ((f k).getD []).length c) ((f k).getD []) ∧ ∀ {s' : SH} {L : List HP} {w : World}, Sub s s' → Holds E s' L w → (zeroValue et).run P w = .ok (.slice none 0 0) w → (Instr.lookup t (.map (some r)) (K.enc k) false).run P w = .ok (.slice A ((f k).getD []).length c) w := by
  obtain ⟨m, vs, ⟨hm, hu, hok, hl⟩, ⟨es, c, hr, he, hwf⟩, hsl⟩ := hm
  obtain ⟨lx, hlx⟩ := M.lit k hk
  rcases mgt_idx hu (k := k) with ⟨j, xs, hj, hg⟩ | ⟨hno, hg⟩
  · have hjl : j < vs.length := by rw [hl]; exact (List.getElem?_eq_some_iff.1 hj).1
    have hv : vs[j]? = some vs[j] := List.getElem?_eq_getElem hjl
    have hS := hsl j _ _ hj hv
    obtain ⟨A, cap, e1, h1, h2, h3⟩ := id hS
    rw [← hm, hg]
    have e2 : vs[j] = .slice A xs.length cap := e1
    refine ⟨A, cap, show d.Sl s (.slice A xs.length cap) xs from e2 ▸ hS, fun {s' L w} hs H hz => ?_⟩
    have hb := H.at_s (hs _ _ hr)
    have hmg : mget (kv m vs) k = some vs[j] := mget_mem (kv_uq hl hu) (List.mem_of_getElem? (kv_get hj hv))
    rw [show (some xs).getD [] = xs from rfl, ← e2]
    rcases mp_find M hk (kv_ok hl hok) he w with ⟨q1, q2⟩ | ⟨j', e', v', q1, q2, q3, q4, q5⟩
    · exact absurd rfl (q2 _ (List.mem_of_getElem? (kv_get hj hv)))
    · have : v' = vs[j] := by
        have := mget_mem (kv_uq hl hu) (List.mem_of_getElem? q5)
        rw [hmg] at this; exact (Option.some.inj this).symm
      subst this
      simp [Instr.lookup, run_underlying ht, MapKept.run_getObj_map hb, M.K.check w _ hlx, q1, Result.andThen]
  · rw [← hm, hg]
    refine ⟨none, 0, Kin.Sl.nil, fun {s' L w} hs H hz => ?_⟩
    have hb := H.at_s (hs _ _ hr)
    rcases mp_find M hk (kv_ok hl hok) he w with ⟨q1, q2⟩ | ⟨j', e', v', q1, q2, q3, q4, q5⟩
    · simp [Instr.lookup, run_underlying ht, MapKept.run_getObj_map hb, M.K.check w _ hlx, q1, hz, Result.andThen]
    · have : k ∈ (kv m vs).map (·.1) := List.mem_map.2 ⟨_, List.mem_of_getElem? q5, rfl⟩
      rw [kv_keys hl] at this
      obtain ⟨q, hq, e2⟩ := List.mem_map.1 this
      exact absurd e2 (hno q hq)
theorem O_lkr {t : TypeId} {x y : Operand} {m k V : Value} (ho : o.op = .lookup t x y false) (hx : a.eval x = m) (hy : a.eval y = k) (hr : (Instr.lookup t m k false).run P w = .ok V w) (h : Φ V w) : OpG P o a w Φ := by
  unfold OpG execOp
  simp only [ho, hx, hy, Sem.run_bind, Sem.run_pure, Result.andThen_ok, hr, Oper.gives]
  exact h
end
/-! ### against nil -/
theorem end0 {P : Program} {fn : Func} {R : Ending → World → Prop} {a : Act} {w : World} (h : fn.results = #[]) (hd : a.defers = []) (hR : R (.returned (.tuple #[])) w) : bodyPost P fn R .normal a w := ret0 h hd hR
section
variable {P : Program} {w : World} {t : TypeId} {x y : Operand}
theorem eqg_ptr {op : BinOp} {a b : Option Addr} : (eqGuard op t x y (.pointer a) (.pointer b)).run P w = .ok () w := by cases op <;> rfl
theorem eqg_map {op : BinOp} {a b : Option Nat} : (eqGuard op t x y (.map a) (.map b)).run P w = .ok () w := by cases op <;> rfl
theorem r_pnil {e : TypeId} {a : Addr} (h : P.underlying t = some (.pointer e)) : (binOp .eql t (.pointer (some a)) (.pointer none)).run P w = .ok (.bool false) w :=
  run_eql_pointer_nil (P := P) w t (some a) (by rw [Program.pointee, h])
theorem eqin_mnil (d : Nat) {k e : TypeId} (p : Option Nat) (h : P.underlying t = some (.map k e)) : (Op.equalIn (d + 1) t (.map p) (.map none)).run P w = .ok p.isNone w := by
  cases p <;> simp [Op.equalIn, run_underlying h]
theorem r_mnil {k e : TypeId} {r : Nat} (h : P.underlying t = some (.map k e)) : (binOp .eql t (.map (some r)) (.map none)).run P w = .ok (.bool false) w := by
  simp only [binOp]
  simp [show Op.equal t (.map (some r)) (.map none) = Op.equalIn (9999 + 1) t (.map (some r)) (.map none) from rfl, eqin_mnil 9999 (some r) h]
end
end Go.Proofs.YtemdmpgekegfhaaDoor
