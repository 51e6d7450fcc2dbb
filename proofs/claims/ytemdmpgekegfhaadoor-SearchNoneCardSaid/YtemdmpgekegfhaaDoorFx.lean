/- One lemma per operation, with its premises laid open; words of the printed models. -/
import Derived.Test.YtemdmpgekegfhaaDoorSlc
import Derived.Test.YtemdmpgekegfhaaDoorRet
namespace Go.Proofs.YtemdmpgekegfhaaDoor
open Go.RowKit
set_option linter.all false
set_option maxRecDepth 10000

/-! ### words of the models -/
/-- append of one element, within the bound on a slice's bytes. -/
def app {α : Type} (by_ : Nat) (xs : List α) (x : α) : Option (List α) := if (xs.length + 1) * by_ ≤ 140737488355328 then some (xs ++ [x]) else none
theorem app_some {α : Type} {by_ : Nat} {xs : List α} {x : α} {r : List α} (h : app by_ xs x = some r) : (xs.length + 1) * by_ ≤ 140737488355328 ∧ r = xs ++ [x] := by
  unfold app at h; split at h
  · exact ⟨by assumption, (Option.some.inj h).symm⟩
  · cases h
def appL {α : Type} (by_ : Nat) (xs ys : List α) : Option (List α) := if (xs.length + ys.length) * by_ ≤ 140737488355328 then some (xs ++ ys) else none
theorem appL_some {α : Type} {by_ : Nat} {xs ys : List α} {r : List α} (h : appL by_ xs ys = some r) : (xs.length + ys.length) * by_ ≤ 140737488355328 ∧ r = xs ++ ys := by
  unfold appL at h; split at h
  · exact ⟨by assumption, (Option.some.inj h).symm⟩
  · cases h
/-- xs[i]. -/
def rdI {α : Type} (xs : List α) (i : Int) : Option α := if 0 ≤ i then xs[i.toNat]? else none
theorem rdI_some {α : Type} {xs : List α} {i : Int} {x : α} (h : rdI xs i = some x) : ∃ k : Nat, i = (k : Int) ∧ k < xs.length ∧ xs.drop k = x :: xs.drop (k + 1) := by
  unfold rdI at h; split at h
  · rename_i h0
    obtain ⟨hk, he⟩ := List.getElem?_eq_some_iff.1 h
    exact ⟨i.toNat, by omega, hk, by rw [List.drop_eq_getElem_cons hk, he]⟩
  · cases h
theorem rdI_nat {α : Type} (xs : List α) (k : Nat) : rdI xs (k : Int) = xs[k]? := by unfold rdI; rw [if_pos (Int.natCast_nonneg k)]; simp
/-- xs[lo:], xs[:hi]. -/
def sliI {α : Type} (xs : List α) (i : Int) : Option (List α) := if 0 ≤ i ∧ i ≤ (xs.length : Int) then some (xs.drop i.toNat) else none
def sliJ {α : Type} (xs : List α) (i : Int) : Option (List α) := if 0 ≤ i ∧ i ≤ (xs.length : Int) then some (xs.take i.toNat) else none
theorem sliI_some {α : Type} {xs : List α} {i : Int} {r : List α} (h : sliI xs i = some r) : ∃ k : Nat, i = (k : Int) ∧ k ≤ xs.length ∧ r = xs.drop k := by
  unfold sliI at h; split at h
  · rename_i h0; exact ⟨i.toNat, by omega, by omega, (Option.some.inj h).symm⟩
  · cases h
theorem sliJ_some {α : Type} {xs : List α} {i : Int} {r : List α} (h : sliJ xs i = some r) : ∃ k : Nat, i = (k : Int) ∧ k ≤ xs.length ∧ r = xs.take k := by
  unfold sliJ at h; split at h
  · rename_i h0; exact ⟨i.toNat, by omega, by omega, (Option.some.inj h).symm⟩
  · cases h
/-- s[i], a byte. -/
def btI (s : ByteArray) (i : Int) : Option Int := if 0 ≤ i then (s.data.toList[i.toNat]?).map fun c => (c.toNat : Int) else none
theorem btI_some {s : ByteArray} {i c : Int} (h : btI s i = some c) : ∃ k : Nat, i = (k : Int) ∧ ∃ hk : k < s.size, ((s[k]'hk).toNat : Int) = c := by
  unfold btI at h; split at h
  · rename_i h0
    cases he : s.data.toList[i.toNat]? with
    | none => rw [he] at h; cases h
    | some b =>
      rw [he] at h
      obtain ⟨hk, hb⟩ := List.getElem?_eq_some_iff.1 he
      refine ⟨i.toNat, by omega, by have h1 := hk; rw [Array.length_toList] at h1; exact h1, ?_⟩
      have := Option.some.inj h
      rw [← this]
      show ((s.data[i.toNat]).toNat : Int) = _
      rw [← hb]; simp
  · cases h
theorem size_i {s : ByteArray} (h : s.size ≤ 140737488351232) : Kin.inI64 (s.size : Int) := by constructor <;> omega
theorem slI_sl {α : Type} {d : Kin α} {s : SH} {A : Option Addr} {n cap : Nat} {xs r : List α} {i : Int} (h : d.Sl s (.slice A n cap) xs) (hx : sliI xs i = some r) :
    ∃ (k : Nat) (A' : Option Addr) (c' : Nat), i = (k : Int) ∧ k ≤ n ∧ dropA A cap k d.sz = A' ∧ n - k = r.length ∧ cap - k = c' ∧ d.Sl s (.slice A' r.length c') r := by
  obtain ⟨k, hi, hk, rfl⟩ := sliI_some hx
  have hn : n = xs.length := by obtain ⟨A', c', e, -⟩ := h; cases e; rfl
  subst hn
  have := h.drop k hk
  exact ⟨k, _, _, hi, hk, rfl, by rw [List.length_drop], rfl, by rw [List.length_drop]; exact this⟩
theorem Kin.Sl.take' {α : Type} {d : Kin α} {s : SH} {A : Option Addr} {n cap : Nat} {xs : List α} (h : d.Sl s (.slice A n cap) xs) (i : Nat) (hi : i ≤ n) : d.Sl s (.slice A i cap) (xs.take i) := by
  obtain ⟨A', cap', h1, h2, h3, h4⟩ := h
  cases h1
  have hl : (xs.take i).length = i := by rw [List.length_take]; omega
  refine ⟨A, cap, by rw [hl], by omega, ?_, fun hx => ?_⟩
  · rw [hl]; exact Nat.le_trans (Nat.mul_le_mul_right _ hi) h3
  · obtain ⟨b, off, cur, e', fr, k1, k2, k3⟩ := h4 (fun e => hx (by rw [e]; simp))
    refine ⟨b, off, cur, e', fr, k1, k2, ?_⟩
    have := Kin.Row.take i k3
    rw [List.take_take, Nat.min_eq_left (Nat.mul_le_mul_right _ hi)] at this
    rw [hl]; exact this
theorem slJ_sl {α : Type} {d : Kin α} {s : SH} {A : Option Addr} {n cap : Nat} {xs r : List α} {i : Int} (h : d.Sl s (.slice A n cap) xs) (hx : sliJ xs i = some r) :
    ∃ k : Nat, i = (k : Int) ∧ k ≤ cap ∧ k = r.length ∧ d.Sl s (.slice A r.length cap) r := by
  obtain ⟨k, hi, hk, rfl⟩ := sliJ_some hx
  have hn : n = xs.length ∧ xs.length ≤ cap := by obtain ⟨A', c', e, h1, -⟩ := h; cases e; exact ⟨rfl, h1⟩
  have hl : k = (xs.take k).length := by rw [List.length_take]; omega
  refine ⟨k, hi, by omega, hl, ?_⟩
  rw [← hl]; exact h.take' k (by omega)
def okP (p : Prop) [Decidable p] : Option Unit := if p then some () else none
theorem okP_some {p : Prop} [Decidable p] {u : Unit} (h : okP p = some u) : p := by unfold okP at h; split at h <;> first | assumption | cases h
theorem bs {α β : Type} {x : Option α} {f : α → Option β} {r : β} (h : x.bind f = some r) : ∃ a, x = some a ∧ f a = some r := by
  cases x with
  | none => cases h
  | some a => exact ⟨a, rfl, h⟩
theorem ifT {α : Sort _} {c : Prop} [Decidable c] {a b r : α} (hc : c) (h : (if c then a else b) = r) : a = r := by rw [if_pos hc] at h; exact h
theorem ifF {α : Sort _} {c : Bool} {a b r : α} (hc : c = false) (h : (if c = true then a else b) = r) : b = r := by rw [if_neg (by rw [hc]; simp)] at h; exact h
theorem rng_t {α : Type} {xs rest : List α} {k : Nat} (hd : xs.drop k = rest) (hc : decide ((k : Int) < (xs.length : Int)) = true) : ∃ x r, rest = x :: r ∧ xs.drop k = x :: r ∧ xs.drop (k + 1) = r ∧ k < xs.length := by
  have hk : k < xs.length := by have := of_decide_eq_true hc; omega
  subst hd
  exact ⟨xs[k], xs.drop (k + 1), List.drop_eq_getElem_cons hk, List.drop_eq_getElem_cons hk, rfl, hk⟩
theorem rng_f {α : Type} {xs rest : List α} {k : Nat} (hd : xs.drop k = rest) (hc : decide ((k : Int) < (xs.length : Int)) = false) : rest = [] := by
  have hk : ¬ k < xs.length := by have := of_decide_eq_false hc; omega
  subst hd
  exact List.drop_of_length_le (by omega)
theorem i64_i (x : Int) : Kin.inI64 (IntKind.i64.wrap x) := by
  simp [Kin.inI64, IntKind.wrap, IntKind.bits, IntKind.signed]; split <;> constructor <;> omega

def letF {α β : Type} (x : α) (f : α → β) : β := f x
theorem lfe {α β : Type} {x : α} {f : α → β} {r : β} (h : letF x f = r) : ∃ a, x = a ∧ f a = r := ⟨x, rfl, h⟩
theorem len_le {α : Type} {d : Kin α} {s : SH} {v : Value} {xs : List α} (h : d.Sl s v xs) (hb : 0 < d.by_) : xs.length ≤ 140737488355328 := by
  obtain ⟨A, cap, -, -, h3, -⟩ := h
  exact Nat.le_trans (Nat.le_mul_of_pos_right _ hb) h3
theorem len_i {α : Type} {d : Kin α} {s : SH} {v : Value} {xs : List α} (h : d.Sl s v xs) (hb : 0 < d.by_) : Kin.inI64 (xs.length : Int) := by
  have := len_le h hb
  constructor <;> omega
theorem nat_i {k n : Nat} (h : k ≤ n) (hn : n ≤ 9223372036854775807) : Kin.inI64 (k : Int) := by constructor <;> omega
theorem ite_i {c : Prop} [Decidable c] {x y : Int} (h1 : Kin.inI64 x) (h2 : Kin.inI64 y) : Kin.inI64 (if c then x else y) := by split <;> assumption
theorem wrap_succ {k n : Nat} (h : k < n) (hn : n ≤ 9223372036854775807) : Value.int .i64 (IntKind.i64.wrap ((k : Int) + 1)) = .int .i64 ((k + 1 : Nat) : Int) := by
  rw [i64w (by omega) (by omega)]; rfl
theorem meas_succ {k n : Nat} (h : k < n) (hn : n ≤ 9223372036854775807) : n - (intOf (.int .i64 (IntKind.i64.wrap ((k : Int) + 1)))).toNat < n - (intOf (.int .i64 (k : Int))).toNat := by
  rw [i64w (by omega) (by omega)]; simp [intOf]; omega
theorem int_le {n : Int} (h : Kin.inI64 n) : n.toNat ≤ 9223372036854775807 := by have := h.2; omega
theorem irng_t {n : Int} {k r : Nat} (hd : k + r = n.toNat) (hc : decide ((k : Int) < n) = true) : ∃ r', r = r' + 1 ∧ k < n.toNat ∧ k + 1 + r' = n.toNat := by
  have := of_decide_eq_true hc
  exact ⟨r - 1, by omega, by omega, by omega⟩
theorem irng_f {n : Int} {k r : Nat} (hd : k + r = n.toNat) (hc : decide ((k : Int) < n) = false) : r = 0 := by
  have := of_decide_eq_false hc
  omega
theorem Holds.mapAt {E : World} {s : SH} {L : List HP} {w : World} {A B : HP} (i : Nat) (hi : L[i]? = some A) (hab : ∀ h, A h → B h) (H : Holds E s L w) : Holds E s (L.set i B) w := ((H.front i hi).map hab).back i hi
theorem Holds.unfront {E : World} {s : SH} {L : List HP} {w : World} {A : HP} (i : Nat) (hi : L[i]? = some A) (H : Holds E s (A :: L.eraseIdx i) w) : Holds E s L w := H.perm (perm_at hi).symm
theorem lendAt {E : World} {s : SH} {L : List HP} {w : World} {b : Nat} {o : Obj} (i : Nat) (hi : L[i]? = some (pt b o)) (H : Holds E s L w) : ∃ s', Sub s s' ∧ s' b = some o ∧ Holds E s' (L.eraseIdx i) w ∧ (∀ {w'}, Holds E s' (L.eraseIdx i) w' → Holds E s L w') ∧ ∀ {L' : List HP} {w'}, Holds E s' L' w' → Holds E s (pt b o :: L') w' := by
  suffices h : ∃ s', Sub s s' ∧ s' b = some o ∧ Holds E s' (L.eraseIdx i) w ∧ ∀ {L' : List HP} {w'}, Holds E s' L' w' → Holds E s (pt b o :: L') w' from
    let ⟨s', h1, h2, h3, h4⟩ := h
    ⟨s', h1, h2, h3, fun H' => (h4 H').unfront i hi, h4⟩
  have H1 := H.front i hi
  obtain ⟨h, ⟨h1, h2, rfl, k2, d, rfl⟩, dd, r1, r2⟩ := H1.ex
  obtain ⟨da, db⟩ := disj_uni_right.1 dd
  have ds : s b = none := by have := da b; simpa using this
  obtain ⟨s', hs, hb, H2⟩ := H1.freeze
  refine ⟨fun k => if k = b then some o else s k, fun k q hq => ?_, by simp, ?_, ?_⟩
  · have : k ≠ b := fun e => by subst e; rw [ds] at hq; cases hq
    simp [this, hq]
  · refine ⟨H.os, H.tape, H.output, h2, k2, fun k => ?_, fun k q hq => ?_, fun k q hq => ?_⟩
    · by_cases e : k = b
      · subst e; have := d k; simp at this; exact .inr this
      · simpa [e] using db k
    · by_cases e : k = b
      · subst e; simp at hq; subst hq; exact r2 k o (by unfold uni; simp)
      · simp [e] at hq; exact r1 k q hq
    · have hd : k ≠ b := fun e => by subst e; have := d k; simp at this; rw [this] at hq; cases hq
      exact r2 k q (by simp [uni, hd, hq])
  · intro L' w' H'
    obtain ⟨h', k', d', t1, t2⟩ := H'.ex
    have hb' : h' b = none := by have := d' b; simpa using this
    refine ⟨H'.os, H'.tape, H'.output, uni (fun k => if k = b then some o else none) h', ⟨_, h', rfl, k', fun k => ?_, rfl⟩, disj_uni_right.2 ⟨fun k => ?_, fun k => ?_⟩, fun k q hq => ?_, fun k q hq => ?_⟩
    · by_cases e : k = b
      · subst e; exact .inr hb'
      · left; simp [e]
    · by_cases e : k = b
      · subst e; exact .inl ds
      · right; simp [e]
    · have := d' k
      by_cases e : k = b
      · subst e; exact .inl ds
      · simpa [e] using this
    · have : k ≠ b := fun e => by subst e; rw [ds] at hq; cases hq
      exact t1 k q (by simp [this, hq])
    · by_cases e : k = b
      · subst e; simp [uni] at hq; subst hq; exact t1 k o (by simp)
      · exact t2 k q (by simpa [uni, e] using hq)
theorem Holds.dropAt {E : World} {s : SH} {L : List HP} {w : World} {A : HP} (i : Nat) (hi : L[i]? = some A) (H : Holds E s L w) : Holds E s (L.eraseIdx i) w := (H.front i hi).drop
/-- Elements that hold no memory. -/
def Kin.Pure {α : Type} (d : Kin α) : Prop := ∀ s t x cs, d.K s x cs → d.K t x cs
theorem Kin.Pure.rowM {α : Type} {d : Kin α} (hp : d.Pure) {s t : SH} : ∀ {xs : List α} {cs : List Value} {h : SH}, (d.sh s).RowM xs cs h → (d.sh t).RowM xs cs h
  | [], _, _, k => k
  | x :: xs, _, _, ⟨c, r, e, k⟩ => ⟨c, r, e, star_mono (fun _ a => ⟨hp _ _ _ _ a.1, a.2⟩) (fun _ a => Kin.Pure.rowM hp a) k⟩
theorem Kin.Pure.osl {α : Type} {d : Kin α} (hp : d.Pure) {s t : SH} {v : Value} {xs : List α} (h : SH) (k : (d.sh s).Osl v xs h) : (d.sh t).Osl v xs h := by
  rcases k with k | ⟨b, cap, cur, p, k⟩
  · exact .inl k
  · exact .inr ⟨b, cap, cur, p, star_mono (fun _ a => a) (fun _ a => Kin.Pure.rowM hp a) k⟩
theorem kI_pure : kI.Pure := fun _ _ _ _ h => h
theorem ret0 {P : Program} {fn : Func} {R : Ending → World → Prop} {a : Act} {w : World} (h : fn.results = #[]) (hd : a.defers = []) (hR : R (.returned (.tuple #[])) w) : bodyPost P fn R .ret a w := by
  refine bodyPost_ret (v := .tuple #[]) ?_ hd hR
  rw [results_rv, h]
  simp only [List.mapM_toArray, List.mapM_nil, sem_map, Sem.run_bind, Sem.run_pure, Result.andThen_ok]
  rfl
theorem Cells.ofB {s : SH} {b : Nat} {c : List Value} {t : TypeId} {fr : Nat × Nat} (h : s b = some (.cells c.toArray t fr)) : Cells s ⟨b, 0, none⟩ c :=
  ⟨rfl, _, t, fr, h, fun j u hj => by simpa using hj⟩
/-- A loop whose model counts its rounds. -/
theorem least {p : Nat → Prop} (h : ∃ n, p n) : ∃ n, p n ∧ ∀ m, p m → n ≤ m := by
  obtain ⟨n, hn⟩ := h
  induction n using Nat.strongRecOn with
  | _ n ih =>
    by_cases h : ∃ m, m < n ∧ p m
    · obtain ⟨m, hm, hp⟩ := h; exact ih m hm hp
    · exact ⟨n, hn, fun m hm => Nat.le_of_not_lt fun hl => h ⟨m, hl, hm⟩⟩
open Classical in
noncomputable def least0 (p : Nat → Prop) : Nat := if h : ∃ n, p n then Classical.choose (least h) else 0
theorem least0_sat {p : Nat → Prop} (h : ∃ n, p n) : p (least0 p) := by unfold least0; rw [dif_pos h]; exact (Classical.choose_spec (least h)).1
theorem least0_le {p : Nat → Prop} {m : Nat} (h : p m) : least0 p ≤ m := by unfold least0; rw [dif_pos ⟨m, h⟩]; exact (Classical.choose_spec (least ⟨m, h⟩)).2 m h
theorem wp_loopN {P : Program} {Q : Exit → Act → World → Prop} {a0 : Act} {w0 : World} {c : Code} (m : List (Option Nat)) (hw : wfM m 0 = true) (hl : m.length ≤ a0.tmps.toList.length) (I : Nat → (Nat → Value) → World → Prop) (h0 : ∃ n, I n (fun t => a0.tmps.getD t undef) w0)
    (round : ∀ n f w, I n f w → c.wp P (Exit.then (fun a' w' => (eqM m a0.tmps.toList a'.tmps.toList ∧ a'.defers = a0.defers) ∧ ∃ n', n' < n ∧ I n' (fun t => a'.tmps.getD t undef) w') Q) (ovm a0 m f) w) : (Code.loop c).wp P Q a0 w0 := by
  refine wp_loopF m hw hl (fun f w => ∃ n, I n f w) (fun f w => least0 fun n => I n f w) h0 ?_
  intro f w hI
  refine wp_mono (round _ f w (least0_sat hI)) ?_
  intro e a' w' h
  cases e <;> first | exact h | exact ⟨h.1, let ⟨n', _, k⟩ := h.2; ⟨n', k⟩, let ⟨n', hlt, k⟩ := h.2; Nat.lt_of_le_of_lt (least0_le (p := fun n => I n (fun t => a'.tmps.getD t undef) w') k) hlt⟩

section
variable {P : Program} {o : Oper} {a : Act} {w : World} {Φ : Value → World → Prop} {E : World} {s : SH} {L : List HP}
theorem O_mv {x : Operand} {v : Value} (ho : o.op = .move x) (hx : a.eval x = v) (h : Φ v w) : OpG P o a w Φ := by
  unfold OpG execOp; simp only [ho, hx, Sem.run_pure, Oper.gives]; exact h
theorem O_as {x : Operand} {v : Value} (ho : o.op = .assign x) (hx : a.eval x = v) (h : Φ v w) : OpG P o a w Φ := by
  unfold OpG execOp; simp only [ho, hx, Sem.run_pure, Oper.gives]; exact h
theorem O_bin {op : BinOp} {t t2 : TypeId} {x y : Operand} {v1 v2 V : Value} (ho : o.op = .binOp op t x y t2) (hx : a.eval x = v1) (hy : a.eval y = v2) (hg : (eqGuard op t x y v1 v2).run P w = .ok () w) (hr : (binOp op t v1 v2).run P w = .ok V w)
    (h : Φ V w) : OpG P o a w Φ := by
  unfold OpG execOp; simp only [ho, hx, hy, hg, hr, Sem.run_bind, Sem.run_pure, Result.andThen_ok, Oper.gives]; exact h
theorem eqg_int {op : BinOp} {t : TypeId} {x y : Operand} {k k' : IntKind} {m n : Int} : (eqGuard op t x y (.int k m) (.int k' n)).run P w = .ok () w := by cases op <;> rfl
theorem eqg_str {op : BinOp} {t : TypeId} {x y : Operand} {m n : ByteArray} : (eqGuard op t x y (.string m) (.string n)).run P w = .ok () w := by cases op <;> rfl
theorem eqg_bool {op : BinOp} {t : TypeId} {x y : Operand} {m n : Bool} : (eqGuard op t x y (.bool m) (.bool n)).run P w = .ok () w := by cases op <;> rfl
section
variable {t : TypeId} {k : IntKind} {m n : Int}
theorem r_add : (binOp .add t (.int k m) (.int k n)).run P w = .ok (.int k (k.wrap (m + n))) w := by rw [binOp_add]; rfl
theorem r_sub : (binOp .sub t (.int k m) (.int k n)).run P w = .ok (.int k (k.wrap (m - n))) w := by rw [binOp_sub]; rfl
theorem r_mul : (binOp .mul t (.int k m) (.int k n)).run P w = .ok (.int k (k.wrap (m * n))) w := by rw [binOp_mul]; rfl
theorem r_eql : (binOp .eql t (.int k m) (.int k n)).run P w = .ok (.bool (m == n)) w := by rw [binOp_eql]; rfl
theorem r_neq : (binOp .neq t (.int k m) (.int k n)).run P w = .ok (.bool (m != n)) w := by rw [binOp_neq]; rfl
theorem r_lss : (binOp .lss t (.int k m) (.int k n)).run P w = .ok (.bool (decide (m < n))) w := by rw [binOp_lss]; rfl
theorem r_leq : (binOp .leq t (.int k m) (.int k n)).run P w = .ok (.bool (decide (m ≤ n))) w := by rw [binOp_leq]; rfl
theorem r_gtr : (binOp .gtr t (.int k m) (.int k n)).run P w = .ok (.bool (decide (m > n))) w := by rw [binOp_gtr]; rfl
theorem r_geq : (binOp .geq t (.int k m) (.int k n)).run P w = .ok (.bool (decide (m ≥ n))) w := by rw [binOp_geq]; rfl
variable {b c : ByteArray}
theorem r_seq : (binOp .eql t (.string b) (.string c)).run P w = .ok (.bool (b.toList == c.toList)) w := by rw [binOp_string_eql]; rfl
theorem r_sne : (binOp .neq t (.string b) (.string c)).run P w = .ok (.bool (!(b.toList == c.toList))) w := by rw [binOp_string_neq]; rfl
theorem r_slss : (binOp .lss t (.string b) (.string c)).run P w = .ok (.bool (Op.bytesLess b.toList c.toList)) w := by rw [binOp_string_lss]; rfl
theorem r_sleq : (binOp .leq t (.string b) (.string c)).run P w = .ok (.bool (Op.bytesLess b.toList c.toList || b.toList == c.toList)) w := by rw [binOp_string_leq]; rfl
theorem r_sgtr : (binOp .gtr t (.string b) (.string c)).run P w = .ok (.bool (!(Op.bytesLess b.toList c.toList || b.toList == c.toList))) w := by rw [binOp_string_gtr]; rfl
theorem r_sgeq : (binOp .geq t (.string b) (.string c)).run P w = .ok (.bool (!(Op.bytesLess b.toList c.toList))) w := by rw [binOp_string_geq]; rfl
variable {x y : Bool}
theorem r_beq (h : P.underlying t = some .bool) : (binOp .eql t (.bool x) (.bool y)).run P w = .ok (.bool (x == y)) w := run_eql_bool (P := P) w t x y h
theorem r_bne (h : P.underlying t = some .bool) : (binOp .neq t (.bool x) (.bool y)).run P w = .ok (.bool (!(x == y))) w := run_neq_bool (P := P) w t x y h
end
theorem O_len {t e : TypeId} {x : Operand} {A : Option Addr} {n c : Nat} (ho : o.op = .call { callee := .builtin .len, args := #[x], argTypes := #[t] }) (ht : P.underlying t = some (.slice e)) (hx : a.eval x = .slice A n c) (h : Φ (.int .i64 (n : Int)) w) : OpG P o a w Φ := by
  have hr := run_len_slice (P := P) w t o.type A n c (by rw [ht]; simp [Program.elem, ht])
  unfold OpG execOp
  simp only [ho, resolve, invoke, builtin, Sem.run_bind, Sem.run_pure, Result.andThen_ok, List.map_toArray, List.map_cons, List.map_nil, hx, hr, Oper.gives]
  exact h
theorem O_slen {t : TypeId} {x : Operand} {b : ByteArray} (ho : o.op = .call { callee := .builtin .len, args := #[x], argTypes := #[t] }) (ht : P.underlying t = some .string) (hx : a.eval x = .string b) (h : Φ (.int .i64 (b.size : Int)) w) : OpG P o a w Φ := by
  have hr : (Builtin.len_ #[t] o.type #[.string b]).run P w = .ok (.int .i64 (b.size : Int)) w := by simp [Builtin.len_, run_underlying ht, goInt]
  unfold OpG execOp
  simp only [ho, resolve, invoke, builtin, Sem.run_bind, Sem.run_pure, Result.andThen_ok, List.map_toArray, List.map_cons, List.map_nil, hx, hr, Oper.gives]
  exact h
theorem O_sidx {t : TypeId} {x y : Operand} {b : ByteArray} {kd : IntKind} {i c : Int} {k : Nat} (ho : o.op = .index t x y) (ht : P.underlying t = some .string) (hx : a.eval x = .string b) (hy : a.eval y = .int kd i) (hi : i = (k : Int)) (hk : k < b.size) (hc : ((b[k]'hk).toNat : Int) = c)
    (h : Φ (.int .u8 c) w) : OpG P o a w Φ := by
  have hr := run_index_string (P := P) w t b kd i ht
  subst hi
  rw [dif_pos ⟨Int.natCast_nonneg k, by omega⟩] at hr
  simp only [Int.toNat_natCast, hc] at hr
  unfold OpG execOp
  simp only [ho, hx, hy, Sem.run_bind, Sem.run_pure, Result.andThen_ok, hr, Oper.gives]
  exact h
theorem O_min {t u : TypeId} {x y : Operand} {m n : Int} (ho : o.op = .call { callee := .builtin .min, args := #[x, y], argTypes := #[t, u] }) (hx : a.eval x = .int .i64 m) (hy : a.eval y = .int .i64 n) (h : Φ (.int .i64 (if n < m then n else m)) w) : OpG P o a w Φ := by
  have hr := run_min_int2 (P := P) w #[t, u] o.type .i64 .i64 m n
  unfold OpG execOp
  simp only [ho, resolve, invoke, builtin, Sem.run_bind, Sem.run_pure, Result.andThen_ok, List.map_toArray, List.map_cons, List.map_nil, hx, hy, hr, Oper.gives]
  exact h
theorem O_max {t u : TypeId} {x y : Operand} {m n : Int} (ho : o.op = .call { callee := .builtin .max, args := #[x, y], argTypes := #[t, u] }) (hx : a.eval x = .int .i64 m) (hy : a.eval y = .int .i64 n) (h : Φ (.int .i64 (if n > m then n else m)) w) : OpG P o a w Φ := by
  have hr := run_max_int2 (P := P) w #[t, u] o.type .i64 .i64 m n
  unfold OpG execOp
  simp only [ho, resolve, invoke, builtin, Sem.run_bind, Sem.run_pure, Result.andThen_ok, List.map_toArray, List.map_cons, List.map_nil, hx, hy, hr, Oper.gives]
  exact h
theorem O_fld {st : TypeId} {x : Operand} {f : Nat} {fs : Array Field} {fd : Field} {b off n : Nat} (ho : o.op = .fieldAddr st x f) (ht : P.underlying st = some (.struct fs)) (hf : fs[f]? = some fd) (hn : (sizeOf fd.type).run P w = .ok (n + 1) w)
    (hx : a.eval x = .pointer (some ⟨b, off, none⟩)) (h : Φ (.pointer (some ⟨b, off + fd.offset, none⟩)) w) : OpG P o a w Φ := by
  have hr : (Instr.fieldAt st (.pointer (some ⟨b, off, none⟩)) f).run P w = .ok (.pointer (some ⟨b, off + fd.offset, none⟩)) w := by
    simp only [Instr.fieldAt, Sem.run_bind, run_underlying ht, Result.andThen_ok, hf, Instr.sureAddr, Sem.run_pure, fieldPlace, hn]
    simp [Addr.add_lit]
  unfold OpG execOp
  simp only [ho, hx, Sem.run_bind, Sem.run_pure, Result.andThen_ok, hr, Oper.gives]
  exact h
theorem O_ix {t e : TypeId} {x y : Operand} {b off n c sz k : Nat} {kd : IntKind} {i : Int} (ho : o.op = .indexAddr t x y) (ht : P.underlying t = some (.slice e)) (hs : (sizeOf e).run P w = .ok sz w) (hx : a.eval x = .slice (some ⟨b, off, none⟩) n c) (hy : a.eval y = .int kd i)
    (hi : i = (k : Int)) (hk : k < n) (h : Φ (.pointer (some ⟨b, off + k * sz, none⟩)) w) : OpG P o a w Φ := by
  have he : P.elem t = e := by simp [Program.elem, ht]
  have hr := run_indexAt_slice (P := P) w t ⟨b, off, none⟩ n c kd i (by rw [ht, he])
  rw [he, if_pos (by omega), hs] at hr
  have e1 : i.toNat = k := by omega
  rw [e1] at hr
  unfold OpG execOp
  simp only [ho, hx, hy, Sem.run_bind, Sem.run_pure, Result.andThen_ok, hr, Oper.gives, Addr.add_lit]
  exact h
theorem O_not {t : TypeId} {x : Operand} {c : Bool} (ho : o.op = .unOp .not t x) (hx : a.eval x = .bool c) (h : Φ (.bool (!c)) w) : OpG P o a w Φ := by
  unfold OpG execOp; simp only [ho, hx, Op.unary, Sem.run_bind, Sem.run_pure, Result.andThen_ok, Oper.gives]; exact h
theorem O_cnv {t u : TypeId} {x : Operand} {k k' : IntKind} {n : Int} (ho : o.op = .convert t u x) (hs : (P.underlying t).isSome = true) (hd : P.underlying u = some (.int k')) (hx : a.eval x = .int k n) (h : Φ (.int k' (k'.wrap n)) w) : OpG P o a w Φ := by
  have e : P.intKind u = k' := by simp [Program.intKind, hd]
  have hr := run_convert_int (P := P) w t u k n hs (by rw [hd, e])
  rw [e] at hr
  unfold OpG execOp; simp only [ho, hx, Sem.run_bind, Sem.run_pure, Result.andThen_ok, hr, Oper.gives]; exact h
theorem O_ext {x : Operand} {i : Nat} {vs : List Value} {v : Value} (ho : o.op = .extract x i) (hx : a.eval x = .tuple vs.toArray) (hv : vs[i]? = some v) (h : Φ v w) : OpG P o a w Φ := by
  have hr : (Instr.extract (.tuple vs.toArray) i).run P w = .ok v w := by simp [Instr.extract, hv]
  unfold OpG execOp; simp only [ho, hx, Sem.run_bind, Sem.run_pure, Result.andThen_ok, hr, Oper.gives]; exact h
theorem O_nil {x : Operand} {p : Addr} (ho : o.op = .nilCheck x) (hx : a.eval x = .pointer (some p)) (h : Φ (.pointer (some p)) w) : OpG P o a w Φ := by
  unfold OpG execOp; simp only [ho, hx, Sem.run_pure, Oper.gives]; exact h
theorem O_bld {t : TypeId} {parts : Array (Nat × Operand)} {cs : List Value} (ho : o.op = .build t parts) (hb : P.built t (parts.map fun (i, x) => (i, a.eval x)).toList = some cs.toArray) (h : Φ (.agg cs.toArray) w) : OpG P o a w Φ := by
  have hr := run_build (P := P) w t (parts.map fun (i, x) => (i, a.eval x)) cs.toArray hb
  unfold OpG execOp; simp only [ho, Sem.run_bind, Sem.run_pure, Result.andThen_ok, hr, Oper.gives]; exact h
theorem run_callFunc_enter {f : Nat} {fn : Func} (hf : P.funcs[f]? = some fn) (hb : fn.body.isNone = false) (hn : (fn.name == "runtime.NumGoroutine") = false) (args : Array Value) : (callFunc f args).run P w = .ok (.enter f args) w := by
  have hp : (program).run P w = .ok P w := rfl
  simp only [callFunc, Sem.run_bind, hp, Result.andThen_ok, hf, hn, hb, Bool.false_eq_true, if_false, Sem.run_pure]
theorem O_call1 {f : Nat} {fn : Func} {x1 : Operand} {v1 : Value} {ts : Array TypeId} (ho : o.op = .call { callee := .value (.func f), args := #[x1], argTypes := ts }) (hf : P.funcs[f]? = some fn) (hb : fn.body.isNone = false) (hn : (fn.name == "runtime.NumGoroutine") = false) (h1 : a.eval x1 = v1)
    (h : Calls P f #[v1] w fun e w'' => ∃ v, e = .returned v ∧ Φ v w'') : OpG P o a w Φ := by
  have hr := run_callFunc_enter (P := P) (w := w) hf hb hn #[v1]
  unfold OpG execOp
  simp only [ho, resolve, invoke, Deferred.ofValue, Act.eval, Sem.run_bind, Sem.run_pure, Result.andThen_ok, List.map_toArray, List.map_cons, List.map_nil, Array.append_empty]
  show Oper.gives P Φ ((callFunc f #[a.eval x1]).run P w)
  rw [h1, hr]
  exact h
theorem O_call2 {f : Nat} {fn : Func} {x1 x2 : Operand} {v1 v2 : Value} {ts : Array TypeId} (ho : o.op = .call { callee := .value (.func f), args := #[x1, x2], argTypes := ts }) (hf : P.funcs[f]? = some fn) (hb : fn.body.isNone = false) (hn : (fn.name == "runtime.NumGoroutine") = false) (h1 : a.eval x1 = v1) (h2 : a.eval x2 = v2)
    (h : Calls P f #[v1, v2] w fun e w'' => ∃ v, e = .returned v ∧ Φ v w'') : OpG P o a w Φ := by
  have hr := run_callFunc_enter (P := P) (w := w) hf hb hn #[v1, v2]
  unfold OpG execOp
  simp only [ho, resolve, invoke, Deferred.ofValue, Act.eval, Sem.run_bind, Sem.run_pure, Result.andThen_ok, List.map_toArray, List.map_cons, List.map_nil, Array.append_empty]
  show Oper.gives P Φ ((callFunc f #[a.eval x1, a.eval x2]).run P w)
  rw [h1, h2, hr]
  exact h
theorem O_call3 {f : Nat} {fn : Func} {x1 x2 x3 : Operand} {v1 v2 v3 : Value} {ts : Array TypeId} (ho : o.op = .call { callee := .value (.func f), args := #[x1, x2, x3], argTypes := ts }) (hf : P.funcs[f]? = some fn) (hb : fn.body.isNone = false) (hn : (fn.name == "runtime.NumGoroutine") = false) (h1 : a.eval x1 = v1) (h2 : a.eval x2 = v2) (h3 : a.eval x3 = v3)
    (h : Calls P f #[v1, v2, v3] w fun e w'' => ∃ v, e = .returned v ∧ Φ v w'') : OpG P o a w Φ := by
  have hr := run_callFunc_enter (P := P) (w := w) hf hb hn #[v1, v2, v3]
  unfold OpG execOp
  simp only [ho, resolve, invoke, Deferred.ofValue, Act.eval, Sem.run_bind, Sem.run_pure, Result.andThen_ok, List.map_toArray, List.map_cons, List.map_nil, Array.append_empty]
  show Oper.gives P Φ ((callFunc f #[a.eval x1, a.eval x2, a.eval x3]).run P w)
  rw [h1, h2, h3, hr]
  exact h
theorem O_call4 {f : Nat} {fn : Func} {x1 x2 x3 x4 : Operand} {v1 v2 v3 v4 : Value} {ts : Array TypeId} (ho : o.op = .call { callee := .value (.func f), args := #[x1, x2, x3, x4], argTypes := ts }) (hf : P.funcs[f]? = some fn) (hb : fn.body.isNone = false) (hn : (fn.name == "runtime.NumGoroutine") = false) (h1 : a.eval x1 = v1) (h2 : a.eval x2 = v2) (h3 : a.eval x3 = v3) (h4 : a.eval x4 = v4)
    (h : Calls P f #[v1, v2, v3, v4] w fun e w'' => ∃ v, e = .returned v ∧ Φ v w'') : OpG P o a w Φ := by
  have hr := run_callFunc_enter (P := P) (w := w) hf hb hn #[v1, v2, v3, v4]
  unfold OpG execOp
  simp only [ho, resolve, invoke, Deferred.ofValue, Act.eval, Sem.run_bind, Sem.run_pure, Result.andThen_ok, List.map_toArray, List.map_cons, List.map_nil, Array.append_empty]
  show Oper.gives P Φ ((callFunc f #[a.eval x1, a.eval x2, a.eval x3, a.eval x4]).run P w)
  rw [h1, h2, h3, h4, hr]
  exact h
theorem O_call5 {f : Nat} {fn : Func} {x1 x2 x3 x4 x5 : Operand} {v1 v2 v3 v4 v5 : Value} {ts : Array TypeId} (ho : o.op = .call { callee := .value (.func f), args := #[x1, x2, x3, x4, x5], argTypes := ts }) (hf : P.funcs[f]? = some fn) (hb : fn.body.isNone = false) (hn : (fn.name == "runtime.NumGoroutine") = false) (h1 : a.eval x1 = v1) (h2 : a.eval x2 = v2) (h3 : a.eval x3 = v3) (h4 : a.eval x4 = v4) (h5 : a.eval x5 = v5)
    (h : Calls P f #[v1, v2, v3, v4, v5] w fun e w'' => ∃ v, e = .returned v ∧ Φ v w'') : OpG P o a w Φ := by
  have hr := run_callFunc_enter (P := P) (w := w) hf hb hn #[v1, v2, v3, v4, v5]
  unfold OpG execOp
  simp only [ho, resolve, invoke, Deferred.ofValue, Act.eval, Sem.run_bind, Sem.run_pure, Result.andThen_ok, List.map_toArray, List.map_cons, List.map_nil, Array.append_empty]
  show Oper.gives P Φ ((callFunc f #[a.eval x1, a.eval x2, a.eval x3, a.eval x4, a.eval x5]).run P w)
  rw [h1, h2, h3, h4, h5, hr]
  exact h
theorem O_callv1 {f : Nat} {fn : Func} {y : Tmp} {x1 : Operand} {v1 : Value} {caps args : Array Value} {ts : Array TypeId} (ho : o.op = .call { callee := .value (.tmp y), args := #[x1], argTypes := ts }) (hf : P.funcs[f]? = some fn) (hb : fn.body.isNone = false) (hn : (fn.name == "runtime.NumGoroutine") = false)
    (hy : a.eval (.tmp y) = .func (.func f) #[] caps) (h1 : a.eval x1 = v1) (ha : (#[v1] : Array Value) ++ caps = args)
    (h : Calls P f args w fun e w'' => ∃ v, e = .returned v ∧ Φ v w'') : OpG P o a w Φ := by
  subst ha
  have hr := run_callFunc_enter (P := P) (w := w) hf hb hn (#[v1] ++ caps)
  unfold OpG execOp
  simp only [ho, resolve, invoke, hy, Deferred.ofValue, Sem.run_bind, Sem.run_pure, Result.andThen_ok, List.map_toArray, List.map_cons, List.map_nil, h1, Array.empty_append]
  rw [hr]
  exact h
theorem O_callv2 {f : Nat} {fn : Func} {y : Tmp} {x1 x2 : Operand} {v1 v2 : Value} {caps args : Array Value} {ts : Array TypeId} (ho : o.op = .call { callee := .value (.tmp y), args := #[x1, x2], argTypes := ts }) (hf : P.funcs[f]? = some fn) (hb : fn.body.isNone = false) (hn : (fn.name == "runtime.NumGoroutine") = false)
    (hy : a.eval (.tmp y) = .func (.func f) #[] caps) (h1 : a.eval x1 = v1) (h2 : a.eval x2 = v2) (ha : (#[v1, v2] : Array Value) ++ caps = args)
    (h : Calls P f args w fun e w'' => ∃ v, e = .returned v ∧ Φ v w'') : OpG P o a w Φ := by
  subst ha
  have hr := run_callFunc_enter (P := P) (w := w) hf hb hn (#[v1, v2] ++ caps)
  unfold OpG execOp
  simp only [ho, resolve, invoke, hy, Deferred.ofValue, Sem.run_bind, Sem.run_pure, Result.andThen_ok, List.map_toArray, List.map_cons, List.map_nil, h1, h2, Array.empty_append]
  rw [hr]
  exact h
theorem O_mkf {fn : Fn} {xs : Array Operand} {vs : Array Value} (ho : o.op = .makeFunc fn #[] xs) (hx : xs.map a.eval = vs) (h : Φ (.func fn #[] vs) w) : OpG P o a w Φ := by
  unfold OpG execOp; simp only [ho, hx, Instr.makeFunc, Sem.run_bind, Sem.run_pure, Result.andThen_ok, Oper.gives, List.map_toArray, List.map_nil]; exact h
end
section
variable {P : Program} {Q : Exit → Act → World → Prop} {a : Act} {w : World} {ops : Array Oper} {E : World} {s : SH} {L : List HP}
theorem seq_opH {o : Oper} {r : List Oper} {V : Value} (H : Holds E s L w) (hg : o.guard = none) (h : ∀ Φ : Value → World → Prop, (∀ w', Holds E s L w' → Φ V w') → OpG P o a w Φ) (h2 : ∀ w', Holds E s L w' → wpList P ops Q r (a.put o.dst V) w') : wpList P ops Q (o :: r) a w :=
  OpG.list hg (h _ h2)
theorem seq_opgH {o : Oper} {r : List Oper} {V : Value} {c : Bool} (H : Holds E s L w) (hw : Region.wanted o (yielded ops a.tmps) = c) (h : c = true → ∀ Φ : Value → World → Prop, (∀ w', Holds E s L w' → Φ V w') → OpG P o a w Φ) (h2 : ∀ w', Holds E s L w' → wpList P ops Q r (a.put o.dst (vg c V)) w') : wpList P ops Q (o :: r) a w := by
  cases hc : c with
  | true => rw [hc] at h2; exact OpG.listW (by rw [hw, hc]) (h hc _ (fun w' H' => by simpa only [vg_true] using h2 w' H'))
  | false =>
    rw [hc] at h2
    refine wpList_step fun K hK => ?_
    rw [if_neg (by rw [hw, hc]; simp)]
    exact hK _ _ (by simpa only [vg_false] using h2 w H)
theorem seq_opw {o : Oper} {r : List Oper} {V : Value} (hw : Region.wanted o (yielded ops a.tmps) = true) (h : ∀ Φ : Value → World → Prop, Φ V w → OpG P o a w Φ) (h2 : wpList P ops Q r (a.put o.dst V) w) : wpList P ops Q (o :: r) a w := OpG.listW hw (h _ h2)
theorem seq_opHw {o : Oper} {r : List Oper} {V : Value} (H : Holds E s L w) (hw : Region.wanted o (yielded ops a.tmps) = true) (h : ∀ Φ : Value → World → Prop, (∀ w', Holds E s L w' → Φ V w') → OpG P o a w Φ) (h2 : ∀ w', Holds E s L w' → wpList P ops Q r (a.put o.dst V) w') : wpList P ops Q (o :: r) a w := OpG.listW hw (h _ h2)
theorem seq_skip {o : Oper} {r : List Oper} (hw : Region.wanted o (yielded ops a.tmps) = false) (h2 : wpList P ops Q r (a.put o.dst undef) w) : wpList P ops Q (o :: r) a w :=
  wpList_step fun K hK => by rw [if_neg (by rw [hw]; simp)]; exact hK _ _ h2
theorem seq_callw {o : Oper} {r : List Oper} {f : FuncId} {args : Array Value} {R : Ending → World → Prop} (hw : Region.wanted o (yielded ops a.tmps) = true)
    (hrun : ∀ Φ : Value → World → Prop, (Calls P f args w fun e w'' => ∃ v, e = .returned v ∧ Φ v w'') → OpG P o a w Φ) (hc : Calls P f args w R)
    (h2 : ∀ e w', R e w' → ∃ v, e = .returned v ∧ wpList P ops Q r (a.put o.dst v) w') : wpList P ops Q (o :: r) a w :=
  OpG.listW hw (hrun _ (hc.mono h2))
theorem wanted_u {o : Oper} {g t : Nat} {b : Bool} {tmps : Array Value} (hg : o.guard = some (g, b)) (ht : (ops[g]?).bind (·.dst) = some t) (hv : tmps[t]? = some undef) : Region.wanted o (yielded ops tmps) = false := by
  unfold Region.wanted; rw [hg]; simp only []; unfold yielded; rw [ht]; simp only [Option.bind_some]; rw [hv]; rfl
theorem wantK {o : Oper} {Φ : Value → World → Prop} (hw : Region.wanted o (yielded ops a.tmps) = true) (h : OpG P o a w Φ) : Want P ops o a w Φ := by unfold Want; rw [if_pos hw]; exact h
theorem wantU {o : Oper} {Φ : Value → World → Prop} (hw : Region.wanted o (yielded ops a.tmps) = false) (h : Φ undef w) : Want P ops o a w Φ := by unfold Want; rw [if_neg (by rw [hw]; simp)]; exact h
theorem O_pickT {o : Oper} {Φ : Value → World → Prop} {x y z : Operand} {c : Bool} {V : Value} (ho : o.op = .pick x y z) (hx : a.eval x = .bool c) (hc : c = true) (hy : a.eval y = V) (h : Φ V w) : OpG P o a w Φ := by
  refine G_pick x y z ho hx ?_; rw [hc, if_pos rfl, hy]; exact h
theorem O_pickF {o : Oper} {Φ : Value → World → Prop} {x y z : Operand} {c : Bool} {V : Value} (ho : o.op = .pick x y z) (hx : a.eval x = .bool c) (hc : c = false) (hz : a.eval z = V) (h : Φ V w) : OpG P o a w Φ := by
  refine G_pick x y z ho hx ?_; rw [hc, if_neg (by simp), hz]; exact h
theorem O_slI {o : Oper} {Φ : Value → World → Prop} {α : Type} {d : Kin α} {t : TypeId} (hd : d.At P t) {x y : Operand} (ho : o.op = .slice t x (some y) none none) {A A' : Option Addr} {n cap c' m k : Nat} {kd : IntKind} {i : Int} (hx : a.eval x = .slice A n cap) (hy : a.eval y = .int kd i)
    (hi : i = (k : Int)) (hk : k ≤ n) (hA : dropA A cap k d.sz = A') (hn : n - k = m) (hc : cap - k = c') (h : Φ (.slice A' m c') w) : OpG P o a w Φ := by
  subst hi; subst hA; subst hn; subst hc
  exact G_slice_lN hd x y ho hx hy hk h
theorem O_slJ {o : Oper} {Φ : Value → World → Prop} {α : Type} {d : Kin α} {t : TypeId} (hd : d.At P t) {x y : Operand} (ho : o.op = .slice t x none (some y) none) {A : Option Addr} {n cap m k : Nat} {kd : IntKind} {i : Int} (hx : a.eval x = .slice A n cap) (hy : a.eval y = .int kd i)
    (hi : i = (k : Int)) (hk : k ≤ cap) (hn : k = m) (h : Φ (.slice A m cap) w) : OpG P o a w Φ := by
  subst hi; subst hn
  exact G_slice_hN hd x y ho hx hy hk h
end
end Go.Proofs.YtemdmpgekegfhaaDoor
