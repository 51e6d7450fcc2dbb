/- A small separation logic over the model's worlds: 's' is memory that stays as it is, the list 'L' is memory that the call owns. -/
import Derived.WalkKit
import Derived.WalkSpells
import Derived.WalkLawsBesides
namespace Go.Proofs.YtemdmpgekegfhaaDoor
open Go.RowKit
set_option linter.all false
set_option maxRecDepth 10000

abbrev SH := Nat → Option Obj
abbrev HP := SH → Prop
def Sub (s t : SH) : Prop := ∀ b o, s b = some o → t b = some o
theorem Sub.refl (s : SH) : Sub s s := fun _ _ h => h
theorem Sub.trans {s t u : SH} (h : Sub s t) (k : Sub t u) : Sub s u := fun b o e => k b o (h b o e)
def emp : HP := fun h => ∀ b, h b = none
def disj (h1 h2 : SH) : Prop := ∀ b, h1 b = none ∨ h2 b = none
def uni (h1 h2 : SH) : SH := fun b => match h1 b with | some o => some o | none => h2 b
def star (A B : HP) : HP := fun h => ∃ h1 h2, A h1 ∧ B h2 ∧ disj h1 h2 ∧ h = uni h1 h2
def Big : List HP → HP
  | [] => emp
  | A :: L => star A (Big L)
def pt (b : Nat) (o : Obj) : HP := fun h => h = fun k => if k = b then some o else none

theorem disj.symm {h1 h2 : SH} (h : disj h1 h2) : disj h2 h1 := fun b => (h b).symm
theorem uni_comm {h1 h2 : SH} (h : disj h1 h2) : uni h1 h2 = uni h2 h1 := by
  funext b; unfold uni; rcases h b with e | e <;> cases e1 : h1 b <;> cases e2 : h2 b <;> simp_all
theorem uni_assoc (h1 h2 h3 : SH) : uni (uni h1 h2) h3 = uni h1 (uni h2 h3) := by
  funext b; unfold uni; cases h1 b <;> rfl
theorem disj_uni_left {h1 h2 h3 : SH} : disj (uni h1 h2) h3 ↔ disj h1 h3 ∧ disj h2 h3 := by
  constructor
  · intro h
    refine ⟨fun b => ?_, fun b => ?_⟩
    · have := h b; unfold uni at this; cases e1 : h1 b <;> simp_all
    · have := h b; unfold uni at this; cases e1 : h1 b <;> simp_all
  · rintro ⟨h, k⟩ b
    have h := h b; have k := k b; unfold uni; cases e1 : h1 b <;> simp_all
theorem disj_uni_right {h1 h2 h3 : SH} : disj h1 (uni h2 h3) ↔ disj h1 h2 ∧ disj h1 h3 :=
  ⟨fun h => let k := disj_uni_left.1 h.symm; ⟨k.1.symm, k.2.symm⟩, fun h => (disj_uni_left.2 ⟨h.1.symm, h.2.symm⟩).symm⟩
theorem star_swap {A B C : HP} {h : SH} (k : star A (star B C) h) : star B (star A C) h := by
  obtain ⟨h1, h23, a, ⟨h2, h3, b, c, d23, rfl⟩, d, rfl⟩ := k
  obtain ⟨d12, d13⟩ := disj_uni_right.1 d
  refine ⟨h2, uni h1 h3, b, ⟨h1, h3, a, c, d13, rfl⟩, disj_uni_right.2 ⟨d12.symm, d23⟩, ?_⟩
  rw [← uni_assoc, ← uni_assoc, uni_comm d12]
theorem star_assoc {A B C : HP} {h : SH} : star (star A B) C h ↔ star A (star B C) h := by
  constructor
  · rintro ⟨h12, h3, ⟨h1, h2, a, b, d12, rfl⟩, c, d, rfl⟩
    obtain ⟨d13, d23⟩ := disj_uni_left.1 d
    exact ⟨h1, uni h2 h3, a, ⟨h2, h3, b, c, d23, rfl⟩, disj_uni_right.2 ⟨d12, d13⟩, uni_assoc ..⟩
  · rintro ⟨h1, h23, a, ⟨h2, h3, b, c, d23, rfl⟩, d, rfl⟩
    obtain ⟨d12, d13⟩ := disj_uni_right.1 d
    exact ⟨uni h1 h2, h3, ⟨h1, h2, a, b, d12, rfl⟩, c, disj_uni_left.2 ⟨d13, d23⟩, (uni_assoc ..).symm⟩
theorem star_mono {A A' B B' : HP} (ha : ∀ h, A h → A' h) (hb : ∀ h, B h → B' h) {h : SH} (k : star A B h) : star A' B' h :=
  let ⟨h1, h2, a, b, d, e⟩ := k
  ⟨h1, h2, ha _ a, hb _ b, d, e⟩
theorem uni_emp_left {h1 h2 : SH} (h : emp h1) : uni h1 h2 = h2 := by funext b; unfold uni; rw [h b]
theorem star_emp {A : HP} {h : SH} : star emp A h ↔ A h := by
  constructor
  · rintro ⟨h1, h2, e, a, _, rfl⟩; rw [uni_emp_left e]; exact a
  · intro a; exact ⟨fun _ => none, h, fun _ => rfl, a, fun _ => .inl rfl, (uni_emp_left (fun _ => rfl)).symm⟩
theorem big_perm {L L' : List HP} (p : L.Perm L') : ∀ h, Big L h → Big L' h := by
  induction p with
  | nil => exact fun _ h => h
  | cons x _ ih => exact fun h k => star_mono (fun _ a => a) ih k
  | swap x y l => exact fun h k => star_swap k
  | trans _ _ i j => exact fun h k => j h (i h k)
theorem big_append {L M : List HP} : ∀ h, Big (L ++ M) h ↔ star (Big L) (Big M) h := by
  induction L with
  | nil => intro h; exact star_emp.symm
  | cons A L ih =>
    intro h
    show star A (Big (L ++ M)) h ↔ star (star A (Big L)) (Big M) h
    rw [star_assoc]
    exact ⟨star_mono (fun _ a => a) (fun h k => (ih h).1 k), star_mono (fun _ a => a) (fun h k => (ih h).2 k)⟩

/-- In the world w lies the memory s, that stays, and beside it the memory of L; streams and tape are E's. -/
structure Holds (E : World) (s : SH) (L : List HP) (w : World) : Prop where
  os : w.os = E.os
  tape : w.tape = E.tape
  output : w.output = E.output
  ex : ∃ h, Big L h ∧ disj s h ∧ (∀ b o, s b = some o → w.heap[b]? = some o) ∧ (∀ b o, h b = some o → w.heap[b]? = some o)

section
variable {E : World} {s : SH} {L : List HP} {w w' : World} {A B : HP}
theorem Holds.imp {L L' : List HP} (hl : ∀ h, Big L h → Big L' h) (H : Holds E s L w) : Holds E s L' w :=
  ⟨H.os, H.tape, H.output, let ⟨h, a, r⟩ := H.ex; ⟨h, hl h a, r⟩⟩
theorem Holds.perm {L' : List HP} (p : L.Perm L') (H : Holds E s L w) : Holds E s L' w := H.imp (big_perm p)
theorem Holds.swap (H : Holds E s (A :: B :: L) w) : Holds E s (B :: A :: L) w := H.imp (L := A :: B :: L) fun _ k => star_swap k
theorem Holds.swap2 {C : HP} (H : Holds E s (A :: B :: C :: L) w) : Holds E s (A :: C :: B :: L) w := H.perm (List.Perm.cons _ (List.Perm.swap ..))
theorem Holds.rot3 {C : HP} (H : Holds E s (A :: B :: C :: L) w) : Holds E s (B :: C :: A :: L) w := H.swap.swap2
theorem Holds.rot3' {C : HP} (H : Holds E s (A :: B :: C :: L) w) : Holds E s (C :: A :: B :: L) w := H.swap2.swap
theorem Holds.map {A' : HP} (ha : ∀ h, A h → A' h) (H : Holds E s (A :: L) w) : Holds E s (A' :: L) w := H.imp (L := A :: L) fun _ k => star_mono ha (fun _ a => a) k
theorem Holds.open_ (H : Holds E s (star A B :: L) w) : Holds E s (A :: B :: L) w := H.imp (L := star A B :: L) fun _ k => star_assoc.1 k
theorem Holds.shut (H : Holds E s (A :: B :: L) w) : Holds E s (star A B :: L) w := H.imp (L := A :: B :: L) fun _ k => star_assoc.2 k
theorem Holds.emp (H : Holds E s (emp :: L) w) : Holds E s L w := H.imp (L := Go.Proofs.YtemdmpgekegfhaaDoor.emp :: L) fun _ k => star_emp.1 k
theorem Holds.mkEmp (H : Holds E s L w) : Holds E s (Go.Proofs.YtemdmpgekegfhaaDoor.emp :: L) w := H.imp (L := L) fun _ k => star_emp.2 k
theorem Holds.exists_ {ι : Sort _} {F : ι → HP} (H : Holds E s ((fun h => ∃ i, F i h) :: L) w) : ∃ i, Holds E s (F i :: L) w := by
  obtain ⟨h, ⟨h1, h2, ⟨i, a⟩, b⟩, r⟩ := H.ex
  exact ⟨i, H.os, H.tape, H.output, h, ⟨h1, h2, a, b⟩, r⟩
theorem Holds.pure_ {p : Prop} (H : Holds E s ((fun h => p ∧ A h) :: L) w) : p ∧ Holds E s (A :: L) w := by
  obtain ⟨h, ⟨h1, h2, ⟨i, a⟩, b⟩, r⟩ := H.ex
  exact ⟨i, H.os, H.tape, H.output, h, ⟨h1, h2, a, b⟩, r⟩
theorem Holds.or_ (H : Holds E s ((fun h => A h ∨ B h) :: L) w) : Holds E s (A :: L) w ∨ Holds E s (B :: L) w := by
  obtain ⟨h, ⟨h1, h2, i, b⟩, r⟩ := H.ex
  rcases i with i | i
  · exact .inl ⟨H.os, H.tape, H.output, h, ⟨h1, h2, i, b⟩, r⟩
  · exact .inr ⟨H.os, H.tape, H.output, h, ⟨h1, h2, i, b⟩, r⟩
theorem Holds.at_s (H : Holds E s L w) {b : Nat} {o : Obj} (h : s b = some o) : w.heap[b]? = some o := let ⟨_, _, _, r, _⟩ := H.ex; r b o h
theorem Holds.lt_s (H : Holds E s L w) {b : Nat} {o : Obj} (h : s b = some o) : b < w.heap.size := (Array.getElem?_eq_some_iff.1 (H.at_s h)).1
theorem Holds.at_pt {b : Nat} {o : Obj} (H : Holds E s (pt b o :: L) w) : w.heap[b]? = some o := by
  obtain ⟨h, ⟨h1, h2, rfl, k2, d, rfl⟩, dd, r1, r2⟩ := H.ex
  exact r2 b o (by unfold uni; simp)
theorem Holds.drop (H : Holds E s (A :: L) w) : Holds E s L w := by
  obtain ⟨h, ⟨h1, h2, k1, k2, d, rfl⟩, dd, r1, r2⟩ := H.ex
  refine ⟨H.os, H.tape, H.output, h2, k2, (disj_uni_right.1 dd).2, r1, fun b o hb => r2 b o ?_⟩
  unfold uni; rcases d b with e | e
  · rw [e]; exact hb
  · rw [e] at hb; cases hb
/-- What lay in w lies in w' as it was. -/
theorem Holds.keep (H : Holds E s L w) (e1 : w'.os = w.os) (e2 : w'.tape = w.tape) (e3 : w'.output = w.output) (hk : ∀ k, k < w.heap.size → w'.heap[k]? = w.heap[k]?) : Holds E s L w' := by
  obtain ⟨h, k, d, r1, r2⟩ := H.ex
  have lt : ∀ {b : Nat} {o : Obj}, w.heap[b]? = some o → b < w.heap.size := fun e => (Array.getElem?_eq_some_iff.1 e).1
  exact ⟨e1.trans H.os, e2.trans H.tape, e3.trans H.output, h, k, d, fun b o hb => (hk b (lt (r1 b o hb))).trans (r1 b o hb), fun b o hb => (hk b (lt (r2 b o hb))).trans (r2 b o hb)⟩
theorem Holds.upd {b : Nat} {o o' : Obj} (H : Holds E s (pt b o :: L) w) (e1 : w'.os = w.os) (e2 : w'.tape = w.tape) (e3 : w'.output = w.output)
    (hk : ∀ k, k < w.heap.size → k ≠ b → w'.heap[k]? = w.heap[k]?) (hb : w'.heap[b]? = some o') : Holds E s (pt b o' :: L) w' := by
  obtain ⟨h, ⟨h1, h2, rfl, k2, d, rfl⟩, dd, r1, r2⟩ := H.ex
  have lt : ∀ {b : Nat} {o : Obj}, w.heap[b]? = some o → b < w.heap.size := fun e => (Array.getElem?_eq_some_iff.1 e).1
  obtain ⟨da, db⟩ := disj_uni_right.1 dd
  have d2 : h2 b = none := by have := d b; simpa using this
  have ds : s b = none := by have := da b; simpa using this
  refine ⟨e1.trans H.os, e2.trans H.tape, e3.trans H.output, uni (fun k => if k = b then some o' else none) h2, ⟨_, h2, rfl, k2, ?_, rfl⟩, disj_uni_right.2 ⟨?_, db⟩, ?_, ?_⟩
  · intro k; by_cases e : k = b
    · subst e; exact .inr d2
    · left; simp [e]
  · intro k; by_cases e : k = b
    · subst e; exact .inl ds
    · right; simp [e]
  · intro k q hq
    have : k ≠ b := fun e => by subst e; rw [ds] at hq; cases hq
    rw [hk k (lt (r1 k q hq)) this]; exact r1 k q hq
  · intro k q hq
    by_cases e : k = b
    · subst e; simp [uni] at hq; subst hq; exact hb
    · have h2q : h2 k = some q := by simpa [uni, e] using hq
      have := r2 k q (by simpa [uni, e] using h2q)
      rw [hk k (lt this) e]; exact this
theorem Holds.new {g : Nat} {o : Obj} (H : Holds E s L w) (e1 : w'.os = w.os) (e2 : w'.tape = w.tape) (e3 : w'.output = w.output)
    (hk : ∀ k, k < w.heap.size → w'.heap[k]? = w.heap[k]?) (hg : w.heap.size ≤ g) (hb : w'.heap[g]? = some o) : Holds E s (pt g o :: L) w' := by
  obtain ⟨h, k, d, r1, r2⟩ := H.ex
  have lt : ∀ {b : Nat} {o : Obj}, w.heap[b]? = some o → b < w.heap.size := fun e => (Array.getElem?_eq_some_iff.1 e).1
  have hn : h g = none := by cases e : h g with | none => rfl | some q => have := lt (r2 g q e); omega
  have sn : s g = none := by cases e : s g with | none => rfl | some q => have := lt (r1 g q e); omega
  refine ⟨e1.trans H.os, e2.trans H.tape, e3.trans H.output, uni (fun k => if k = g then some o else none) h, ⟨_, h, rfl, k, ?_, rfl⟩, disj_uni_right.2 ⟨?_, d⟩, ?_, ?_⟩
  · intro k; by_cases e : k = g
    · subst e; exact .inr hn
    · left; simp [e]
  · intro k; by_cases e : k = g
    · subst e; exact .inl sn
    · right; simp [e]
  · intro b q hq; rw [hk b (lt (r1 b q hq))]; exact r1 b q hq
  · intro b q hq
    by_cases e : b = g
    · subst e; simp [uni] at hq; subst hq; exact hb
    · have h2q : h b = some q := by simpa [uni, e] using hq
      rw [hk b (lt (r2 b q h2q))]; exact r2 b q h2q
theorem Holds.freeze {b : Nat} {o : Obj} (H : Holds E s (pt b o :: L) w) : ∃ s', Sub s s' ∧ s' b = some o ∧ Holds E s' L w := by
  obtain ⟨h, ⟨h1, h2, rfl, k2, d, rfl⟩, dd, r1, r2⟩ := H.ex
  obtain ⟨da, db⟩ := disj_uni_right.1 dd
  have d2 : h2 b = none := by have := d b; simpa using this
  have ds : s b = none := by have := da b; simpa using this
  refine ⟨fun k => if k = b then some o else s k, fun k q hq => ?_, by simp, H.os, H.tape, H.output, h2, k2, fun k => ?_, fun k q hq => ?_, fun k q hq => ?_⟩
  · have : k ≠ b := fun e => by subst e; rw [ds] at hq; cases hq
    simp [this, hq]
  · by_cases e : k = b
    · subst e; exact .inr d2
    · simpa [e] using db k
  · by_cases e : k = b
    · subst e; simp at hq; subst hq; exact r2 k o (by unfold uni; simp)
    · simp [e] at hq; exact r1 k q hq
  · have : k ≠ b := fun e => by subst e; rw [d2] at hq; cases hq
    exact r2 k q (by simp [uni, this, hq])
theorem Holds.alloc (H : Holds E s L w) (o : Obj) : Holds E s (pt w.heap.size o :: L) (w.alloc o) :=
  H.new rfl rfl rfl (fun k hk => Below.heap_alloc w o k hk) (Nat.le_refl _) (by show (w.heap.push o)[w.heap.size]? = some o; simp)
theorem Holds.drew (H : Holds E s L w) : Holds E s L w.drew := H.keep rfl rfl rfl fun _ _ => rfl
theorem Holds.drewN (H : Holds E s L w) (n : Nat) : Holds E s L (w.drewN n) := H.keep rfl rfl rfl fun _ _ => rfl
/-- A call under a contract of the kit's form: all that lay there stays. -/
theorem Holds.below (H : Holds E s L w) (hb : Below w.heap.size w w') : Holds E s L w' := H.keep hb.os hb.tape hb.output hb.block
theorem Holds.setCell {b : Nat} {cs : Array Value} {t : TypeId} (H : Holds E s (pt b (.cells cs t (0, 0)) :: L) w) (j : Nat) (u : Value) :
    Holds E s (pt b (.cells (cs.setIfInBounds j u) t (0, 0)) :: L) (w.setCell ⟨b, j, none⟩ u) :=
  H.upd rfl rfl rfl (fun k _ hk => Below.heap_setCell _ _ _ _ hk) (by simp only [World.setCell, Array.getElem?_modify]; rw [H.at_pt]; simp)
end

theorem perm_at {A : HP} : ∀ {L : List HP} {i : Nat}, L[i]? = some A → L.Perm (A :: L.eraseIdx i)
  | [], _, h => by simp at h
  | B :: L, 0, h => by simp at h; subst h; exact List.Perm.refl _
  | B :: L, i + 1, h => by
    simp only [List.getElem?_cons_succ] at h
    exact ((perm_at h).cons B).trans (List.Perm.swap ..)
theorem perm_set {A B : HP} : ∀ {L : List HP} {i : Nat}, L[i]? = some A → (B :: L.eraseIdx i).Perm (L.set i B)
  | [], _, h => by simp at h
  | C :: L, 0, h => List.Perm.refl _
  | C :: L, i + 1, h => by
    simp only [List.getElem?_cons_succ] at h
    exact (List.Perm.swap ..).trans ((perm_set h).cons C)
theorem Holds.front {E : World} {s : SH} {L : List HP} {w : World} {A : HP} (i : Nat) (H : Holds E s L w) (hi : L[i]? = some A) : Holds E s (A :: L.eraseIdx i) w := H.perm (perm_at hi)
theorem Holds.back {E : World} {s : SH} {L : List HP} {w : World} {A B : HP} (i : Nat) (hi : L[i]? = some A) (H : Holds E s (B :: L.eraseIdx i) w) : Holds E s (L.set i B) w := H.perm (perm_set hi)

/-- The whole memory of w as memory that stays. -/
def all (w : World) : SH := fun b => w.heap[b]?
theorem Holds.start (w : World) : Holds w (all w) [] w :=
  ⟨rfl, rfl, rfl, fun _ => none, fun _ => rfl, fun _ => .inr rfl, fun _ _ h => h, fun _ _ h => by cases h⟩
theorem Holds.toBelow {w w' : World} {s : SH} {L : List HP} (hs : Sub (all w) s) (H : Holds w s L w') : Below w.heap.size w w' := by
  have hk : ∀ k, k < w.heap.size → w'.heap[k]? = w.heap[k]? := fun k hk => by
    have e : all w k = some w.heap[k] := Array.getElem?_eq_getElem hk
    rw [H.at_s (hs k _ e)]; exact e.symm
  refine ⟨H.os, H.tape, H.output, ?_, hk⟩
  rcases Nat.lt_or_ge w'.heap.size w.heap.size with h | h
  · have := hk w'.heap.size h
    rw [Array.getElem?_eq_none (Nat.le_refl _)] at this
    rw [Array.getElem?_eq_getElem h] at this; cases this
  · exact h

/-- Cells c lie at address p. -/
def Cells (s : SH) (p : Addr) (c : List Value) : Prop := p.spot = none ∧ ∃ cur e fr, s p.block = some (.cells cur e fr) ∧ ∀ j u, c[j]? = some u → cur[p.off + j]? = some u
theorem Cells.mono {s t : SH} (h : Sub s t) {p : Addr} {c : List Value} (k : Cells s p c) : Cells t p c :=
  let ⟨a, cur, e, fr, b, r⟩ := k
  ⟨a, cur, e, fr, h _ _ b, r⟩
theorem Cells.cell {E : World} {s : SH} {L : List HP} {w : World} (H : Holds E s L w) {p : Addr} {c : List Value} (k : Cells s p c) (j : Nat) (u : Value) (hj : c[j]? = some u) : w.cell? (p.add j) = some u := by
  obtain ⟨a, cur, e, fr, b, r⟩ := k
  obtain ⟨blk, off, spot⟩ := p
  simp only at a b r
  subst a
  have : (⟨blk, off, none⟩ : Addr).add j = ⟨blk, off + j, none⟩ := by unfold Addr.add; split <;> simp_all
  rw [this]
  simp only [World.cell?, H.at_s b]
  exact r j u hj
theorem Cells.cell' {E : World} {s : SH} {L : List HP} {w : World} (H : Holds E s L w) {b off : Nat} {c : List Value} (k : Cells s ⟨b, off, none⟩ c) (j : Nat) (u : Value) (hj : c[j]? = some u) : w.cell? ⟨b, off + j, none⟩ = some u := by
  have := k.cell H j u hj
  have e : (⟨b, off, none⟩ : Addr).add j = ⟨b, off + j, none⟩ := by unfold Addr.add; split <;> simp_all
  rwa [e] at this

/-! ### one operation: what it yields -/
def Oper.gives (P : Program) (Φ : Value → World → Prop) : Result Next → Prop
  | .ok (.value v) w' => Φ v w'
  | .ok .skip w' => Φ undef w'
  | .ok (.enter f args) w' => Calls P f args w' fun e w'' => ∃ v, e = .returned v ∧ Φ v w''
  | _ => False
def OpG (P : Program) (o : Oper) (a : Act) (w : World) (Φ : Value → World → Prop) : Prop := Oper.gives P Φ ((execOp a.eval o).run P w)
theorem OpG.mono' {P : Program} {o : Oper} {a : Act} {w : World} {Φ Ψ : Value → World → Prop} (h : OpG P o a w Φ) (hm : ∀ v w, Φ v w → Ψ v w) : OpG P o a w Ψ := by
  unfold OpG at *
  generalize (execOp a.eval o).run P w = r at *
  cases r with
  | ok n w' =>
    cases n <;> simp only [Oper.gives] at h ⊢ <;> try exact hm _ _ h
    exact h.mono fun e w'' ⟨v, he, hv⟩ => ⟨v, he, hm _ _ hv⟩
  | halt x w' => simp only [Oper.gives] at h
theorem OpG.wp {P : Program} {o : Oper} {a : Act} {w : World} {K : Act → World → Prop} {Q : Exit → Act → World → Prop}
    (h : OpG P o a w fun v w' => K (a.put o.dst v) w') : o.wp P a w K Q := by
  unfold OpG at h
  unfold Oper.wp
  generalize (execOp a.eval o).run P w = r at *
  cases r with
  | ok n w' =>
    cases n <;> simp only [Oper.gives] at h <;> simp only [Oper.upon] <;> try exact h
    exact h.mono fun e w'' ⟨v, he, hv⟩ => by subst he; exact hv
  | halt x w' => simp only [Oper.gives] at h
theorem OpG.list {P : Program} {o : Oper} {ops : Array Oper} {rest : List Oper} {a : Act} {w : World} {Q : Exit → Act → World → Prop} (hg : o.guard = none)
    (h : OpG P o a w fun v w' => wpList P ops Q rest (a.put o.dst v) w') : wpList P ops Q (o :: rest) a w :=
  wpList_plain hg fun _ hK => (OpG.wp (h.mono' fun _ _ k => hK _ _ k))
theorem OpG.listW {P : Program} {o : Oper} {ops : Array Oper} {rest : List Oper} {a : Act} {w : World} {Q : Exit → Act → World → Prop} (hg : Region.wanted o (yielded ops a.tmps) = true)
    (h : OpG P o a w fun v w' => wpList P ops Q rest (a.put o.dst v) w') : wpList P ops Q (o :: rest) a w :=
  wpList_step fun _ hK => by rw [if_pos hg]; exact OpG.wp (h.mono' fun _ _ k => hK _ _ k)
theorem OpG.mono {P : Program} {o : Oper} {a : Act} {w : World} {Φ Ψ : Value → World → Prop} (hm : ∀ v w, Φ v w → Ψ v w) (h : OpG P o a w Φ) : OpG P o a w Ψ := by
  unfold OpG at *
  generalize (execOp a.eval o).run P w = r at *
  cases r with
  | ok n w' =>
    cases n <;> simp only [Oper.gives] at h ⊢ <;> try exact hm _ _ h
    exact h.mono fun e w'' ⟨v, he, hv⟩ => ⟨v, he, hm _ _ hv⟩
  | halt x w' => simp only [Oper.gives] at h
end Go.Proofs.YtemdmpgekegfhaaDoor
