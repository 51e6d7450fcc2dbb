/- Parts of slices. -/
import Derived.Test.YtemdmpgekegfhaaDoorWp
import Derived.Laws.Slices
namespace Go.Proofs.YtemdmpgekegfhaaDoor
open Go.RowKit
set_option linter.all false
set_option maxRecDepth 10000

theorem i64w {n : Int} (h : -9223372036854775808 ≤ n) (h2 : n ≤ 9223372036854775807) : IntKind.i64.wrap n = n := by
  simp [IntKind.wrap, IntKind.bits, IntKind.signed]; split <;> omega
/-- Where a slice begins behind its first l elements. -/
def dropA (A : Option Addr) (cap l sz : Nat) : Option Addr := if cap = l then A else A.map (·.add (l * sz))
section
variable {P : Program} {o : Oper} {a : Act} {w : World} {Φ : Value → World → Prop} {E : World} {s : SH} {L : List HP} {α : Type} {d : Kin α} {t : TypeId}
theorem At.elem (hd : d.At P t) : P.underlying t = some (.slice (P.elem t)) := by
  have h := hd.ht
  have : P.elem t = d.e := by unfold Program.elem; rw [h]
  rw [this]; exact h
theorem At.size (hd : d.At P t) (w : World) : (sizeOf (P.elem t)).run P w = .ok d.sz w := by
  have h := hd.ht
  have e : P.elem t = d.e := by unfold Program.elem; rw [h]
  obtain ⟨i, z, hi, hz, hzs, hsz, hby⟩ := hd.hi
  rw [e]
  simp [sizeOf, typeInfo, hi, hsz]
theorem G_slice_l (hd : d.At P t) (x y : Operand) (ho : o.op = .slice t x (some y) none none) {A : Option Addr} {n cap : Nat} {k : IntKind} {l : Int} (hx : a.eval x = .slice A n cap) (hy : a.eval y = .int k l) (h0 : 0 ≤ l) (h1 : l ≤ n)
    (h : Φ (.slice (dropA A cap l.toNat d.sz) (n - l.toNat) (cap - l.toNat)) w) : OpG P o a w Φ := by
  unfold OpG execOp
  simp only [ho, hx, hy, Option.map_some, Option.map_none]
  rw [Sem.run_bind, run_sliceAt_slice _ _ _ _ _ _ (At.elem hd), run_slice_l _ _ _ _ _ (At.elem hd) _ _ h0 h1, At.size hd]
  simp only [Result.andThen_ok, Sem.run_pure, Oper.gives]
  exact h
theorem G_slice_lN (hd : d.At P t) (x y : Operand) (ho : o.op = .slice t x (some y) none none) {A : Option Addr} {n cap : Nat} {k : IntKind} {l : Nat} (hx : a.eval x = .slice A n cap) (hy : a.eval y = .int k (l : Int)) (h1 : l ≤ n)
    (h : Φ (.slice (dropA A cap l d.sz) (n - l) (cap - l)) w) : OpG P o a w Φ :=
  G_slice_l hd x y ho hx hy (Int.natCast_nonneg l) (by omega) (by simpa using h)
theorem G_slice_hN (hd : d.At P t) (x y : Operand) (ho : o.op = .slice t x none (some y) none) {A : Option Addr} {n cap : Nat} {k : IntKind} {l : Nat} (hx : a.eval x = .slice A n cap) (hy : a.eval y = .int k (l : Int)) (h1 : l ≤ cap)
    (h : Φ (.slice A l cap) w) : OpG P o a w Φ := by
  unfold OpG execOp
  simp only [ho, hx, hy, Option.map_some, Option.map_none]
  rw [Sem.run_bind, run_sliceAt_slice _ _ _ _ _ _ (At.elem hd), run_slice_h _ _ _ _ _ (At.elem hd) _ _ (Int.natCast_nonneg l) (by omega), At.size hd]
  simp only [Result.andThen_ok, Sem.run_pure, Oper.gives, sliced, cut_nil, Int.toNat_natCast, Nat.sub_zero]
  exact h
theorem SL_1 {t e : TypeId} {x : Tmp} (ho : o.op = .buildSlice t 1 #[(0, .tmp x)]) {v : Value} (hx : a.tmps.toList[x]? = some v) {z : Value} {k : Nat} (ht : P.underlying t = some (.slice e)) (hs : ∀ w, (sizeOf e).run P w = .ok k w)
    (hz : ∀ w, (zeroValue e).run P w = .ok z w) (hzs : z.cells.size = k) (hv : v.cells.size = k) (h0 : 0 < k) (h24 : k ≤ 16777216) (H : Holds E s L w)
    (h : ∀ b w', Holds E s (pt b (.cells v.cells e (0, 0)) :: L) w' → Φ (.slice (some ⟨b, 0, none⟩) 1 1) w') : OpG P o a w Φ :=
  G_slice1 ho (by simp only [Act.eval]; rw [Array.getElem?_toList] at hx; simp [hx]) ht hs hz hzs hv h0 h24 H h
/-- append of one element that stays, onto an owned slice at place i. -/
theorem AP_1 {s0 : SH} (i : Nat) (hd : d.At P t) (x y : Operand) (ho : o.op = .call { callee := .builtin .append, args := #[x, y], argTypes := #[t, t] })
    {v : Value} {xs : List α} {p : α} {cs : List Value} {g : Nat} {te : TypeId} (hK : d.K s0 p cs) (H : Holds E s (pt g (.cells cs.toArray te (0, 0)) :: L) w) (hi : L[i]? = some ((d.sh s0).Osl v xs))
    {c : Nat} (hx : a.eval x = v) (hy : a.eval y = .slice (some ⟨g, 0, none⟩) 1 c) (hby : (xs.length + 1) * d.by_ ≤ 140737488355328)
    (h : ∀ v' w', Holds E s (L.set i ((d.sh s0).Osl v' (xs ++ [p]))) w' → Φ v' w') : OpG P o a w Φ := by
  have H1 := H.perm (List.Perm.cons _ (perm_at hi))
  have H2 := (Holds.map (A := emp) (A' := (d.sh s0).M p cs) (fun h k => ⟨hK, k⟩) H1.mkEmp).perm (List.Perm.trans (List.Perm.swap _ _ _) (List.Perm.cons _ (List.Perm.swap _ _ _)))
  exact G_append1 (d := d.sh s0) ⟨hd.ht, hd.bypos, hd.hi⟩ x y ho H2 hx hy hby fun v' w' H' => h v' w' (H'.perm (perm_set hi))
end
theorem Kin.Sl.drop {α : Type} {d : Kin α} {s : SH} {A : Option Addr} {n cap : Nat} {xs : List α} (h : d.Sl s (.slice A n cap) xs) (i : Nat) (hi : i ≤ n) : d.Sl s (.slice (dropA A cap i d.sz) (n - i) (cap - i)) (xs.drop i) := by
  obtain ⟨A', cap', h1, h2, h3, h4⟩ := h
  cases h1
  refine ⟨if cap = i then A else A.map (·.add (i * d.sz)), cap - i, ?_, ?_, ?_, fun hx => ?_⟩
  · unfold dropA; rw [List.length_drop]
  · rw [List.length_drop]; omega
  · rw [List.length_drop]
    have := Nat.mul_le_mul_right d.by_ (Nat.sub_le xs.length i)
    omega
  · have hlt : i < xs.length := by
      rcases Nat.lt_or_ge i xs.length with h | h
      · exact h
      · exact absurd (List.drop_of_length_le h) hx
    have hne : ¬ cap = i := by omega
    obtain ⟨b, off, cur, e', fr, k1, k2, k3⟩ := h4 (fun e => by rw [e] at hlt; simp at hlt)
    refine ⟨b, off + i * d.sz, cur, e', fr, ?_, k2, ?_⟩
    · rw [if_neg hne, k1]
      have : (⟨b, off, none⟩ : Addr).add (i * d.sz) = ⟨b, off + i * d.sz, none⟩ := by unfold Addr.add; split <;> simp_all
      simp [this]
    · have := Row.drop i k3
      rw [List.drop_take, List.drop_drop] at this
      rw [List.length_drop, Nat.sub_mul]
      exact this
theorem Kin.sh_mono {α : Type} {d : Kin α} {s0 s1 : SH} (hs : Sub s0 s1) : ∀ {xs : List α} {cs : List Value} {h : SH}, (d.sh s0).RowM xs cs h → (d.sh s1).RowM xs cs h
  | [], _, _, h => h
  | x :: xs, _, h, ⟨c, r, e, h1, h2, a, b, dd, ee⟩ => ⟨c, r, e, h1, h2, ⟨d.mono hs a.1, a.2⟩, Kin.sh_mono hs b, dd, ee⟩
theorem Kin.Osl.sh_mono {α : Type} {d : Kin α} {s0 s1 : SH} (hs : Sub s0 s1) {v : Value} {xs : List α} (h : SH) (k : (d.sh s0).Osl v xs h) : (d.sh s1).Osl v xs h := by
  rcases k with k | ⟨b, cap, cur, p, k⟩
  · exact .inl k
  · exact .inr ⟨b, cap, cur, p, star_mono (fun _ a => a) (fun h k => Kin.sh_mono hs k) k⟩
theorem lenB (xs : List Op') : ∃ B, ∀ o ∈ xs, o.list.length ≤ B := by
  induction xs with
  | nil => exact ⟨0, fun o h => by cases h⟩
  | cons x xs ih =>
    obtain ⟨B, hB⟩ := ih
    refine ⟨max B x.list.length, fun o ho => ?_⟩
    rcases List.mem_cons.1 ho with e | e
    · subst e; omega
    · have := hB o e; omega
end Go.Proofs.YtemdmpgekegfhaaDoor
