/- make of a slice; a block that stays from here on. -/
import Derived.Test.YtemdmpgekegfhaaDoorFocus
namespace Go.Proofs.YtemdmpgekegfhaaDoor
open Go.RowKit
set_option linter.all false
set_option maxRecDepth 10000
section
variable {P : Program} {o : Oper} {a : Act} {w : World} {Φ : Value → World → Prop} {E : World} {s : SH} {L : List HP}

theorem madeCells_succ (z : Array Value) (n : Nat) : madeCells z ((n + 1) * z.size) = madeCells z (n * z.size) ++ z := by
  apply Array.ext
  · simp [madeCells, Nat.succ_mul]
  · intro i h1 h2
    simp only [madeCells, Array.getElem_map, Array.getElem_range]
    by_cases h : i < n * z.size
    · rw [Array.getElem_append_left (by simpa [madeCells] using h)]
      simp [madeCells]
    · rw [Array.getElem_append_right (by simpa [madeCells] using h)]
      simp only [Array.size_map, Array.size_range]
      have h3 : i < n * z.size + z.size := by simpa [madeCells, Nat.succ_mul] using h1
      have h4 : i % z.size = i - n * z.size := by
        have e0 : z.size * n = n * z.size := Nat.mul_comm ..
        have e : i = (i - n * z.size) + z.size * n := by omega
        conv => lhs; rw [e]
        rw [Nat.add_mul_mod_self_left, Nat.mod_eq_of_lt (by omega)]
      rw [h4, getElem!_pos z _ (by omega)]
theorem made_row {α : Type} {d : Kin α} {x0 : α} {z : Array Value} (hzs : z.size = d.sz) (hM : ∀ h, emp h → d.M x0 z.toList h) : ∀ (n : Nat) (h : SH), emp h → d.RowM (List.replicate n x0) (madeCells z (n * d.sz)).toList h
  | 0, h, e => ⟨by simp [madeCells], e⟩
  | n + 1, h, e => by
    have e1 : (madeCells z ((n + 1) * d.sz)).toList = (madeCells z (n * d.sz)).toList ++ z.toList := by
      rw [← hzs, madeCells_succ, Array.toList_append]
    rw [e1, List.replicate_succ']
    exact Kin.RowM.snoc ⟨h, fun _ => none, made_row hzs hM n h e, hM _ (fun _ => rfl), fun _ => .inr rfl, by rw [uni_emp_left e]; funext b; exact e b⟩
theorem G_make {α : Type} {d : Kin α} {t : TypeId} (hd : d.At P t) (x y : Operand) (ho : o.op = .makeSlice t x y) {kl kc : IntKind} (n : Nat) (hx : a.eval x = .int kl n) (hy : a.eval y = .int kc n) (x0 : α)
    (hM : ∀ i z, P.info? d.e = some i → i.zero = some z → ∀ h, emp h → d.M x0 z.cells.toList h) (hby : n * d.by_ ≤ 140737488355328) (H : Holds E s L w)
    (h : ∀ v' w', Holds E s (d.Osl v' (List.replicate n x0) :: L) w' → Φ v' w') : OpG P o a w Φ := by
  obtain ⟨i, z, hi, hz, hzs, hsz, hbytes⟩ := hd.hi
  have hn : n ≤ 140737488355328 := Nat.le_trans (Nat.le_mul_of_pos_right _ hd.bypos) hby
  have hb2 : (i.bytes : Int) * (n : Int) ≤ 281474976710656 := by
    have : i.bytes * n ≤ 140737488355328 := by rw [hbytes, Nat.mul_comm]; exact hby
    have h2 : ((i.bytes * n : Nat) : Int) ≤ ((140737488355328 : Nat) : Int) := Int.ofNat_le.2 this
    rw [Int.natCast_mul] at h2
    omega
  have hr := run_make (P := P) w t d.e i z hd.ht hi hz kl kc n n (by omega) (Int.le_refl _) hb2 (by omega)
  unfold OpG execOp
  simp only [ho, hx, hy, Sem.run_bind, Sem.run_pure, Result.andThen_ok, hr, Oper.gives, Int.toNat_natCast]
  have H1 := (Holds.map (A := Go.Proofs.YtemdmpgekegfhaaDoor.emp) (made_row (d := d) hzs (hM i z hi hz) n) H.mkEmp).alloc (.cells (madeCells z.cells (n * i.size)) d.e (0, 0))
  rw [hsz] at H1 ⊢
  have := Kin.Osl.mk (d := d) (b := w.heap.size) (cap := n) (cur := madeCells z.cells (n * d.sz)) (xs := List.replicate n x0) (by simp) (by unfold maxLen; omega) (by simp [madeCells]) (by rw [List.length_replicate]; exact hby)
    (by rw [List.length_replicate, List.take_of_length_le (by simp [madeCells])]; exact H1.swap.swap)
  rw [List.length_replicate] at this
  exact h _ _ this
theorem Cells.of_s {b : Nat} {cs : List Value} {t : TypeId} {fr : Nat × Nat} (h : s b = some (.cells cs.toArray t fr)) : Cells s ⟨b, 0, none⟩ cs :=
  ⟨rfl, cs.toArray, t, fr, h, fun j u hu => by simpa using hu⟩
end
end Go.Proofs.YtemdmpgekegfhaaDoor
