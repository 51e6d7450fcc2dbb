/- Sorting an owned slice of whole numbers. -/
import Derived.Test.YticpadjheelipaaShelf
import Derived.Test.YticpadjheelipaaPlain
import Derived.Test.YticpadjheelipaaOwn
namespace Go.Proofs.Yticpadjheelipaa
open Go.RowKit
set_option linter.all false
set_option maxRecDepth 10000

theorem rowM_kI : ∀ {xs : List Int} {cs : List Value} {h : SH}, kI.RowM xs cs h → (cs = xs.map (Value.int .i64) ∧ ∀ x ∈ xs, Kin.inI64 x) ∧ emp h
  | [], cs, h, k => ⟨⟨k.1, fun x hx => by cases hx⟩, k.2⟩
  | x :: xs, cs, h, ⟨c, r, e, h1, h2, a, b, hd, hu⟩ => by
    obtain ⟨⟨e2, k2⟩, k3⟩ := rowM_kI b
    obtain ⟨⟨ec, k4⟩, k5⟩ := a
    refine ⟨⟨by rw [e, ec, e2]; rfl, fun y hy => ?_⟩, fun q => ?_⟩
    · rcases List.mem_cons.1 hy with rfl | hy2
      · exact k4
      · exact k2 y hy2
    · rw [hu]; unfold uni; rw [k5 q]; exact k3 q
theorem rowM_kI_mk : ∀ {xs : List Int} {h : SH}, (∀ x ∈ xs, Kin.inI64 x) → emp h → kI.RowM xs (xs.map (Value.int .i64)) h
  | [], h, _, k => ⟨rfl, k⟩
  | x :: xs, h, hx, k => ⟨[.int .i64 x], xs.map (Value.int .i64), rfl, h, h, ⟨⟨rfl, hx x (List.mem_cons_self ..)⟩, k⟩, rowM_kI_mk (fun y hy => hx y (List.mem_cons_of_mem _ hy)) k, fun b => .inl (k b), by
    funext q; unfold uni; rw [k q]⟩
abbrev sortZ (zs : List Int) : List Int := zs.mergeSort fun x y => decide (x ≤ y)
theorem sortI {E : World} {s s0 : SH} {L : List HP} {w : World} {v : Value} {zs : List Int} (H : Holds E s ((kI.sh s0).Osl v zs :: L) w) :
    Calls Try.prog 48 #[v] w fun e w' => e = .returned (.tuple #[]) ∧ Holds E s ((kI.sh s0).Osl v (sortZ zs) :: L) w' := by
  replace H := H.map (fun h k => (osl_sh_kI s0 v zs h).1 k)
  rcases Holds.or_ H with H | H
  · obtain ⟨⟨e1, e2⟩, H1⟩ := Holds.pure_ H
    subst e1; subst e2
    clear H
    refine (Try.slices_Sort_int_none none 0 w).mono ?_
    rintro e w' ⟨rfl, rfl⟩
    exact ⟨rfl, by rw [show sortZ [] = [] by simp [sortZ]]; exact Kin.Osl.nil H1.emp⟩
  · obtain ⟨b, H⟩ := Holds.exists_ H
    obtain ⟨cap, H⟩ := Holds.exists_ H
    obtain ⟨cur, H⟩ := Holds.exists_ H
    obtain ⟨⟨e1, h1, h2, h3, h4⟩, H1⟩ := Holds.pure_ H
    clear H
    subst e1
    have H := H1.open_.swap.map (fun h k => rowM_kI (xs := zs) (cs := cur.toList.take (zs.length * kI.sz)) (h := h) k)
    obtain ⟨⟨hc, hin⟩, H⟩ := Holds.pure_ H
    replace H := H.emp
    have hsz : kI.sz = 1 := rfl
    rw [hsz, Nat.mul_one] at hc h3
    have hb := H.at_pt
    have hblk : b < w.heap.size := (Array.getElem?_eq_some_iff.1 hb).1
    have hget : ∀ j (hj : j < zs.length), cur[j]? = some (.int .i64 zs[j]) := fun j hj => by
      have := congrArg (·[j]?) hc
      simp only [List.getElem?_take, hj, if_true, List.getElem?_map, Array.getElem?_toList, List.getElem?_eq_getElem hj, Option.map_some] at this
      exact this
    have hH : Go.Sort.Holds (Value.int .i64) w b 0 zs.toArray := fun j hj => by
      have hj2 : j < zs.length := by simpa using hj
      refine ⟨?_, ?_⟩
      · simp only [World.cell?, hb, Nat.zero_add, hget j hj2]
        simp [hj2]
      · simp [World.frozen?, hb]
    have hl : (sortZ zs).length = zs.length := List.length_mergeSort zs
    refine (Try.slices_Sort_int b 0 cap zs w hH hblk (by have h5 : zs.length * 8 ≤ 140737488355328 := h4; omega)).mono ?_
    rintro e w' ⟨rfl, n, os, rfl⟩
    refine ⟨rfl, ?_⟩
    refine Holds.map (fun h k => (osl_sh_kI s0 _ _ h).2 k) ?_
    obtain ⟨cur2, hcur2⟩ : ∃ c, c = Go.Sort.putCells (Value.int .i64) 0 (sortZ zs).toArray cur := ⟨_, rfl⟩
    have H2 := H.upd (w' := Go.Sort.grow (Go.Sort.putRow (Value.int .i64) (Go.Sort.ahead w n) b 0 (sortZ zs).toArray) os) (o' := .cells cur2 kI.e (0, 0)) rfl rfl rfl (fun k hk hkb => by
        show ((w.heap.modify b (Go.Sort.onCells _)) ++ os)[k]? = _
        rw [Array.getElem?_append_left (by simpa using hk), Array.getElem?_modify, if_neg (fun e => hkb e.symm)]) (by
        show ((w.heap.modify b (Go.Sort.onCells _)) ++ os)[b]? = _
        rw [Array.getElem?_append_left (by simpa using hblk), Array.getElem?_modify, if_pos rfl, hb, hcur2]; rfl)
    have hs2 : cur2.size = cur.size := by rw [hcur2]; simp [Go.Sort.putCells]
    have hc2 : cur2.toList.take (sortZ zs).length = (sortZ zs).map (Value.int .i64) := by
      apply List.ext_getElem?
      intro j
      rw [List.getElem?_take, List.getElem?_map]
      by_cases hj : j < (sortZ zs).length
      · have hj3 : j < cur.size := by omega
        rw [if_pos hj, Array.getElem?_toList, hcur2]
        simp only [Go.Sort.putCells, Array.getElem?_mapIdx, Array.getElem?_eq_getElem hj3, Option.map_some]
        rw [if_pos ⟨Nat.zero_le _, by simpa using hj⟩, List.getElem?_eq_getElem hj]
        simp only [Nat.sub_zero, Option.map_some]
        rw [getElem!_pos _ j (by simpa using hj)]
        rfl
      · rw [if_neg hj, List.getElem?_eq_none (by omega)]; rfl
    refine Holds.imp (L := star (pt b (.cells cur2 kI.e (0, 0))) (kI.RowM (sortZ zs) (cur2.toList.take ((sortZ zs).length * kI.sz))) :: L) (fun h k => star_mono (fun h k => .inr ⟨b, cap, cur2, ⟨by rw [hl], by omega, h2, by rw [hs2, hsz, h3]; omega, by rw [hl]; exact h4⟩, k⟩) (fun _ a => a) k) ?_
    refine Holds.shut (Holds.swap ?_)
    rw [hsz, Nat.mul_one, hc2]
    exact (H2.mkEmp).map (fun h k => rowM_kI_mk (fun x hx => hin x ((List.mergeSort_perm zs _).mem_iff.1 hx)) k)
end Go.Proofs.Yticpadjheelipaa
