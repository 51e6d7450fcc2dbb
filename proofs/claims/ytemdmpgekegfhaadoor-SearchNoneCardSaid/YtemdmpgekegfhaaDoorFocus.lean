/- One element of an owned slice, looked at and written. -/
import Derived.Test.YtemdmpgekegfhaaDoorOb
namespace Go.Proofs.YtemdmpgekegfhaaDoor
open Go.RowKit
set_option linter.all false
set_option maxRecDepth 10000
namespace Kin
variable {α : Type} {d : Kin α} {E : World} {s : SH} {L : List HP} {w : World}

theorem RowM.split : ∀ (k : Nat) {xs : List α} {cs : List Value} {h : SH}, d.RowM xs cs h → star (d.RowM (xs.take k) (cs.take (k * d.sz))) (d.RowM (xs.drop k) (cs.drop (k * d.sz))) h
  | 0, xs, cs, h, k => by
    simp only [List.take_zero, Nat.zero_mul, List.drop_zero]
    exact ⟨fun _ => none, h, ⟨rfl, fun _ => rfl⟩, k, fun _ => .inl rfl, by rw [uni_emp_left (fun _ => rfl)]⟩
  | k + 1, [], cs, h, hr => by
    obtain ⟨rfl, he⟩ := hr
    simp only [List.take_nil, List.drop_nil]
    exact ⟨fun _ => none, h, ⟨rfl, fun _ => rfl⟩, ⟨rfl, he⟩, fun _ => .inl rfl, by rw [uni_emp_left (fun _ => rfl)]⟩
  | k + 1, x :: xs, cs, h, ⟨c, r, e, hs⟩ => by
    have hc : c.length = d.sz := let ⟨_, _, a, _⟩ := hs; d.lenM a
    have h2 := star_assoc.2 (star_mono (fun _ a => a) (fun h k' => RowM.split k k') hs)
    have e1 : cs.take ((k + 1) * d.sz) = c ++ r.take (k * d.sz) := by
      rw [e, List.take_append, hc, List.take_of_length_le (by rw [hc, Nat.succ_mul]; omega)]
      congr 2; rw [Nat.succ_mul]; omega
    have e2 : cs.drop ((k + 1) * d.sz) = r.drop (k * d.sz) := by
      have e3 : c.drop ((k + 1) * d.sz) = [] := List.drop_of_length_le (by rw [hc, Nat.succ_mul]; omega)
      have e4 : (k + 1) * d.sz - d.sz = k * d.sz := by rw [Nat.succ_mul]; omega
      rw [e, List.drop_append, hc, e3, e4]; simp
    rw [e1, e2, List.take_succ_cons, List.drop_succ_cons]
    exact star_mono (fun h k' => ⟨c, _, rfl, k'⟩) (fun _ a => a) h2
theorem Osl.take {A : Option Addr} {n cap : Nat} {xs : List α} (m : Nat) (hm : m ≤ xs.length) (H : Holds E s (d.Osl (.slice A n cap) xs :: L) w) : Holds E s (d.Osl (.slice A m cap) (xs.take m) :: L) w := by
  have hbm : (xs.take m).length = m := by rw [List.length_take, Nat.min_eq_left hm]
  rcases Holds.or_ H with H | H
  · obtain ⟨⟨e1, e2⟩, H'⟩ := Holds.pure_ H
    cases e1
    subst e2
    have : m = 0 := by simpa using hm
    subst this
    exact Osl.nil H'.emp
  · obtain ⟨b, H⟩ := Holds.exists_ H
    obtain ⟨cap', H⟩ := Holds.exists_ H
    obtain ⟨cur, H⟩ := Holds.exists_ H
    obtain ⟨⟨e1, h1, h2, h3, h4⟩, H'⟩ := Holds.pure_ H
    cases e1
    have H2 := ((H'.open_.swap.map (fun h k => RowM.split m k)).open_.swap.drop).swap
    have e : (List.take (xs.length * d.sz) cur.toList).take (m * d.sz) = cur.toList.take ((xs.take m).length * d.sz) := by
      rw [hbm, List.take_take, Nat.min_eq_left (Nat.mul_le_mul_right _ hm)]
    rw [e] at H2
    have := Osl.mk (d := d) (cap := cap) (by rw [hbm]; omega) h2 h3 (by rw [hbm]; exact Nat.le_trans (Nat.mul_le_mul_right _ hm) h4) H2
    rwa [hbm] at this
theorem Sl.take {A : Option Addr} {n cap : Nat} {xs : List α} (m : Nat) (hm : m ≤ xs.length) (h : d.Sl s (.slice A n cap) xs) : d.Sl s (.slice A m cap) (xs.take m) := by
  have hbm : (xs.take m).length = m := by rw [List.length_take, Nat.min_eq_left hm]
  obtain ⟨A', cap', h1, h2, h3, h4⟩ := h
  cases h1
  refine ⟨A, cap, by rw [hbm], by rw [hbm]; omega, by rw [hbm]; exact Nat.le_trans (Nat.mul_le_mul_right _ hm) h3, fun hx => ?_⟩
  have hx' : xs ≠ [] := fun e => hx (by rw [e]; simp)
  obtain ⟨b, off, cur, e', fr, k1, k2, k3⟩ := h4 hx'
  refine ⟨b, off, cur, e', fr, k1, k2, ?_⟩
  have := k3.take m
  rw [List.take_take, Nat.min_eq_left (Nat.mul_le_mul_right _ hm)] at this
  rw [hbm]; exact this
theorem Osl.focus {v : Value} {xs : List α} (H : Holds E s (d.Osl v xs :: L) w) (k : Nat) (hk : k < xs.length) :
    ∃ b, ∃ cap, ∃ cur : Array Value, ∃ c, ∃ R : HP, v = .slice (some ⟨b, 0, none⟩) xs.length cap ∧ cur.size = cap * d.sz ∧ k * d.sz + d.sz ≤ cur.size ∧
      Holds E s (pt b (.cells cur d.e (0, 0)) :: d.M xs[k] c :: R :: L) w ∧ (∀ j u, c[j]? = some u → cur[k * d.sz + j]? = some u) ∧ c.length = d.sz ∧
      (∀ (s' : SH) (L' : List HP) (w' : World) (x' : α) (c' : List Value) (cur' : Array Value), cur'.size = cur.size → (∀ i, (i < k * d.sz ∨ (k + 1) * d.sz ≤ i) → cur'[i]? = cur[i]?) →
        (∀ j, j < d.sz → cur'[k * d.sz + j]? = c'[j]?) → Holds E s' (pt b (.cells cur' d.e (0, 0)) :: d.M x' c' :: R :: L') w' → Holds E s' (d.Osl v (xs.set k x') :: L') w') := by
  rcases Holds.or_ H with H | H
  · obtain ⟨⟨e1, e2⟩, _⟩ := Holds.pure_ H
    subst e2; simp at hk
  · obtain ⟨b, H⟩ := Holds.exists_ H
    obtain ⟨cap, H⟩ := Holds.exists_ H
    obtain ⟨cur, H⟩ := Holds.exists_ H
    obtain ⟨⟨e1, h1, h2, h3, h4⟩, H'⟩ := Holds.pure_ H
    subst e1
    have H2 := (H'.open_.swap.map (fun h k' => RowM.split k k')).open_
    -- RowM (take k) :: RowM (drop k) :: pt :: L
    have ed : xs.drop k = xs[k] :: xs.drop (k + 1) := List.drop_eq_getElem_cons hk
    have H3 := H2.swap
    rw [ed] at H3
    obtain ⟨c, H3⟩ := Holds.exists_ H3
    obtain ⟨r, H3⟩ := Holds.exists_ H3
    obtain ⟨ec, H3⟩ := Holds.pure_ H3
    have H4 := H3.open_
    -- M :: RowM r :: RowM (take k) :: pt :: L
    have hcl : c.length = d.sz := let ⟨_, ⟨_, _, a, _⟩, _⟩ := H4.ex; d.lenM a
    have hle : k * d.sz + d.sz ≤ cur.size := by rw [h3, ← Nat.succ_mul]; exact Nat.mul_le_mul_right _ (by omega)
    have hle2 : (k + 1) * d.sz ≤ xs.length * d.sz := Nat.mul_le_mul_right _ hk
    have hcell : ∀ j u, c[j]? = some u → cur[k * d.sz + j]? = some u := fun j u hu => by
      have hj : j < c.length := (List.getElem?_eq_some_iff.1 hu).1
      have : (List.drop (k * d.sz) (List.take (xs.length * d.sz) cur.toList))[j]? = some u := by rw [ec, List.getElem?_append_left hj]; exact hu
      rw [List.getElem?_drop, List.getElem?_take, if_pos (by rw [Nat.succ_mul] at hle2; omega)] at this
      simpa using this
    refine ⟨b, cap, cur, c, star (d.RowM (xs.take k) ((List.take (xs.length * d.sz) cur.toList).take (k * d.sz))) (d.RowM (xs.drop (k + 1)) r), rfl, h3, hle, ?_, hcell, hcl, ?_⟩
    · have H5 := H4.swap.swap2.swap.perm (L' := d.RowM (xs.take k) ((List.take (xs.length * d.sz) cur.toList).take (k * d.sz)) :: d.RowM (xs.drop (k + 1)) r :: d.M xs[k] c :: pt b (.cells cur d.e (0, 0)) :: L) (List.Perm.cons _ (List.Perm.refl _))
      exact H5.shut.rot3.swap
    · intro s' L' w' x' c' cur' hs hout hin HH
      have hcl' : c'.length = d.sz := let ⟨_, ⟨_, _, a, _⟩, _⟩ := HH.swap.ex; d.lenM a
      have hlen : (xs.set k x').length = xs.length := List.length_set
      -- put together again
      have er : r = List.drop ((k + 1) * d.sz) (List.take (xs.length * d.sz) cur.toList) := by
        have := congrArg (List.drop d.sz) ec
        rw [List.drop_drop, List.drop_left' hcl] at this
        rw [← this, Nat.succ_mul]
      have hcl0 : cur.toList.length = cap * d.sz := by rw [Array.length_toList]; exact h3
      have ecur : cur'.toList.take ((xs.set k x').length * d.sz) = (List.take (xs.length * d.sz) cur.toList).take (k * d.sz) ++ (c' ++ r) := by
        apply List.ext_getElem?
        intro i
        have hrl : (List.take (k * d.sz) (List.take (xs.length * d.sz) cur.toList)).length = k * d.sz := by
          rw [List.length_take, List.length_take, hcl0]
          have h5 : xs.length * d.sz ≤ cap * d.sz := Nat.mul_le_mul_right _ h1
          have h6 : k * d.sz ≤ xs.length * d.sz := Nat.mul_le_mul_right _ (by omega)
          omega
        rw [hlen, List.getElem?_take]
        by_cases hi : i < xs.length * d.sz
        · rw [if_pos hi, Array.getElem?_toList]
          by_cases h5 : i < k * d.sz
          · rw [List.getElem?_append_left (by rw [hrl]; exact h5), hout i (.inl h5), List.getElem?_take, if_pos h5, List.getElem?_take, if_pos hi, Array.getElem?_toList]
          · rw [List.getElem?_append_right (by rw [hrl]; omega), hrl]
            by_cases h6 : i < (k + 1) * d.sz
            · rw [List.getElem?_append_left (by rw [hcl']; rw [Nat.succ_mul] at h6; omega)]
              have := hin (i - k * d.sz) (by rw [Nat.succ_mul] at h6; omega)
              rw [← this]; congr 1; omega
            · rw [List.getElem?_append_right (by rw [hcl']; rw [Nat.succ_mul] at h6; omega), hcl', hout i (.inr (by omega)), er, List.getElem?_drop, List.getElem?_take, if_pos (by rw [Nat.succ_mul] at h6 ⊢; omega), Array.getElem?_toList]
              congr 1; rw [Nat.succ_mul] at h6 ⊢; omega
        · rw [if_neg hi]
          symm
          apply List.getElem?_eq_none
          rw [List.length_append, List.length_append, hrl, hcl', er, List.length_drop, List.length_take, hcl0]
          have h5 : xs.length * d.sz ≤ cap * d.sz := Nat.mul_le_mul_right _ h1
          rw [Nat.succ_mul] at hle2 ⊢
          omega
      have e2 : xs.set k x' = xs.take k ++ (x' :: xs.drop (k + 1)) := by rw [List.set_eq_take_append_cons_drop, if_pos hk]
      -- pt :: M :: star A B :: L'
      have G1 := HH.rot3.swap.open_
      -- A :: B :: M :: pt :: L'
      have G2 : Holds E s' (d.RowM (xs.take k) ((List.take (xs.length * d.sz) cur.toList).take (k * d.sz)) :: d.M x' c' :: d.RowM (xs.drop (k + 1)) r :: pt b (.cells cur' d.e (0, 0)) :: L') w' := G1.swap2
      have G25 : Holds E s' (d.RowM (x' :: xs.drop (k + 1)) (c' ++ r) :: d.RowM (xs.take k) ((List.take (xs.length * d.sz) cur.toList).take (k * d.sz)) :: pt b (.cells cur' d.e (0, 0)) :: L') w' := (G2.swap.swap2).shut.map (fun h k' => ⟨c', r, rfl, k'⟩)
      have G3 := G25.swap.shut.map (fun h k' => RowM.append k')
      rw [← e2, ← ecur] at G3
      have := Osl.mk (d := d) (cap := cap) (by rw [hlen]; exact h1) h2 (by rw [hs]; exact h3) (by rw [hlen]; exact h4) G3.swap
      rwa [hlen] at this
theorem Osl.focus_set {v : Value} {xs : List α} (H : Holds E s (d.Osl v xs :: L) w) (k : Nat) (hk : k < xs.length) :
    ∃ b, ∃ cap, ∃ cur : Array Value, ∃ c, ∃ R : HP, v = .slice (some ⟨b, 0, none⟩) xs.length cap ∧ cur.size = cap * d.sz ∧ k * d.sz + d.sz ≤ cur.size ∧
      Holds E s (pt b (.cells cur d.e (0, 0)) :: d.M xs[k] c :: R :: L) w ∧ (∀ j u, c[j]? = some u → cur[k * d.sz + j]? = some u) ∧ c.length = d.sz ∧
      (∀ (s' : SH) (L' : List HP) (w' : World) (x' : α), Holds E s' (pt b (.cells cur d.e (0, 0)) :: d.M x' c :: R :: L') w' → Holds E s' (d.Osl v (xs.set k x') :: L') w') ∧
      (∀ (s' : SH) (L' : List HP) (w' : World) (x' : α) (f : Nat) (u : Value), f < d.sz → Holds E s' (pt b (.cells (cur.setIfInBounds (k * d.sz + f) u) d.e (0, 0)) :: d.M x' (c.set f u) :: R :: L') w' → Holds E s' (d.Osl v (xs.set k x') :: L') w') := by
  obtain ⟨b, cap, cur, c, R, h1, h2, h3, h4, h5, h6, h7⟩ := Osl.focus H k hk
  have hc : ∀ j, j < d.sz → cur[k * d.sz + j]? = c[j]? := fun j hj => by
    have e := List.getElem?_eq_getElem (l := c) (i := j) (by omega)
    rw [e]; exact h5 j _ e
  refine ⟨b, cap, cur, c, R, h1, h2, h3, h4, h5, h6, fun s' L' w' x' HH => h7 s' L' w' x' c cur rfl (fun _ _ => rfl) hc HH, fun s' L' w' x' f u hf HH => h7 s' L' w' x' (c.set f u) _ (by simp) (fun i hi => ?_) (fun j hj => ?_) HH⟩
  · rw [Array.getElem?_setIfInBounds_ne (by rw [Nat.succ_mul] at hi; omega)]
  · rw [Array.getElem?_setIfInBounds, List.getElem?_set]
    by_cases e : f = j
    · subst e
      rw [if_pos rfl, if_pos (by omega), if_pos rfl, if_pos (by omega)]
    · rw [if_neg (by omega), if_neg e, hc j hj]
end Kin
end Go.Proofs.YtemdmpgekegfhaaDoor
