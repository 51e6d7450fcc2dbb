/- A slice that is owned and whose elements have one cell: an element is read, and written anew; rows of truth values. -/
import Derived.Test.YtemdmpgekegfhaaDoorFnv
import Derived.Test.YtemdmpgekegfhaaDoorShal
import Derived.Test.YtemdmpgekegfhaaDoorOwn
namespace Go.Proofs.YtemdmpgekegfhaaDoor
open Go.RowKit
set_option linter.all false
set_option maxRecDepth 10000

theorem kB_at : kB.At Tryd.prog 115 := ⟨Tryd.underlying115, by decide, _, _, Tryd.type4, rfl, rfl, rfl, rfl⟩
theorem kB_zero {s0 : SH} : ∀ i z, Tryd.prog.info? (kB.sh s0).e = some i → i.zero = some z → ∀ h, emp h → (kB.sh s0).M false z.cells.toList h := fun i z hi hz h e => by
  rw [show Tryd.prog.info? (kB.sh s0).e = some Tryd.t4 from Tryd.type4] at hi
  cases hi; cases hz
  exact ⟨⟨rfl, trivial⟩, e⟩
theorem kB_mk' {s : SH} {x : Bool} : kB.K s x [.bool x] := ⟨rfl, trivial⟩
theorem kB_pure : kB.Pure := fun _ _ _ _ h => h
section
variable {α : Type} {d : Kin α} {P : Program} {o : Oper} {a : Act} {w : World} {Φ : Value → World → Prop} {E : World} {s s0 : SH} {L : List HP}
theorem own_addr {A : Option Addr} {n c : Nat} {xs : List α} (i : Nat) (H : Holds E s L w) (hi : L[i]? = some ((d.sh s0).Osl (.slice A n c) xs)) (hx : xs ≠ []) : ∃ b, A = some ⟨b, 0, none⟩ := by
  obtain ⟨A', cap, e, -, -, hA⟩ := Holds.addr0 (H.front i hi)
  cases e
  exact hA hx
/-- xs[k] is written anew. -/
theorem G_ownset (h1 : d.sz = 1) (i : Nat) (ty : TypeId) (x y : Operand) (ho : o.op = .store ty x y) (hsz : (sizeOf ty).run P w = .ok 1 w) {b n c k : Nat} {j : Int} {v : Value} {x' : α} {xs : List α} (hx : a.eval x = .pointer (some ⟨b, k, none⟩)) (hy : a.eval y = v)
    (H : Holds E s L w) (hi : L[i]? = some ((d.sh s0).Osl (.slice (some ⟨b, 0, none⟩) n c) xs)) (hj : j = (k : Int)) (hk : k < xs.length) (hK : d.K s0 x' [v])
    (h : ∀ w', Holds E s (L.set i ((d.sh s0).Osl (.slice (some ⟨b, 0, none⟩) n c) (xs.set j.toNat x'))) w' → Φ undef w') : OpG P o a w Φ := by
  obtain ⟨b', cap, cur, ⟨e, k1, k2, k3, k4⟩, hrow, H1⟩ := Kin.Osl.openS (H.front i hi) (fun e => by rw [e] at hk; simp at hk)
  cases e
  have hks : k < cur.size := by rw [k3, h1]; omega
  have e1 : j.toNat = k := by omega
  have hone : v.oneCell' = true := d.one hK v (by simp)
  refine G_set1i 0 ty x y ho hsz hx hy hone H1 rfl hks fun w' H' => h w' (Holds.back i hi ?_)
  rw [List.set_cons_zero] at H'
  rw [e1]
  rw [show xs.length = (xs.set k x').length from (List.length_set ..).symm]
  refine Kin.Osl.shutS H' (by rw [List.length_set]; exact k1) k2 (by simpa using k3) (by rw [List.length_set]; exact k4) ?_
  have e2 : (cur.setIfInBounds k v).toList.take ((xs.set k x').length * d.sz) = (cur.toList.take (xs.length * d.sz)).set (k * d.sz + 0) v := by
    rw [Array.toList_setIfInBounds, List.length_set, h1, Nat.mul_one, Nat.mul_one, Nat.add_zero, List.take_set]
  rw [e2]
  have hc : ∃ u, cur.toList[k]? = some u := ⟨_, List.getElem?_eq_getElem (by simpa using hks)⟩
  obtain ⟨u, hu⟩ := hc
  refine row_put (c := [u]) k hk hrow (fun q z hz => ?_) (by rw [h1]; rfl) (by rw [h1]; decide) hK
  cases q with
  | zero =>
    simp at hz; subst hz
    rw [List.getElem?_take, if_pos (by rw [h1]; omega), h1, Nat.mul_one, Nat.add_zero]; exact hu
  | succ q => simp at hz
theorem O_ix0 {t e : TypeId} {x y : Operand} {b n c k : Nat} {kd : IntKind} {i : Int} (ho : o.op = .indexAddr t x y) (ht : P.underlying t = some (.slice e)) (hs : (sizeOf e).run P w = .ok 1 w) (hx : a.eval x = .slice (some ⟨b, 0, none⟩) n c) (hy : a.eval y = .int kd i)
    (hi : i = (k : Int)) (hk : k < n) (h : Φ (.pointer (some ⟨b, k, none⟩)) w) : OpG P o a w Φ := O_ix ho ht hs hx hy hi hk (by simpa using h)
/-- A cell of xs[k] is read. -/
theorem G_ownget (i : Nat) (ty : TypeId) (x : Operand) (ho : o.op = .load ty x) (hna : (isAgg ty).run P w = .ok false w) {b n c k f q : Nat} {v : Value} {x' : α} {xs r : List α} (hx : a.eval x = .pointer (some ⟨b, q, none⟩)) (hq : q = k * d.sz + f)
    (H : Holds E s L w) (hi : L[i]? = some ((d.sh s0).Osl (.slice (some ⟨b, 0, none⟩) n c) xs)) (hd : xs.drop k = x' :: r) (hK : ∀ cs, d.K s0 x' cs → cs[f]? = some v) (h : Φ v w) : OpG P o a w Φ := by
  have hk : k < xs.length := Classical.byContradiction fun hn => by rw [List.drop_of_length_le (by omega)] at hd; cases hd
  have hxk : xs[k] = x' := by rw [List.drop_eq_getElem_cons hk] at hd; exact (List.cons.inj hd).1
  obtain ⟨cs, hc, hr⟩ := Kin.Osl.readAt (H.front i hi) k hk
  rw [hxk] at hc
  have := hr f v (hK cs hc)
  have e : (⟨b, k * d.sz, none⟩ : Addr).add f = ⟨b, q, none⟩ := by rw [hq]; unfold Addr.add; split <;> simp_all
  rw [e] at this
  exact G_cell ty x ho hna hx this h
theorem kB_cell {s0 : SH} {x : Bool} : ∀ cs, kB.K s0 x cs → cs[0]? = some (.bool x) := fun cs h => by obtain ⟨rfl, -⟩ := h; rfl
theorem kI_cell {s0 : SH} {x : Int} : ∀ cs, kI.K s0 x cs → cs[0]? = some (.int .i64 x) := fun cs h => by obtain ⟨rfl, -⟩ := h; rfl
end
end Go.Proofs.YtemdmpgekegfhaaDoor
