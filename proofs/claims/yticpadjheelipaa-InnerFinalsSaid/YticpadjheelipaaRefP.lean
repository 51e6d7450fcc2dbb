/- The inner layer's reference: what it computes. -/
import Derived.Test.YticpadjheelipaaCheckP
import Derived.Test.YticpadjheelipaaSlc
import Derived.Test.YticpadjheelipaaLike
namespace Go.Proofs.Yticpadjheelipaa
open Go.RowKit
set_option linter.all false
set_option maxRecDepth 10000

theorem nt {b : Bool} (h : b = false) : ¬ (b = true) := by rw [h]; simp
def likeB (a b : Op') : Bool := likeF a.kind b.kind a.key b.key
def refView (o : Op') : Bool → List Int → List Op' → Bool × List Int
  | kn, vw, [] => (kn, vw)
  | kn, vw, p :: r => if (!likeB p o) = true then refView o kn vw r else if (p.kind == 1) = true then refView o kn (vw ++ [p.value]) r else if p.has = true then refView o true p.list r else refView o kn vw r
def rightLR (o : Op') (l : List Op') : Bool :=
  if (decide (o.list.length < (refView o false [] l).2.length) || ((refView o false [] l).1 && !((o.list.length : Int) == ((refView o false [] l).2.length : Int)))) = true then false
  else decide (o.list.drop (o.list.length - (refView o false [] l).2.length) = (refView o false [] l).2)
/-- Of the operations ahead, the last one first. -/
def rightRR (o : Op') : List Op' → Bool
  | [] => true
  | p :: r => if (!likeB p o || ((p.kind == 4) && !p.has)) = true then rightRR o r else if (p.kind == 3) = true then !o.isNil && (p.value == o.value) else (p.isNil == o.isNil) && (p.isNil || (p.value == o.value))
def refChk (all : List Op') : Nat → List Op' → Int
  | _, [] => -1
  | i, o :: r => if (!((o.kind == 2 || o.kind == 4) && o.has)) = true then refChk all (i + 1) r else if ((o.kind == 2 && !rightLR o (all.take i)) || (o.kind == 4 && !rightRR o (all.take i).reverse)) = true then i else refChk all (i + 1) r
theorem elemI {s : SH} {A : Option Addr} {n cap : Nat} {xs : List Int} (h : kI.Sl s (.slice A n cap) xs) (k : Nat) (hk : k < xs.length) : ∃ b off, A = some ⟨b, off, none⟩ ∧ Cells s ⟨b, off + k, none⟩ [.int .i64 xs[k]] := by
  obtain ⟨b, off, c, rfl, hK, hC⟩ := h.elem k hk
  obtain ⟨rfl, -⟩ := hK
  rw [show kI.sz = 1 from rfl, Nat.mul_one] at hC
  exact ⟨b, off, rfl, hC⟩
theorem take_all_eq {g v : List Int} {d : Nat} (hd : d + v.length = g.length) (h : (g.drop d).take v.length = v) : g.drop d = v := by
  rw [List.take_of_length_le (by rw [List.length_drop]; omega)] at h; exact h
theorem ne_drop {g v : List Int} {d k e : Nat} (he : e = d + k) (hk : k < v.length) (hg : e < g.length) (hne : g[e] ≠ v[k]) : ¬ g.drop d = v := by
  intro h
  have h2 : v[k]? = g[e]? := by rw [← h, List.getElem?_drop, he]
  rw [List.getElem?_eq_getElem hk, List.getElem?_eq_getElem hg] at h2
  exact hne (Option.some.inj h2).symm
theorem take_one_more {g v : List Int} {d k e : Nat} (he : e = d + k) (hk : k < v.length) (hg : e < g.length) (h : (g.drop d).take k = v.take k) (hx : g[e] = v[k]) : (g.drop d).take (k + 1) = v.take (k + 1) := by
  subst he
  rw [List.take_succ_eq_append_getElem hk, List.take_succ_eq_append_getElem (by rw [List.length_drop]; omega), h]
  simp [hx]
end Go.Proofs.Yticpadjheelipaa
