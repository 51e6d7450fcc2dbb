/- InnerAlike: what is computed. -/
import Derived.Test.YticpadjheelipaaCheckP
namespace Go.Proofs.Yticpadjheelipaa
open Go.RowKit
set_option linter.all false
set_option maxRecDepth 10000

def isRd (o : Op') : Bool := o.kind == 2 || o.kind == 4
def sameR (o p : Op') : Bool := if o.kind = 4 then (o.isNil == p.isNil) && (o.isNil || o.value == p.value) else decide (o.list = p.list)
def wantC (w : Int) (o p : Op') : Bool := decide (w < 0) && o.has && p.has && (o.kind == p.kind) && (o.key.toList == p.key.toList) && !sameR o p
def wantIn (o : Op') (i : Int) : Int → List Op' → Int
  | w, [] => w
  | w, p :: r => wantIn o i (if wantC w o p = true then i else w) r
def wantAll (all : List Op') : Nat → Int → List Op' → Int
  | _, w, [] => w
  | i, w, o :: r => wantAll all (i + 1) (wantIn o i w (all.take i)) r
theorem take_drop_cons {α : Type} {l r : List α} {x : α} {i k : Nat} (hk : k < i) (h : l.drop k = x :: r) : (l.take i).drop k = x :: (l.take i).drop (k + 1) := by
  have hlt : k < l.length := by
    rcases Nat.lt_or_ge k l.length with h2 | h2
    · exact h2
    · rw [List.drop_of_length_le h2] at h; cases h
  have hlt2 : k < (l.take i).length := by rw [List.length_take]; omega
  rw [List.drop_eq_getElem_cons hlt2]
  rw [List.drop_eq_getElem_cons hlt] at h
  simp only [List.cons.injEq] at h
  rw [List.getElem_take, h.1]
end Go.Proofs.Yticpadjheelipaa
