/- InnerServed: what is computed. -/
import Derived.Test.YticpadjheelipaaCheckP
namespace Go.Proofs.Yticpadjheelipaa
open Go.RowKit
set_option linter.all false
set_option maxRecDepth 10000

def isWr (o : Op') : Bool := o.kind == 1 || o.kind == 3
def apK (key : ByteArray) (p : Op') : Bool := p.kind == 1 && (p.key.toList == key.toList)
def wrK (key : ByteArray) (p : Op') : Bool := p.kind == 3 && (p.key.toList == key.toList)
/-- What a list of a key reads behind operations. -/
def readL (key : ByteArray) : List Op' → List Int
  | [] => []
  | p :: r => if apK key p = true then p.value :: readL key r else readL key r
def getR (key : ByteArray) : Bool × Int → List Op' → Bool × Int
  | st, [] => st
  | st, p :: r => if wrK key p = true then getR key (false, p.value) r else getR key st r
def toldOf (D : List Op') (o : Op') : Op' :=
  if (o.kind == 1) = true then o else if (o.kind == 3) = true then o else if (o.kind == 2) = true then { o with has := true, list := readL o.key D }
  else if (o.kind == 4) = true then { o with has := true, isNil := (getR o.key (true, o.value) D).1, value := (getR o.key (true, o.value) D).2 } else o
def doneOf (D : List Op') (o : Op') : List Op' := if (o.kind == 1) = true then D ++ [o] else if (o.kind == 3) = true then D ++ [o] else D
def served : List Op' → List Op' → List Op'
  | _, [] => []
  | D, o :: r => toldOf D o :: served (doneOf D o) r
theorem served_cons (D : List Op') (o : Op') (r : List Op') : served D (o :: r) = toldOf D o :: served (doneOf D o) r := rfl
theorem told_w1 {D : List Op'} {o : Op'} (h : (o.kind == 1) = true) : toldOf D o = o ∧ doneOf D o = D ++ [o] := by unfold toldOf doneOf; rw [if_pos h, if_pos h]; exact ⟨rfl, rfl⟩
theorem told_w3 {D : List Op'} {o : Op'} (h1 : (o.kind == 1) = false) (h : (o.kind == 3) = true) : toldOf D o = o ∧ doneOf D o = D ++ [o] := by unfold toldOf doneOf; simp [h1, h]
theorem told_r2 {D : List Op'} {o : Op'} (h1 : (o.kind == 1) = false) (h3 : (o.kind == 3) = false) (h : (o.kind == 2) = true) : toldOf D o = { o with has := true, list := readL o.key D } ∧ doneOf D o = D := by unfold toldOf doneOf; simp [h1, h3, h]
theorem told_g4 {D : List Op'} {o : Op'} (h1 : (o.kind == 1) = false) (h3 : (o.kind == 3) = false) (h2 : (o.kind == 2) = false) (h : (o.kind == 4) = true) : toldOf D o = { o with has := true, isNil := (getR o.key (true, o.value) D).1, value := (getR o.key (true, o.value) D).2 } ∧ doneOf D o = D := by unfold toldOf doneOf; simp [h1, h3, h2, h]
theorem told_no {D : List Op'} {o : Op'} (h1 : (o.kind == 1) = false) (h3 : (o.kind == 3) = false) (h2 : (o.kind == 2) = false) (h : (o.kind == 4) = false) : toldOf D o = o ∧ doneOf D o = D := by unfold toldOf doneOf; simp [h1, h3, h2, h]
theorem readL_len (key : ByteArray) : ∀ D, (readL key D).length ≤ D.length
  | [] => Nat.le_refl _
  | p :: r => by
    have := readL_len key r
    simp only [readL, List.length_cons]
    split
    · simp only [List.length_cons]; omega
    · omega
theorem getR_ok (key : ByteArray) : ∀ (D : List Op') (st : Bool × Int), Kin.inI64 st.2 → (∀ p ∈ D, Kin.inI64 p.value) → Kin.inI64 (getR key st D).2
  | [], _, h, _ => h
  | p :: r, st, h, hd => by
    simp only [getR]
    split
    · exact getR_ok key r _ (hd p (by simp)) fun q hq => hd q (by simp [hq])
    · exact getR_ok key r _ h fun q hq => hd q (by simp [hq])
end Go.Proofs.Yticpadjheelipaa
