/- The inner layer's views: what is known of a list, or of a register. -/
import Derived.Test.YticpadjheelipaaThing
import Derived.Test.YticpadjheelipaaEqI
namespace Go.Proofs.Yticpadjheelipaa
open Go.RowKit
set_option linter.all false
set_option maxRecDepth 10000

structure View where
  whole : Bool
  list : List Int
  none_ : Bool
  value : Int
  deriving DecidableEq, Inhabited
def kV : Kin View := Kin.iso (Kin.pair (Kin.bool 4) (Kin.pair kLI (Kin.pair (Kin.bool 4) (Kin.int 3)))) (fun x => (x.whole, x.list, x.none_, x.value)) 48 77
theorem kV_open {s : SH} {x : View} {cs : List Value} (h : kV.K s x cs) : ∃ v, cs = [.bool x.whole, v, .bool x.none_, .int .i64 x.value] ∧ kI.Sl s v x.list ∧ Kin.inI64 x.value := by
  obtain ⟨_, _, rfl, ⟨rfl, _⟩, _, _, rfl, ⟨v, rfl, h1⟩, _, _, rfl, ⟨rfl, _⟩, rfl, h2⟩ := h
  exact ⟨v, rfl, h1, h2⟩
theorem kV_mk {s : SH} {x : View} {v : Value} (h : kI.Sl s v x.list) (h1 : Kin.inI64 x.value) : kV.K s x [.bool x.whole, v, .bool x.none_, .int .i64 x.value] :=
  ⟨[_], [_, _, _], rfl, ⟨rfl, trivial⟩, [_], [_, _], rfl, ⟨v, rfl, h⟩, [_], [_], rfl, ⟨rfl, trivial⟩, rfl, h1⟩
def view0 : View := ⟨false, [], false, 0⟩
def thingOf (o : Op') : Thing := ⟨o.kind == 1 || o.kind == 2, o.key⟩
def isOf (o : Op') : Bool := decide (1 ≤ o.kind) && decide (o.kind ≤ 4)
def writesO (o : Op') : Bool := o.kind == 1 || o.kind == 3
def readsO (o : Op') : Bool := o.has && (o.kind == 2 || o.kind == 4)
def rightV (v : View) (o : Op') : Bool :=
  if o.kind = 4 then !v.whole || ((v.none_ == o.isNil) && (o.isNil || v.value == o.value))
  else decide (0 ≤ (o.list.length : Int) - v.list.length) && (((o.list.length : Int) - v.list.length == 0) || !v.whole) && decide (o.list.drop ((o.list.length : Int) - v.list.length).toNat = v.list)
def behindV (v : View) (o : Op') : View :=
  if o.kind = 1 then { v with list := v.list ++ [o.value] }
  else if o.kind = 3 then ⟨true, [], false, o.value⟩
  else if o.has = true ∧ o.kind = 2 then ⟨true, o.list, false, 0⟩
  else if o.has = true then ⟨true, [], o.isNil, o.value⟩
  else v
/-- An operation as a value. -/
def opv (o : Op') (vl : Value) : Value := .agg #[.int .i64 o.kind, .string o.key, .int .i64 o.value, vl, .bool o.has, .bool o.isNil]
def viewv (v : View) (vl : Value) : Value := .agg #[.bool v.whole, vl, .bool v.none_, .int .i64 v.value]
set_option maxHeartbeats 1000000 in
theorem reads_spec {E : World} {s : SH} {L : List HP} {w : World} (o : Op') (vl : Value) (H : Holds E s L w) :
    Calls Try.prog 41 #[opv o vl] w fun e w' => e = .returned (.bool (readsO o)) ∧ Holds E s L w' := by
  unfold opv
  obtain ⟨r, hr⟩ : ∃ r, readsO o = r := ⟨_, rfl⟩
  have hro := hr
  unfold readsO at hro
  obtain ⟨k, key, val, li, has, nl⟩ := o
  simp only at hro
  rw [hr]
  have HR := Lib.hid hro
  clear hr hro
  cases has with
  | false =>
    go_enter Try.func41, Try.ntmps41
    go_wp2
    go_ret
    exact ⟨by rw [← HR.out]; rfl, (H.alloc _).drop⟩
  | true =>
    by_cases h2 : k = 2
    · subst h2
      go_enter Try.func41, Try.ntmps41
      go_wp2
      go_ret
      exact ⟨by rw [← HR.out]; rfl, (H.alloc _).drop⟩
    · have h3 : (k == 2) = false := by simpa using h2
      have h4 : decide (k = 2) = false := decide_eq_false h2
      clear h2
      go_enter Try.func41, Try.ntmps41
      go_wp2
      go_ret
      exact ⟨by rw [← HR.out]; simp [h3], (H.alloc _).drop⟩
end Go.Proofs.Yticpadjheelipaa
