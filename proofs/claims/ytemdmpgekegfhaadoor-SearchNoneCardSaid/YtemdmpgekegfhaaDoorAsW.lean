/- errors.As at *api.Fault, as a contract. -/
import Derived.Test.YtemdmpgekegfhaaDoorAs
namespace Go.Proofs.YtemdmpgekegfhaaDoor
open Go.RowKit
set_option linter.all false
set_option maxRecDepth 10000
theorem PT : (∀ (a : Act) (d : Option Nat) (v : Value), a.put d v = match d with | none => a | some t => { a with tmps := a.tmps.setIfInBounds t v }) ∧ (∀ (l : List Value) (i : Nat) (x : Value), l.toArray.setIfInBounds i x = (l.set i x).toArray) ∧
    (∀ (x : Value) (l : List Value) (i : Nat) (y : Value), (x :: l).set (i + 1) y = x :: l.set i y) ∧ (∀ (x : Value) (l : List Value) (y : Value), (x :: l).set 0 y = y :: l) :=
  ⟨fun a d v => by cases d <;> rfl, fun _ _ _ => List.setIfInBounds_toArray .., fun _ _ _ _ => rfl, fun _ _ _ => rfl⟩
theorem upd4 {E : World} {s : SH} {L : List HP} {w : World} {b : Nat} {o1 o2 o3 o4 : Obj} {old new : Array Value} (H : Holds E s (pt b (.cells old 124 (0, 0)) :: L) w) :
    Holds E s (pt b (.cells new 124 (0, 0)) :: L) (((((w.alloc o1).alloc o2).alloc o3).alloc o4).setRow b new) := by
  have H4 := ((((((H.alloc o1).drop).alloc o2).drop).alloc o3).drop.alloc o4).drop
  exact H4.upd rfl rfl rfl (fun k _ hk => setRow_other _ b k _ hk) (setRow_heap _ b old new 124 _ H4.at_pt)
theorem As_w {E : World} {s : SH} {L : List HP} {w : World} {a0 : Option Flt} {a1 : Flt} {b_p1 : Nat} (h_gv : Eg s) (H : Holds E s (pt b_p1 (.cells #[.int .i64 a1.at_, .int .i64 a1.why] 124 (0, 0)) :: L) w) :
    Calls Tryd.prog 70 #[encErr a0, .iface 127 (.pointer (some ⟨b_p1, 0, none⟩))] w fun e w' => e = .returned (.bool (as_f a0 a1).1) ∧ Holds E s (pt b_p1 (.cells #[.int .i64 (as_f a0 a1).2.at_, .int .i64 (as_f a0 a1).2.why] 124 (0, 0)) :: L) w' := by
  cases a0 with
  | none => exact (as_nil _ w).mono fun e w' ⟨he, hw⟩ => by subst hw; exact ⟨he, H⟩
  | some f =>
    have hg : w.cell? ⟨0, 0, none⟩ = some (.iface 228 (.agg #[.pointer (some ⟨4, 59, none⟩)])) := Cells.cell' H h_gv 0 _ rfl
    refine (as_hit f.at_ f.why b_p1 _ rfl w hg H.at_pt).mono fun e w' ⟨he, hw⟩ => ?_
    subst hw
    refine ⟨he, ?_⟩
    exact upd4 H
end Go.Proofs.YtemdmpgekegfhaaDoor
