/- Errors: none, or a fault with its place. -/
import Derived.Test.YtemdmpgekegfhaaDoorKinds
import Derived.Test.YtemdmpgekegfhaaDoorOwnT
import Derived.Test.YtemdmpgekegfhaaDoorMapC
import Derived.Test.YtemdmpgekegfhaaDoorSmallS
import Derived.WideLaws
import Derived.Laws.Entries
namespace Go.Proofs.YtemdmpgekegfhaaDoor
open Go.RowKit
set_option linter.all false
set_option maxRecDepth 10000

def encErr : Option Flt → Value
  | none => .nilIface
  | some f => .iface 124 (.agg #[.int .i64 f.at_, .int .i64 f.why])
theorem encErr_one (e : Option Flt) : (encErr e).oneCell' = true := by cases e <;> rfl
section
variable {P : Program} {o : Oper} {a : Act} {w : World} {Φ : Value → World → Prop} {t : TypeId}
theorem O_mkis {x : Operand} {v : Value} {fs : Array Field} (ho : o.op = .makeInterface t x) (ht : P.underlying t = some (.struct fs)) (hx : a.eval x = v) (h : Φ (.iface t v) w) : OpG P o a w Φ := by
  have hr : (Instr.makeInterface t v).run P w = .ok (.iface t v) w := by simp [Instr.makeInterface, run_underlying ht]
  unfold OpG execOp
  simp only [ho, hx, Sem.run_bind, Sem.run_pure, Result.andThen_ok, hr, Oper.gives]
  exact h
theorem eqg_err {op : BinOp} {x : Operand} {e : Option Flt} : (eqGuard op t x (.const .nilIface) (encErr e) .nilIface).run P w = .ok () w := by cases e <;> cases op <;> cases x <;> rfl
theorem r_enil {e : Option Flt} (h : P.underlying t = some (.interface (P.methodsAt t))) : (binOp .eql t (encErr e) .nilIface).run P w = .ok (.bool e.isNone) w := by
  cases e
  · exact run_eql_nil_nil w t h
  · exact run_eql_held_nil w t _ _ h
theorem r_enn {e : Option Flt} (h : P.underlying t = some (.interface (P.methodsAt t))) : (binOp .neq t (encErr e) .nilIface).run P w = .ok (.bool e.isSome) w := by
  cases e
  · exact run_neq_nil_nil w t h
  · exact run_neq_held_nil w t _ _ h
theorem O_tae {xT : TypeId} {x : Operand} {e : Option Flt} (ho : o.op = .typeAssert x xT 124 true) (hx : a.eval x = encErr e)
    (h : Φ (.tuple #[.agg #[.int .i64 (e.getD ⟨0, 0⟩).at_, .int .i64 (e.getD ⟨0, 0⟩).why], .bool e.isSome]) w) : OpG Tryd.prog o a w Φ := by
  have hr : (Instr.typeAssert (encErr e) xT 124 true).run Tryd.prog w = .ok (.tuple #[.agg #[.int .i64 (e.getD ⟨0, 0⟩).at_, .int .i64 (e.getD ⟨0, 0⟩).why], .bool e.isSome]) w := by
    cases e
    · simp [Instr.typeAssert, run_underlying Tryd.underlying124, Tryd.zeroValue124, encErr, go_sem, Result.andThen]
    · simp [Instr.typeAssert, run_underlying Tryd.underlying124, encErr, go_sem, Result.andThen]
  unfold OpG execOp
  simp only [ho, hx, Sem.run_bind, Sem.run_pure, Result.andThen_ok, hr, Oper.gives]
  exact h
end
theorem Small_w' {E : World} {s : SH} {L : List HP} {w : World} {a0 : List Txn} {A_p0 : Option Addr} {c_p0 : Nat} (h_p0 : kT.Sl s (.slice A_p0 a0.length c_p0) a0) (H : Holds E s L w) :
    Calls Tryd.prog 47 #[.slice A_p0 a0.length c_p0] w fun e w' => ∃ A c n s', e = .returned (.slice A n c) ∧ Sub s s' ∧ kT.Sl s' (.slice A n c) (small a0) ∧ Holds E s' L w' :=
  (Small_w h_p0 H).mono fun e w' ⟨A, c, s', he, h⟩ => ⟨A, c, _, s', he, h⟩
end Go.Proofs.YtemdmpgekegfhaaDoor
