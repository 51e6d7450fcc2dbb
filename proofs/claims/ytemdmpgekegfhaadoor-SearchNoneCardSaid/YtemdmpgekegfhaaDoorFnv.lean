/- Function values that carry their receiver; arrays of function values. -/
import Derived.Test.YtemdmpgekegfhaaDoorMapC
import Derived.Test.YtemdmpgekegfhaaDoorKinds
import Derived.Test.YtemdmpgekegfhaaDoorRet
namespace Go.Proofs.YtemdmpgekegfhaaDoor
open Go.RowKit
set_option linter.all false
set_option maxRecDepth 10000

section
variable {P : Program} {o : Oper} {a : Act} {w : World} {Φ : Value → World → Prop} {E : World} {s : SH} {L : List HP}
theorem O_mkfb {fn : Fn} {bs xs : Array Operand} {vb vs : Array Value} (ho : o.op = .makeFunc fn bs xs) (hb : bs.map a.eval = vb) (hx : xs.map a.eval = vs) (h : Φ (.func fn vb vs) w) : OpG P o a w Φ := by
  unfold OpG execOp; simp only [ho, hx, hb, Instr.makeFunc, Sem.run_bind, Sem.run_pure, Result.andThen_ok, Oper.gives]; exact h
theorem O_callb1 {f : Nat} {fn : Func} {y : Tmp} {x1 : Operand} {v1 b1 : Value} {ts : Array TypeId} (ho : o.op = .call { callee := .value (.tmp y), args := #[x1], argTypes := ts }) (hf : P.funcs[f]? = some fn) (hb : fn.body.isNone = false) (hn : (fn.name == "runtime.NumGoroutine") = false)
    (hy : a.eval (.tmp y) = .func (.func f) #[b1] #[]) (h1 : a.eval x1 = v1)
    (h : Calls P f #[b1, v1] w fun e w'' => ∃ v, e = .returned v ∧ Φ v w'') : OpG P o a w Φ := by
  have hr := run_callFunc_enter (P := P) (w := w) hf hb hn #[b1, v1]
  unfold OpG execOp
  simp only [ho, resolve, invoke, hy, Deferred.ofValue, Sem.run_bind, Sem.run_pure, Result.andThen_ok, List.map_toArray, List.map_cons, List.map_nil, h1, Array.append_empty, List.append_toArray, List.cons_append, List.nil_append]
  rw [hr]
  exact h
theorem O_call0 {f : Nat} {fn : Func} {ts : Array TypeId} (ho : o.op = .call { callee := .value (.func f), args := #[], argTypes := ts }) (hf : P.funcs[f]? = some fn) (hb : fn.body.isNone = false) (hn : (fn.name == "runtime.NumGoroutine") = false)
    (h : Calls P f #[] w fun e w'' => ∃ v, e = .returned v ∧ Φ v w'') : OpG P o a w Φ := by
  have hr := run_callFunc_enter (P := P) (w := w) hf hb hn #[]
  unfold OpG execOp
  simp only [ho, resolve, invoke, Deferred.ofValue, Act.eval, Sem.run_bind, Sem.run_pure, Result.andThen_ok, List.map_toArray, List.map_nil, Array.append_empty]
  show Oper.gives P Φ ((callFunc f #[]).run P w)
  rw [hr]
  exact h
theorem O_ixA {t e : TypeId} {x y : Operand} {b n k : Nat} {kd : IntKind} {i : Int} (ho : o.op = .indexAddr t x y) (ht : P.underlying t = some (.array n e)) (hs : (sizeOf e).run P w = .ok 1 w) (hx : a.eval x = .pointer (some ⟨b, 0, none⟩)) (hy : a.eval y = .int kd i)
    (hi : (i == (k : Int)) = true) (hk : k < n) (h : Φ (.pointer (some ⟨b, k, none⟩)) w) : OpG P o a w Φ := by
  have he : P.elem t = e := by simp [Program.elem, ht]
  have hl : P.arrayLen t = n := by simp [Program.arrayLen, ht]
  have hi' : i = (k : Int) := by simpa using hi
  subst hi'
  have hr := run_indexAt_array (P := P) w t ⟨b, 0, none⟩ kd (k : Int) (by rw [ht, he, hl])
  rw [he, hl, if_pos (by omega), hs] at hr
  unfold OpG execOp
  simp only [ho, hx, hy, Sem.run_bind, Sem.run_pure, Result.andThen_ok, hr, Oper.gives]
  simpa [Addr.add_lit] using h
end
end Go.Proofs.YtemdmpgekegfhaaDoor
