/- errors.As at the target *api.Fault, after the kit's worked example ToyasAs: by contracts on the model's entries for reflectlite. -/
import Derived.Test.YtemdmpgekegfhaaDoorAsF
import Derived.LaidEql
import Derived.Stop.Asserts
import Derived.RowKitTokens
namespace Go.Proofs.YtemdmpgekegfhaaDoor
open Go.RowKit Go.Extern.Stop Go.Stop Go.Extern
set_option linter.all false
set_option maxRecDepth 10000

theorem as_nil (t : Value) (w : World) : Calls Tryd.prog 70 #[.nilIface, t] w fun e w' => e = .returned (.bool false) ∧ w' = w := by
  go_enter Tryd.func70, Tryd.ntmps70
  go_wp2
  go_ret
  exact ⟨rfl, rfl⟩
theorem As.valueOf127 (t : Addr) (w : World) : (ReflectliteValue.unpack (.iface 127 (.pointer (some t)))).run Tryd.prog w
    = .ok (.agg #[.pointer (some ⟨4, 127, none⟩), .pointer (some ⟨w.heap.size, 0, none⟩), .int .u64 150]) (w.alloc (.cells #[.pointer (some t)] 127)) := by kernel_rfl
theorem As.type127 (a : Addr) (w : World) : (ReflectliteValue.methodAny (ReflectliteValue.valueError "reflectlite.Value.Type" 0) (fun t _ _ _ => ReflectliteType.toType t) #[.agg #[.pointer (some ⟨4, 127, none⟩), .pointer (some a), .int .u64 150]]).run Tryd.prog w
    = .ok (.iface 228 (.agg #[.pointer (some ⟨4, 127, none⟩)])) w := by kernel_rfl
theorem As.methodKind (h : Value) (w : World) : (Go.method 404 228 (.agg #[h]) "Kind").run Tryd.prog w = .ok (220, h) w := by kernel_rfl
theorem As.kind127 (w : World) : ((ReflectliteType.abiMethod fun t => (fun a : Nat => Value.int IntKind.u8 (a : Int)) <$> Rtype.kind t) #[.pointer (some ⟨4, 127, none⟩)]).run Tryd.prog w = .ok (.int .u8 22) w := by kernel_rfl
theorem As.kind124 (w : World) : ((ReflectliteType.abiMethod fun t => (fun a : Nat => Value.int IntKind.u8 (a : Int)) <$> Rtype.kind t) #[.pointer (some ⟨4, 124, none⟩)]).run Tryd.prog w = .ok (.int .u8 25) w := by kernel_rfl
theorem As.rlm (z : Sem Value) (f : TypeId → Addr → Nat → Nat → Sem Value) (v : Value) :
    ReflectliteValue.method z f #[v] = (do match ← ReflectliteValue.parts v with | none => z | some (t, a, fl) => f t a fl (fl % 32)) := rfl
theorem As.parts127 (a : Addr) (w : World) : (ReflectliteValue.parts (.agg #[.pointer (some ⟨4, 127, none⟩), .pointer (some a), .int .u64 150])).run Tryd.prog w = .ok (some (127, a, 150)) w := by kernel_rfl
theorem As.isNil127 (a p : Addr) (W : World) (ha : W.cell? a = some (.pointer (some p))) :
    (ReflectliteValue.method (ReflectliteValue.valueError "reflectlite.Value.IsNil" 0) ReflectliteValue.isNil #[.agg #[.pointer (some ⟨4, 127, none⟩), .pointer (some a), .int .u64 150]]).run Tryd.prog W = .ok (.bool false) W := by
  rw [As.rlm]
  simp only [Sem.run_bind, As.parts127, Result.andThen]
  simp [ReflectliteValue.isNil, loadVar, isAgg, underlying, Tryd.underlying127, ha, Result.andThen]
theorem As.methodElem (h : Value) (w : World) : (Go.method 404 228 (.agg #[h]) "Elem").run Tryd.prog w = .ok (234, .agg #[h]) w := by kernel_rfl
theorem As.methodImplements (h : Value) (w : World) : (Go.method 404 228 (.agg #[h]) "Implements").run Tryd.prog w = .ok (235, .agg #[h]) w := by kernel_rfl
theorem As.methodAssignableTo (h : Value) (w : World) : (Go.method 404 228 (.agg #[h]) "AssignableTo").run Tryd.prog w = .ok (232, .agg #[h]) w := by kernel_rfl
theorem As.elem127 (w : World) : (ReflectliteType.method ReflectliteType.elem #[.agg #[.pointer (some ⟨4, 127, none⟩)]]).run Tryd.prog w = .ok (.iface 228 (.agg #[.pointer (some ⟨4, 124, none⟩)])) w := by kernel_rfl
theorem As.implements124 (w : World) : (ReflectliteType.relation "Implements" ReflectliteType.implements_ #[.agg #[.pointer (some ⟨4, 124, none⟩)], .iface 228 (.agg #[.pointer (some ⟨4, 59, none⟩)])]).run Tryd.prog w = .ok (.bool true) w := by kernel_rfl
theorem As.typeOf124 (v : Value) (w : World) : (ReflectliteType.typeOf #[.iface 124 v]).run Tryd.prog w = .ok (.iface 228 (.agg #[.pointer (some ⟨4, 124, none⟩)])) w := by kernel_rfl
theorem As.assignable124 (w : World) : (ReflectliteType.relation "AssignableTo" ReflectliteType.assignableTo #[.agg #[.pointer (some ⟨4, 124, none⟩)], .iface 228 (.agg #[.pointer (some ⟨4, 124, none⟩)])]).run Tryd.prog w = .ok (.bool true) w := by kernel_rfl
theorem As.valueOf124 (x y : Int) (w : World) : (ReflectliteValue.unpack (.iface 124 (.agg #[.int .i64 x, .int .i64 y]))).run Tryd.prog w
    = .ok (.agg #[.pointer (some ⟨4, 124, none⟩), .pointer (some ⟨w.heap.size, 0, none⟩), .int .u64 153]) (w.alloc (.cells #[.int .i64 x, .int .i64 y] 124)) := by kernel_rfl
theorem As.elemOf127 (w : World) : (Rtype.elem? 127).run Tryd.prog w = .ok (some 124) w := by kernel_rfl
theorem As.mk124 (p : Addr) (w : World) : (ReflectliteValue.mk 124 p ReflectliteValue.flagAddr).run Tryd.prog w = .ok (.agg #[.pointer (some ⟨4, 124, none⟩), .pointer (some p), .int .u64 409]) w := by kernel_rfl
theorem As.elemV127 (a p : Addr) (W : World) (ha : W.cell? a = some (.pointer (some p))) :
    (ReflectliteValue.method (ReflectliteValue.valueError "reflectlite.Value.Elem" 0) ReflectliteValue.elem #[.agg #[.pointer (some ⟨4, 127, none⟩), .pointer (some a), .int .u64 150]]).run Tryd.prog W
      = .ok (.agg #[.pointer (some ⟨4, 124, none⟩), .pointer (some p), .int .u64 409]) W := by
  rw [As.rlm]
  simp only [Sem.run_bind, As.parts127, Result.andThen]
  simp [ReflectliteValue.elem, loadVar, isAgg, underlying, Tryd.underlying127, ha, Result.andThen, As.elemOf127, As.mk124]
theorem As.rls (v x : Value) : ReflectliteValue.set #[v, x] = (do
    let (some (dst, a, fl), some (src, b, _)) := (← ReflectliteValue.parts v, ← ReflectliteValue.parts x)
      | unsupported (.noEntry "extern/(internal/reflectlite.Value).Set.zeroValue")
    if fl / ReflectliteValue.flagAddr % 2 == 0 then unsupported (.noEntry "extern/(internal/reflectlite.Value).Set.unaddressable")
    let val ← loadVar src b
    if ← Rtype.directlyAssignable dst src then storeVar dst a val
    else if ← Rtype.implements dst src then
      if (← Rtype.kind src) == 20 then
        match val with
        | .nilIface => unsupported (.noEntry "extern/reflectlite: a nil value of one interface type handed on as a value of another")
        | _ => storeVar dst a val
      else storeVar dst a (.iface src val)
    else panicString ("reflectlite.Set: value of type " ++ (← Rtype.spelt src) ++ " is not assignable to type " ++ (← Rtype.spelt dst))
    pure (.tuple #[])) := rfl
theorem As.parts124a (a : Addr) (w : World) : (ReflectliteValue.parts (.agg #[.pointer (some ⟨4, 124, none⟩), .pointer (some a), .int .u64 409])).run Tryd.prog w = .ok (some (124, a, 409)) w := by kernel_rfl
theorem As.parts124 (a : Addr) (w : World) : (ReflectliteValue.parts (.agg #[.pointer (some ⟨4, 124, none⟩), .pointer (some a), .int .u64 153])).run Tryd.prog w = .ok (some (124, a, 153)) w := by kernel_rfl
theorem As.direct124 (w : World) : (Rtype.directlyAssignable 124 124).run Tryd.prog w = .ok true w := by kernel_rfl
theorem As.set124 (g h : Nat) (x y : Int) (old : Array Value) (ho : old.size = 2) (W : World) (hb : W.heap[h]? = some (.cells #[.int .i64 x, .int .i64 y] 124 (0, 0))) (ht : W.heap[g]? = some (.cells old 124 (0, 0))) :
    (ReflectliteValue.set #[.agg #[.pointer (some ⟨4, 124, none⟩), .pointer (some ⟨g, 0, none⟩), .int .u64 409], .agg #[.pointer (some ⟨4, 124, none⟩), .pointer (some ⟨h, 0, none⟩), .int .u64 153]]).run Tryd.prog W
      = .ok (.tuple #[]) (W.setRow g #[.int .i64 x, .int .i64 y]) := by
  have h1 := run_loadVar_row (P := Tryd.prog) W h 124 124 _ _ _ hb Tryd.underlying124 rfl (by kernel_rfl)
  have h2 := run_storeVar_row (P := Tryd.prog) W g 124 124 old #[.int .i64 x, .int .i64 y] ht (by kernel_rfl) ho (by simp; exact ⟨rfl, rfl⟩)
  rw [As.rls]
  simp only [Sem.run_bind, As.parts124a, As.parts124, Result.andThen]
  simp [ReflectliteValue.flagAddr, Result.andThen, As.direct124, h1, h2]
def Eg (s : SH) : Prop := Cells s ⟨0, 0, none⟩ [.iface 228 (.agg #[.pointer (some ⟨4, 59, none⟩)])]
theorem Eg.mono {s t : SH} (h : Sub s t) (k : Eg s) : Eg t := Cells.mono h k
theorem heap_alloc (w : World) (o : Obj) (k : Nat) : (w.alloc o).heap[k]? = if k = w.heap.size then some o else w.heap[k]? := by
  show (w.heap.push o)[k]? = _
  rw [Array.getElem?_push]
theorem size_alloc (w : World) (o : Obj) : (w.alloc o).heap.size = w.heap.size + 1 := by
  show (w.heap.push o).size = _
  simp
set_option maxHeartbeats 4000000 in
theorem as_hit (x y : Int) (g : Nat) (old : Array Value) (ho : old.size = 2) (w : World) (hg : w.cell? ⟨0, 0, none⟩ = some (.iface 228 (.agg #[.pointer (some ⟨4, 59, none⟩)]))) (ht : w.heap[g]? = some (.cells old 124 (0, 0))) :
    Calls Tryd.prog 70 #[.iface 124 (.agg #[.int .i64 x, .int .i64 y]), .iface 127 (.pointer (some ⟨g, 0, none⟩))] w fun ev w' => ev = .returned (.bool true) ∧
      w' = ((((w.alloc (.cells #[.pointer (some ⟨g, 0, none⟩)] 127)).alloc (.cells #[.pointer (some ⟨4, 127, none⟩), .pointer (some ⟨w.heap.size, 0, none⟩), .int .u64 150] 190)).alloc (.cells #[.pointer (some ⟨4, 127, none⟩), .pointer (some ⟨w.heap.size, 0, none⟩), .int .u64 150] 190)).alloc (.cells #[.int .i64 x, .int .i64 y] 124)).setRow g #[.int .i64 x, .int .i64 y] := by
  have h6 := @run_callFunc_extern Tryd.prog 118 _ (fun args => ReflectliteValue.unpack (args.getD 0 (.tuple #[]))) Tryd.func118 (by kernel_rfl) (by kernel_rfl) (by kernel_rfl) (by kernel_rfl)
  have h7 := @run_callFunc_extern Tryd.prog 119 _ (ReflectliteValue.methodAny (ReflectliteValue.valueError "reflectlite.Value.Type" 0) (fun t _ _ _ => ReflectliteType.toType t)) Tryd.func119 (by kernel_rfl) (by kernel_rfl) (by kernel_rfl) (by kernel_rfl)
  have h8 := @run_callFunc_extern Tryd.prog 120 _ (ReflectliteValue.method (ReflectliteValue.valueError "reflectlite.Value.IsNil" 0) ReflectliteValue.isNil) Tryd.func120 (by kernel_rfl) (by kernel_rfl) (by kernel_rfl) (by kernel_rfl)
  have h27 := @run_callFunc_extern Tryd.prog 220 _ (ReflectliteType.abiMethod fun t => do pure (.int .u8 (← Rtype.kind t))) Tryd.func220 (by kernel_rfl) (by kernel_rfl) (by kernel_rfl) (by kernel_rfl)
  have h37 := @run_callFunc_extern Tryd.prog 234 _ (ReflectliteType.method ReflectliteType.elem) Tryd.func234 (by kernel_rfl) (by kernel_rfl) (by kernel_rfl) (by kernel_rfl)
  have h38 := @run_callFunc_extern Tryd.prog 235 _ (ReflectliteType.relation "Implements" ReflectliteType.implements_) Tryd.func235 (by kernel_rfl) (by kernel_rfl) (by kernel_rfl) (by kernel_rfl)
  have h10 := @run_callFunc_extern Tryd.prog 160 _ ReflectliteType.typeOf Tryd.func160 (by kernel_rfl) (by kernel_rfl) (by kernel_rfl) (by kernel_rfl)
  have h35 := @run_callFunc_extern Tryd.prog 232 _ (ReflectliteType.relation "AssignableTo" ReflectliteType.assignableTo) Tryd.func232 (by kernel_rfl) (by kernel_rfl) (by kernel_rfl) (by kernel_rfl)
  have h11 := @run_callFunc_extern Tryd.prog 161 _ (ReflectliteValue.method (ReflectliteValue.valueError "reflectlite.Value.Elem" 0) ReflectliteValue.elem) Tryd.func161 (by kernel_rfl) (by kernel_rfl) (by kernel_rfl) (by kernel_rfl)
  have h12 := @run_callFunc_extern Tryd.prog 162 _ ReflectliteValue.set Tryd.func162 (by kernel_rfl) (by kernel_rfl) (by kernel_rfl) (by kernel_rfl)
  have tO := As.typeOf124
  have mA := As.methodAssignableTo
  have a25 := As.assignable124
  have v25 := As.valueOf124
  have f6 := As.valueOf127
  have f7 := As.type127
  have mK := As.methodKind
  have mE := As.methodElem
  have mI := As.methodImplements
  have k27 := As.kind127
  have k25 := As.kind124
  have e27 := As.elem127
  have i25 := As.implements124
  have hlt : 0 < w.heap.size := by
    rcases Nat.eq_zero_or_pos w.heap.size with h0 | h
    · simp [World.cell?, h0] at hg
    · exact h
  have htl : g < w.heap.size := (Array.getElem?_eq_some_iff.1 ht).1
  generalize hW2 : (w.alloc (.cells #[.pointer (some ⟨g, 0, none⟩)] 127)).alloc (.cells #[.pointer (some ⟨4, 127, none⟩), .pointer (some ⟨w.heap.size, 0, none⟩), .int .u64 150] 190) = W2
  have c2 : W2.cell? ⟨w.heap.size, 0, none⟩ = some (.pointer (some ⟨g, 0, none⟩)) := by
    rw [← hW2]; simp only [World.cell?, heap_alloc, size_alloc]; rw [if_neg (by omega)]; simp
  have hg2 : W2.cell? ⟨0, 0, none⟩ = some (.iface 228 (.agg #[.pointer (some ⟨4, 59, none⟩)])) := by
    rw [← hW2]; simp only [World.cell?, heap_alloc, size_alloc]; rw [if_neg (by omega), if_neg (by omega)]; exact hg
  generalize hW3 : W2.alloc (.cells #[.pointer (some ⟨4, 127, none⟩), .pointer (some ⟨w.heap.size, 0, none⟩), .int .u64 150] 190) = W3
  have c3 : W3.cell? ⟨w.heap.size, 0, none⟩ = some (.pointer (some ⟨g, 0, none⟩)) := by
    rw [← hW3, ← hW2]; simp only [World.cell?, heap_alloc, size_alloc]; rw [if_neg (by omega), if_neg (by omega)]; simp
  have n8 := As.isNil127 ⟨w.heap.size, 0, none⟩ ⟨g, 0, none⟩ W2 c2
  have el := As.elemV127 ⟨w.heap.size, 0, none⟩ ⟨g, 0, none⟩ W3 c3
  have st := As.set124 g (w.heap.size + 1 + 1 + 1) x y old ho (W3.alloc (.cells #[.int .i64 x, .int .i64 y] 124))
    (by rw [← hW3, ← hW2]; simp only [heap_alloc, size_alloc]; simp)
    (by rw [← hW3, ← hW2]; simp only [heap_alloc, size_alloc]; rw [if_neg (by omega), if_neg (by omega), if_neg (by omega), if_neg (by omega)]; exact ht)
  subst hW3 hW2
  go_enter Tryd.func70, Tryd.ntmps70
  go_wp2
  refine wp_loop_rounds 1 ?_
  rw [rounds_succ]
  go_wp2
  go_ret
  exact ⟨rfl, rfl⟩
end Go.Proofs.YtemdmpgekegfhaaDoor
