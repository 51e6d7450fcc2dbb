/- Kinds of the program's data (printed by kinds.py). -/
import Derived.Test.YtemdmpgekegfhaaDoorFx
import Derived.Laws.StructEq
namespace Go.Proofs.YtemdmpgekegfhaaDoor
open Go.RowKit
set_option linter.all false
set_option maxRecDepth 10000
def kB : Kin Bool := Kin.bool 4
def kS : Kin ByteArray := Kin.str 9
theorem kI_op {s : SH} {x : Int} {cs : List Value} (h : kI.K s x cs) : cs = [.int .i64 x] ∧ Kin.inI64 x := by
  obtain ⟨rfl, h0⟩ := h
  exact ⟨rfl, h0⟩
theorem kI_mk' {s : SH} {x : Int} (h0 : Kin.inI64 x) : kI.K s x [.int .i64 x] := ⟨rfl, h0⟩
theorem kI_el {s : SH} {A : Option Addr} {n cap : Nat} {xs : List Int} (h : kI.Sl s (.slice A n cap) xs) {i : Nat} {x : Int} {r : List Int} (hd : xs.drop i = x :: r) : ∃ b off , A = some ⟨b, off, none⟩ ∧ Cells s ⟨b, off + i * 1, none⟩ [.int .i64 x] ∧ Kin.inI64 x := by
  have hk : i < xs.length := Classical.byContradiction fun hn => by rw [List.drop_of_length_le (by omega)] at hd; cases hd
  have hx : xs[i] = x := by rw [List.drop_eq_getElem_cons hk] at hd; exact (List.cons.inj hd).1
  obtain ⟨b, off, c, rfl, hK, hc⟩ := h.elem i hk
  rw [hx] at hK
  obtain ⟨rfl, h0⟩ := kI_op hK
  exact ⟨b, off, rfl, hc, h0⟩
theorem kI_el2 {s : SH} {b off n cap : Nat} {xs : List Int} (h : kI.Sl s (.slice (some ⟨b, off, none⟩) n cap) xs) {i : Nat} {x : Int} {r : List Int} (hd : xs.drop i = x :: r) : Cells s ⟨b, off + i * 1, none⟩ [.int .i64 x] ∧ Kin.inI64 x := by
  obtain ⟨b', off', e, hc, h0⟩ := kI_el h hd
  cases e
  exact ⟨hc, h0⟩
theorem kS_op {s : SH} {x : ByteArray} {cs : List Value} (h : kS.K s x cs) : cs = [.string x] ∧ x.size ≤ 140737488351232 := by
  obtain ⟨rfl, h0⟩ := h
  exact ⟨rfl, h0⟩
theorem kS_mk' {s : SH} {x : ByteArray} (h0 : x.size ≤ 140737488351232) : kS.K s x [.string x] := ⟨rfl, h0⟩
theorem kS_el {s : SH} {A : Option Addr} {n cap : Nat} {xs : List ByteArray} (h : kS.Sl s (.slice A n cap) xs) {i : Nat} {x : ByteArray} {r : List ByteArray} (hd : xs.drop i = x :: r) : ∃ b off , A = some ⟨b, off, none⟩ ∧ Cells s ⟨b, off + i * 1, none⟩ [.string x] ∧ x.size ≤ 140737488351232 := by
  have hk : i < xs.length := Classical.byContradiction fun hn => by rw [List.drop_of_length_le (by omega)] at hd; cases hd
  have hx : xs[i] = x := by rw [List.drop_eq_getElem_cons hk] at hd; exact (List.cons.inj hd).1
  obtain ⟨b, off, c, rfl, hK, hc⟩ := h.elem i hk
  rw [hx] at hK
  obtain ⟨rfl, h0⟩ := kS_op hK
  exact ⟨b, off, rfl, hc, h0⟩
theorem kS_el2 {s : SH} {b off n cap : Nat} {xs : List ByteArray} (h : kS.Sl s (.slice (some ⟨b, off, none⟩) n cap) xs) {i : Nat} {x : ByteArray} {r : List ByteArray} (hd : xs.drop i = x :: r) : Cells s ⟨b, off + i * 1, none⟩ [.string x] ∧ x.size ≤ 140737488351232 := by
  obtain ⟨b', off', e, hc, h0⟩ := kS_el h hd
  cases e
  exact ⟨hc, h0⟩
theorem kOp_op {s : SH} {x : Op'} {cs : List Value} (h : kOp.K s x cs) : ∃ A3 c3, cs = [.int .i64 x.kind, .string x.key, .int .i64 x.value, .slice A3 x.list.length c3, .bool x.has, .bool x.isNil] ∧ Kin.inI64 x.kind ∧ x.key.size ≤ 140737488351232 ∧ Kin.inI64 x.value ∧ kI.Sl s (.slice A3 x.list.length c3) x.list := by
  obtain ⟨_, _, rfl, ⟨rfl, h0⟩, _, _, rfl, ⟨rfl, h1⟩, _, _, rfl, ⟨rfl, h2⟩, _, _, rfl, ⟨v3, rfl, h3⟩, _, _, rfl, ⟨rfl, h4⟩, rfl, h5⟩ := h
  obtain ⟨A3, c3, e3, -⟩ := id h3
  subst e3
  exact ⟨A3, c3, rfl, h0, h1, h2, h3⟩
theorem kOp_mk' {s : SH} {x : Op'} {A3 : Option Addr} {c3 : Nat} (h0 : Kin.inI64 x.kind) (h1 : x.key.size ≤ 140737488351232) (h2 : Kin.inI64 x.value) (h3 : kI.Sl s (.slice A3 x.list.length c3) x.list) : kOp.K s x [.int .i64 x.kind, .string x.key, .int .i64 x.value, .slice A3 x.list.length c3, .bool x.has, .bool x.isNil] := ⟨[_], [_, _, _, _, _], rfl, ⟨rfl, h0⟩, ⟨[_], [_, _, _, _], rfl, ⟨rfl, h1⟩, ⟨[_], [_, _, _], rfl, ⟨rfl, h2⟩, ⟨[_], [_, _], rfl, ⟨_, rfl, h3⟩, ⟨[_], [_], rfl, ⟨rfl, trivial⟩, ⟨rfl, trivial⟩⟩⟩⟩⟩⟩
theorem kOp_zero {s0 : SH} : ∀ i z, Tryd.prog.info? (kOp.sh s0).e = some i → i.zero = some z → ∀ h, emp h → (kOp.sh s0).M (⟨0, ByteArray.mk #[], 0, [], false, false⟩ : Op') z.cells.toList h := fun i z hi hz h e => by
  rw [show Tryd.prog.info? (kOp.sh s0).e = some Tryd.t108 from info_of Tryd.type108] at hi
  cases hi; cases hz
  exact ⟨kOp_mk' (x := (⟨0, ByteArray.mk #[], 0, [], false, false⟩ : Op')) (by constructor <;> decide) (by decide) (by constructor <;> decide) Kin.Sl.nil, e⟩
theorem kOp_el {s : SH} {A : Option Addr} {n cap : Nat} {xs : List Op'} (h : kOp.Sl s (.slice A n cap) xs) {i : Nat} {x : Op'} {r : List Op'} (hd : xs.drop i = x :: r) : ∃ b off A3 c3, A = some ⟨b, off, none⟩ ∧ Cells s ⟨b, off + i * 6, none⟩ [.int .i64 x.kind, .string x.key, .int .i64 x.value, .slice A3 x.list.length c3, .bool x.has, .bool x.isNil] ∧ Kin.inI64 x.kind ∧ x.key.size ≤ 140737488351232 ∧ Kin.inI64 x.value ∧ kI.Sl s (.slice A3 x.list.length c3) x.list := by
  have hk : i < xs.length := Classical.byContradiction fun hn => by rw [List.drop_of_length_le (by omega)] at hd; cases hd
  have hx : xs[i] = x := by rw [List.drop_eq_getElem_cons hk] at hd; exact (List.cons.inj hd).1
  obtain ⟨b, off, c, rfl, hK, hc⟩ := h.elem i hk
  rw [hx] at hK
  obtain ⟨A3, c3, rfl, h0, h1, h2, h3⟩ := kOp_op hK
  exact ⟨b, off, A3, c3, rfl, hc, h0, h1, h2, h3⟩
theorem kOp_el2 {s : SH} {b off n cap : Nat} {xs : List Op'} (h : kOp.Sl s (.slice (some ⟨b, off, none⟩) n cap) xs) {i : Nat} {x : Op'} {r : List Op'} (hd : xs.drop i = x :: r) : ∃ A3 c3, Cells s ⟨b, off + i * 6, none⟩ [.int .i64 x.kind, .string x.key, .int .i64 x.value, .slice A3 x.list.length c3, .bool x.has, .bool x.isNil] ∧ Kin.inI64 x.kind ∧ x.key.size ≤ 140737488351232 ∧ Kin.inI64 x.value ∧ kI.Sl s (.slice A3 x.list.length c3) x.list := by
  obtain ⟨b', off', A3, c3, e, hc, h0, h1, h2, h3⟩ := kOp_el h hd
  cases e
  exact ⟨A3, c3, hc, h0, h1, h2, h3⟩
theorem kT_op {s : SH} {x : Txn} {cs : List Value} (h : kT.K s x cs) : ∃ A4 c4, cs = [.int .i64 x.proc, .int .i64 x.state, .int .i64 x.from_, .int .i64 x.to, .slice A4 x.ops.length c4] ∧ Kin.inI64 x.proc ∧ Kin.inI64 x.state ∧ Kin.inI64 x.from_ ∧ Kin.inI64 x.to ∧ kOp.Sl s (.slice A4 x.ops.length c4) x.ops := by
  obtain ⟨_, _, rfl, ⟨rfl, h0⟩, _, _, rfl, ⟨rfl, h1⟩, _, _, rfl, ⟨rfl, h2⟩, _, _, rfl, ⟨rfl, h3⟩, v4, rfl, h4⟩ := h
  obtain ⟨A4, c4, e4, -⟩ := id h4
  subst e4
  exact ⟨A4, c4, rfl, h0, h1, h2, h3, h4⟩
theorem kT_mk' {s : SH} {x : Txn} {A4 : Option Addr} {c4 : Nat} (h0 : Kin.inI64 x.proc) (h1 : Kin.inI64 x.state) (h2 : Kin.inI64 x.from_) (h3 : Kin.inI64 x.to) (h4 : kOp.Sl s (.slice A4 x.ops.length c4) x.ops) : kT.K s x [.int .i64 x.proc, .int .i64 x.state, .int .i64 x.from_, .int .i64 x.to, .slice A4 x.ops.length c4] := ⟨[_], [_, _, _, _], rfl, ⟨rfl, h0⟩, ⟨[_], [_, _, _], rfl, ⟨rfl, h1⟩, ⟨[_], [_, _], rfl, ⟨rfl, h2⟩, ⟨[_], [_], rfl, ⟨rfl, h3⟩, ⟨_, rfl, h4⟩⟩⟩⟩⟩
theorem kT_zero {s0 : SH} : ∀ i z, Tryd.prog.info? (kT.sh s0).e = some i → i.zero = some z → ∀ h, emp h → (kT.sh s0).M (⟨0, 0, 0, 0, []⟩ : Txn) z.cells.toList h := fun i z hi hz h e => by
  rw [show Tryd.prog.info? (kT.sh s0).e = some Tryd.t75 from info_of Tryd.type75] at hi
  cases hi; cases hz
  exact ⟨kT_mk' (x := (⟨0, 0, 0, 0, []⟩ : Txn)) (by constructor <;> decide) (by constructor <;> decide) (by constructor <;> decide) (by constructor <;> decide) Kin.Sl.nil, e⟩
theorem kT_el {s : SH} {A : Option Addr} {n cap : Nat} {xs : List Txn} (h : kT.Sl s (.slice A n cap) xs) {i : Nat} {x : Txn} {r : List Txn} (hd : xs.drop i = x :: r) : ∃ b off A4 c4, A = some ⟨b, off, none⟩ ∧ Cells s ⟨b, off + i * 5, none⟩ [.int .i64 x.proc, .int .i64 x.state, .int .i64 x.from_, .int .i64 x.to, .slice A4 x.ops.length c4] ∧ Kin.inI64 x.proc ∧ Kin.inI64 x.state ∧ Kin.inI64 x.from_ ∧ Kin.inI64 x.to ∧ kOp.Sl s (.slice A4 x.ops.length c4) x.ops := by
  have hk : i < xs.length := Classical.byContradiction fun hn => by rw [List.drop_of_length_le (by omega)] at hd; cases hd
  have hx : xs[i] = x := by rw [List.drop_eq_getElem_cons hk] at hd; exact (List.cons.inj hd).1
  obtain ⟨b, off, c, rfl, hK, hc⟩ := h.elem i hk
  rw [hx] at hK
  obtain ⟨A4, c4, rfl, h0, h1, h2, h3, h4⟩ := kT_op hK
  exact ⟨b, off, A4, c4, rfl, hc, h0, h1, h2, h3, h4⟩
theorem kT_el2 {s : SH} {b off n cap : Nat} {xs : List Txn} (h : kT.Sl s (.slice (some ⟨b, off, none⟩) n cap) xs) {i : Nat} {x : Txn} {r : List Txn} (hd : xs.drop i = x :: r) : ∃ A4 c4, Cells s ⟨b, off + i * 5, none⟩ [.int .i64 x.proc, .int .i64 x.state, .int .i64 x.from_, .int .i64 x.to, .slice A4 x.ops.length c4] ∧ Kin.inI64 x.proc ∧ Kin.inI64 x.state ∧ Kin.inI64 x.from_ ∧ Kin.inI64 x.to ∧ kOp.Sl s (.slice A4 x.ops.length c4) x.ops := by
  obtain ⟨b', off', A4, c4, e, hc, h0, h1, h2, h3, h4⟩ := kT_el h hd
  cases e
  exact ⟨A4, c4, hc, h0, h1, h2, h3, h4⟩
structure Ev where
  kind : Int
  proc : Int
  ops : List Op'
  deriving Inhabited
def kEv : Kin Ev := Kin.iso (Kin.pair kI (Kin.pair kI (Kin.slice kOp 71))) (fun x => (x.kind, x.proc, x.ops)) 40 73
theorem kEv_at : kEv.At Tryd.prog 55 := ⟨Tryd.underlying55, by decide, Tryd.t73, _, info_of Tryd.type73, rfl, rfl, rfl, rfl⟩
theorem kEv_op {s : SH} {x : Ev} {cs : List Value} (h : kEv.K s x cs) : ∃ A2 c2, cs = [.int .i64 x.kind, .int .i64 x.proc, .slice A2 x.ops.length c2] ∧ Kin.inI64 x.kind ∧ Kin.inI64 x.proc ∧ kOp.Sl s (.slice A2 x.ops.length c2) x.ops := by
  obtain ⟨_, _, rfl, ⟨rfl, h0⟩, _, _, rfl, ⟨rfl, h1⟩, v2, rfl, h2⟩ := h
  obtain ⟨A2, c2, e2, -⟩ := id h2
  subst e2
  exact ⟨A2, c2, rfl, h0, h1, h2⟩
theorem kEv_mk' {s : SH} {x : Ev} {A2 : Option Addr} {c2 : Nat} (h0 : Kin.inI64 x.kind) (h1 : Kin.inI64 x.proc) (h2 : kOp.Sl s (.slice A2 x.ops.length c2) x.ops) : kEv.K s x [.int .i64 x.kind, .int .i64 x.proc, .slice A2 x.ops.length c2] := ⟨[_], [_, _], rfl, ⟨rfl, h0⟩, ⟨[_], [_], rfl, ⟨rfl, h1⟩, ⟨_, rfl, h2⟩⟩⟩
theorem kEv_zero {s0 : SH} : ∀ i z, Tryd.prog.info? (kEv.sh s0).e = some i → i.zero = some z → ∀ h, emp h → (kEv.sh s0).M (⟨0, 0, []⟩ : Ev) z.cells.toList h := fun i z hi hz h e => by
  rw [show Tryd.prog.info? (kEv.sh s0).e = some Tryd.t73 from info_of Tryd.type73] at hi
  cases hi; cases hz
  exact ⟨kEv_mk' (x := (⟨0, 0, []⟩ : Ev)) (by constructor <;> decide) (by constructor <;> decide) Kin.Sl.nil, e⟩
theorem kEv_el {s : SH} {A : Option Addr} {n cap : Nat} {xs : List Ev} (h : kEv.Sl s (.slice A n cap) xs) {i : Nat} {x : Ev} {r : List Ev} (hd : xs.drop i = x :: r) : ∃ b off A2 c2, A = some ⟨b, off, none⟩ ∧ Cells s ⟨b, off + i * 3, none⟩ [.int .i64 x.kind, .int .i64 x.proc, .slice A2 x.ops.length c2] ∧ Kin.inI64 x.kind ∧ Kin.inI64 x.proc ∧ kOp.Sl s (.slice A2 x.ops.length c2) x.ops := by
  have hk : i < xs.length := Classical.byContradiction fun hn => by rw [List.drop_of_length_le (by omega)] at hd; cases hd
  have hx : xs[i] = x := by rw [List.drop_eq_getElem_cons hk] at hd; exact (List.cons.inj hd).1
  obtain ⟨b, off, c, rfl, hK, hc⟩ := h.elem i hk
  rw [hx] at hK
  obtain ⟨A2, c2, rfl, h0, h1, h2⟩ := kEv_op hK
  exact ⟨b, off, A2, c2, rfl, hc, h0, h1, h2⟩
theorem kEv_el2 {s : SH} {b off n cap : Nat} {xs : List Ev} (h : kEv.Sl s (.slice (some ⟨b, off, none⟩) n cap) xs) {i : Nat} {x : Ev} {r : List Ev} (hd : xs.drop i = x :: r) : ∃ A2 c2, Cells s ⟨b, off + i * 3, none⟩ [.int .i64 x.kind, .int .i64 x.proc, .slice A2 x.ops.length c2] ∧ Kin.inI64 x.kind ∧ Kin.inI64 x.proc ∧ kOp.Sl s (.slice A2 x.ops.length c2) x.ops := by
  obtain ⟨b', off', A2, c2, e, hc, h0, h1, h2⟩ := kEv_el h hd
  cases e
  exact ⟨A2, c2, hc, h0, h1, h2⟩
structure Wy where
  from_ : Int
  to : Int
  label : Int
  key : ByteArray
  a : Int
  b : Int
  isNil : Bool
  cond : Bool
  deriving Inhabited, DecidableEq
def kWy : Kin Wy := Kin.iso (Kin.pair kI (Kin.pair kI (Kin.pair kI (Kin.pair kS (Kin.pair kI (Kin.pair kI (Kin.pair kB kB))))))) (fun x => (x.from_, x.to, x.label, x.key, x.a, x.b, x.isNil, x.cond)) 64 50
theorem kWy_at : kWy.At Tryd.prog 42 := ⟨Tryd.underlying42, by decide, Tryd.t50, _, info_of Tryd.type50, rfl, rfl, rfl, rfl⟩
theorem kWy_op {s : SH} {x : Wy} {cs : List Value} (h : kWy.K s x cs) : cs = [.int .i64 x.from_, .int .i64 x.to, .int .i64 x.label, .string x.key, .int .i64 x.a, .int .i64 x.b, .bool x.isNil, .bool x.cond] ∧ Kin.inI64 x.from_ ∧ Kin.inI64 x.to ∧ Kin.inI64 x.label ∧ x.key.size ≤ 140737488351232 ∧ Kin.inI64 x.a ∧ Kin.inI64 x.b := by
  obtain ⟨_, _, rfl, ⟨rfl, h0⟩, _, _, rfl, ⟨rfl, h1⟩, _, _, rfl, ⟨rfl, h2⟩, _, _, rfl, ⟨rfl, h3⟩, _, _, rfl, ⟨rfl, h4⟩, _, _, rfl, ⟨rfl, h5⟩, _, _, rfl, ⟨rfl, h6⟩, rfl, h7⟩ := h
  exact ⟨rfl, h0, h1, h2, h3, h4, h5⟩
theorem kWy_mk' {s : SH} {x : Wy} (h0 : Kin.inI64 x.from_) (h1 : Kin.inI64 x.to) (h2 : Kin.inI64 x.label) (h3 : x.key.size ≤ 140737488351232) (h4 : Kin.inI64 x.a) (h5 : Kin.inI64 x.b) : kWy.K s x [.int .i64 x.from_, .int .i64 x.to, .int .i64 x.label, .string x.key, .int .i64 x.a, .int .i64 x.b, .bool x.isNil, .bool x.cond] := ⟨[_], [_, _, _, _, _, _, _], rfl, ⟨rfl, h0⟩, ⟨[_], [_, _, _, _, _, _], rfl, ⟨rfl, h1⟩, ⟨[_], [_, _, _, _, _], rfl, ⟨rfl, h2⟩, ⟨[_], [_, _, _, _], rfl, ⟨rfl, h3⟩, ⟨[_], [_, _, _], rfl, ⟨rfl, h4⟩, ⟨[_], [_, _], rfl, ⟨rfl, h5⟩, ⟨[_], [_], rfl, ⟨rfl, trivial⟩, ⟨rfl, trivial⟩⟩⟩⟩⟩⟩⟩⟩
theorem kWy_zero {s0 : SH} : ∀ i z, Tryd.prog.info? (kWy.sh s0).e = some i → i.zero = some z → ∀ h, emp h → (kWy.sh s0).M (⟨0, 0, 0, ByteArray.mk #[], 0, 0, false, false⟩ : Wy) z.cells.toList h := fun i z hi hz h e => by
  rw [show Tryd.prog.info? (kWy.sh s0).e = some Tryd.t50 from info_of Tryd.type50] at hi
  cases hi; cases hz
  exact ⟨kWy_mk' (x := (⟨0, 0, 0, ByteArray.mk #[], 0, 0, false, false⟩ : Wy)) (by constructor <;> decide) (by constructor <;> decide) (by constructor <;> decide) (by decide) (by constructor <;> decide) (by constructor <;> decide), e⟩
theorem kWy_el {s : SH} {A : Option Addr} {n cap : Nat} {xs : List Wy} (h : kWy.Sl s (.slice A n cap) xs) {i : Nat} {x : Wy} {r : List Wy} (hd : xs.drop i = x :: r) : ∃ b off , A = some ⟨b, off, none⟩ ∧ Cells s ⟨b, off + i * 8, none⟩ [.int .i64 x.from_, .int .i64 x.to, .int .i64 x.label, .string x.key, .int .i64 x.a, .int .i64 x.b, .bool x.isNil, .bool x.cond] ∧ Kin.inI64 x.from_ ∧ Kin.inI64 x.to ∧ Kin.inI64 x.label ∧ x.key.size ≤ 140737488351232 ∧ Kin.inI64 x.a ∧ Kin.inI64 x.b := by
  have hk : i < xs.length := Classical.byContradiction fun hn => by rw [List.drop_of_length_le (by omega)] at hd; cases hd
  have hx : xs[i] = x := by rw [List.drop_eq_getElem_cons hk] at hd; exact (List.cons.inj hd).1
  obtain ⟨b, off, c, rfl, hK, hc⟩ := h.elem i hk
  rw [hx] at hK
  obtain ⟨rfl, h0, h1, h2, h3, h4, h5⟩ := kWy_op hK
  exact ⟨b, off, rfl, hc, h0, h1, h2, h3, h4, h5⟩
theorem kWy_el2 {s : SH} {b off n cap : Nat} {xs : List Wy} (h : kWy.Sl s (.slice (some ⟨b, off, none⟩) n cap) xs) {i : Nat} {x : Wy} {r : List Wy} (hd : xs.drop i = x :: r) : Cells s ⟨b, off + i * 8, none⟩ [.int .i64 x.from_, .int .i64 x.to, .int .i64 x.label, .string x.key, .int .i64 x.a, .int .i64 x.b, .bool x.isNil, .bool x.cond] ∧ Kin.inI64 x.from_ ∧ Kin.inI64 x.to ∧ Kin.inI64 x.label ∧ x.key.size ≤ 140737488351232 ∧ Kin.inI64 x.a ∧ Kin.inI64 x.b := by
  obtain ⟨b', off', e, hc, h0, h1, h2, h3, h4, h5⟩ := kWy_el h hd
  cases e
  exact ⟨hc, h0, h1, h2, h3, h4, h5⟩
structure Flt where
  at_ : Int
  why : Int
  deriving Inhabited, DecidableEq
def kFl : Kin Flt := Kin.iso (Kin.pair kI kI) (fun x => (x.at_, x.why)) 16 124
theorem kFl_op {s : SH} {x : Flt} {cs : List Value} (h : kFl.K s x cs) : cs = [.int .i64 x.at_, .int .i64 x.why] ∧ Kin.inI64 x.at_ ∧ Kin.inI64 x.why := by
  obtain ⟨_, _, rfl, ⟨rfl, h0⟩, rfl, h1⟩ := h
  exact ⟨rfl, h0, h1⟩
theorem kFl_mk' {s : SH} {x : Flt} (h0 : Kin.inI64 x.at_) (h1 : Kin.inI64 x.why) : kFl.K s x [.int .i64 x.at_, .int .i64 x.why] := ⟨[_], [_], rfl, ⟨rfl, h0⟩, ⟨rfl, h1⟩⟩
theorem kFl_zero {s0 : SH} : ∀ i z, Tryd.prog.info? (kFl.sh s0).e = some i → i.zero = some z → ∀ h, emp h → (kFl.sh s0).M (⟨0, 0⟩ : Flt) z.cells.toList h := fun i z hi hz h e => by
  rw [show Tryd.prog.info? (kFl.sh s0).e = some Tryd.t124 from info_of Tryd.type124] at hi
  cases hi; cases hz
  exact ⟨kFl_mk' (x := (⟨0, 0⟩ : Flt)) (by constructor <;> decide) (by constructor <;> decide), e⟩
theorem kFl_el {s : SH} {A : Option Addr} {n cap : Nat} {xs : List Flt} (h : kFl.Sl s (.slice A n cap) xs) {i : Nat} {x : Flt} {r : List Flt} (hd : xs.drop i = x :: r) : ∃ b off , A = some ⟨b, off, none⟩ ∧ Cells s ⟨b, off + i * 2, none⟩ [.int .i64 x.at_, .int .i64 x.why] ∧ Kin.inI64 x.at_ ∧ Kin.inI64 x.why := by
  have hk : i < xs.length := Classical.byContradiction fun hn => by rw [List.drop_of_length_le (by omega)] at hd; cases hd
  have hx : xs[i] = x := by rw [List.drop_eq_getElem_cons hk] at hd; exact (List.cons.inj hd).1
  obtain ⟨b, off, c, rfl, hK, hc⟩ := h.elem i hk
  rw [hx] at hK
  obtain ⟨rfl, h0, h1⟩ := kFl_op hK
  exact ⟨b, off, rfl, hc, h0, h1⟩
theorem kFl_el2 {s : SH} {b off n cap : Nat} {xs : List Flt} (h : kFl.Sl s (.slice (some ⟨b, off, none⟩) n cap) xs) {i : Nat} {x : Flt} {r : List Flt} (hd : xs.drop i = x :: r) : Cells s ⟨b, off + i * 2, none⟩ [.int .i64 x.at_, .int .i64 x.why] ∧ Kin.inI64 x.at_ ∧ Kin.inI64 x.why := by
  obtain ⟨b', off', e, hc, h0, h1⟩ := kFl_el h hd
  cases e
  exact ⟨hc, h0, h1⟩
structure Prc where
  gone : Bool
  open_ : Int
  deriving Inhabited, DecidableEq
def kPr : Kin Prc := Kin.iso (Kin.pair kB kI) (fun x => (x.gone, x.open_)) 16 137
theorem kPr_at : kPr.At Tryd.prog 135 := ⟨Tryd.underlying135, by decide, Tryd.t137, _, info_of Tryd.type137, rfl, rfl, rfl, rfl⟩
theorem kPr_op {s : SH} {x : Prc} {cs : List Value} (h : kPr.K s x cs) : cs = [.bool x.gone, .int .i64 x.open_] ∧ Kin.inI64 x.open_ := by
  obtain ⟨_, _, rfl, ⟨rfl, h0⟩, rfl, h1⟩ := h
  exact ⟨rfl, h1⟩
theorem kPr_mk' {s : SH} {x : Prc} (h1 : Kin.inI64 x.open_) : kPr.K s x [.bool x.gone, .int .i64 x.open_] := ⟨[_], [_], rfl, ⟨rfl, trivial⟩, ⟨rfl, h1⟩⟩
theorem kPr_zero {s0 : SH} : ∀ i z, Tryd.prog.info? (kPr.sh s0).e = some i → i.zero = some z → ∀ h, emp h → (kPr.sh s0).M (⟨false, 0⟩ : Prc) z.cells.toList h := fun i z hi hz h e => by
  rw [show Tryd.prog.info? (kPr.sh s0).e = some Tryd.t137 from info_of Tryd.type137] at hi
  cases hi; cases hz
  exact ⟨kPr_mk' (x := (⟨false, 0⟩ : Prc)) (by constructor <;> decide), e⟩
theorem kPr_el {s : SH} {A : Option Addr} {n cap : Nat} {xs : List Prc} (h : kPr.Sl s (.slice A n cap) xs) {i : Nat} {x : Prc} {r : List Prc} (hd : xs.drop i = x :: r) : ∃ b off , A = some ⟨b, off, none⟩ ∧ Cells s ⟨b, off + i * 2, none⟩ [.bool x.gone, .int .i64 x.open_] ∧ Kin.inI64 x.open_ := by
  have hk : i < xs.length := Classical.byContradiction fun hn => by rw [List.drop_of_length_le (by omega)] at hd; cases hd
  have hx : xs[i] = x := by rw [List.drop_eq_getElem_cons hk] at hd; exact (List.cons.inj hd).1
  obtain ⟨b, off, c, rfl, hK, hc⟩ := h.elem i hk
  rw [hx] at hK
  obtain ⟨rfl, h1⟩ := kPr_op hK
  exact ⟨b, off, rfl, hc, h1⟩
theorem kPr_el2 {s : SH} {b off n cap : Nat} {xs : List Prc} (h : kPr.Sl s (.slice (some ⟨b, off, none⟩) n cap) xs) {i : Nat} {x : Prc} {r : List Prc} (hd : xs.drop i = x :: r) : Cells s ⟨b, off + i * 2, none⟩ [.bool x.gone, .int .i64 x.open_] ∧ Kin.inI64 x.open_ := by
  obtain ⟨b', off', e, hc, h1⟩ := kPr_el h hd
  cases e
  exact ⟨hc, h1⟩
def kLOp : Kin (List Op') := Kin.slice kOp 71
theorem kLOp_at : kLOp.At Tryd.prog 138 := ⟨Tryd.underlying138, by decide, Tryd.t71, _, info_of Tryd.type71, rfl, rfl, rfl, rfl⟩
theorem kLOp_op {s : SH} {x : List Op'} {cs : List Value} (h : kLOp.K s x cs) : ∃ A0 c0, cs = [.slice A0 x.length c0] ∧ kOp.Sl s (.slice A0 x.length c0) x := by
  obtain ⟨v0, rfl, h0⟩ := h
  obtain ⟨A0, c0, e0, -⟩ := id h0
  subst e0
  exact ⟨A0, c0, rfl, h0⟩
theorem kLOp_mk' {s : SH} {x : List Op'} {A0 : Option Addr} {c0 : Nat} (h0 : kOp.Sl s (.slice A0 x.length c0) x) : kLOp.K s x [.slice A0 x.length c0] := ⟨_, rfl, h0⟩
theorem kLOp_zero {s0 : SH} : ∀ i z, Tryd.prog.info? (kLOp.sh s0).e = some i → i.zero = some z → ∀ h, emp h → (kLOp.sh s0).M [] z.cells.toList h := fun i z hi hz h e => by
  rw [show Tryd.prog.info? (kLOp.sh s0).e = some Tryd.t71 from info_of Tryd.type71] at hi
  cases hi; cases hz
  exact ⟨kLOp_mk' (x := []) Kin.Sl.nil, e⟩
theorem kLOp_el {s : SH} {A : Option Addr} {n cap : Nat} {xs : List (List Op')} (h : kLOp.Sl s (.slice A n cap) xs) {i : Nat} {x : (List Op')} {r : List (List Op')} (hd : xs.drop i = x :: r) : ∃ b off A0 c0, A = some ⟨b, off, none⟩ ∧ Cells s ⟨b, off + i * 1, none⟩ [.slice A0 x.length c0] ∧ kOp.Sl s (.slice A0 x.length c0) x := by
  have hk : i < xs.length := Classical.byContradiction fun hn => by rw [List.drop_of_length_le (by omega)] at hd; cases hd
  have hx : xs[i] = x := by rw [List.drop_eq_getElem_cons hk] at hd; exact (List.cons.inj hd).1
  obtain ⟨b, off, c, rfl, hK, hc⟩ := h.elem i hk
  rw [hx] at hK
  obtain ⟨A0, c0, rfl, h0⟩ := kLOp_op hK
  exact ⟨b, off, A0, c0, rfl, hc, h0⟩
theorem kLOp_el2 {s : SH} {b off n cap : Nat} {xs : List (List Op')} (h : kLOp.Sl s (.slice (some ⟨b, off, none⟩) n cap) xs) {i : Nat} {x : (List Op')} {r : List (List Op')} (hd : xs.drop i = x :: r) : ∃ A0 c0, Cells s ⟨b, off + i * 1, none⟩ [.slice A0 x.length c0] ∧ kOp.Sl s (.slice A0 x.length c0) x := by
  obtain ⟨b', off', A0, c0, e, hc, h0⟩ := kLOp_el h hd
  cases e
  exact ⟨A0, c0, hc, h0⟩
def kWy_eqb (x y : Wy) : Bool := ((x.from_ == y.from_) && ((x.to == y.to) && ((x.label == y.label) && ((x.key.toList == y.key.toList) && ((x.a == y.a) && ((x.b == y.b) && ((x.isNil == y.isNil) && (x.cond == y.cond))))))))
set_option maxHeartbeats 1000000 in
theorem kWy_eql (w : World) (x y : Wy) : (binOp .eql 50 (.agg #[.int .i64 x.from_, .int .i64 x.to, .int .i64 x.label, .string x.key, .int .i64 x.a, .int .i64 x.b, .bool x.isNil, .bool x.cond]) (.agg #[.int .i64 y.from_, .int .i64 y.to, .int .i64 y.label, .string y.key, .int .i64 y.a, .int .i64 y.b, .bool y.isNil, .bool y.cond])).run Tryd.prog w = .ok (.bool (kWy_eqb x y)) w := by
  obtain ⟨a0, a1, a2, a3, a4, a5, a6, a7⟩ := x
  obtain ⟨b0, b1, b2, b3, b4, b5, b6, b7⟩ := y
  unfold kWy_eqb
  go_simp
  (repeat' split) <;> simp_all
set_option maxHeartbeats 1000000 in
theorem kWy_neq (w : World) (x y : Wy) : (binOp .neq 50 (.agg #[.int .i64 x.from_, .int .i64 x.to, .int .i64 x.label, .string x.key, .int .i64 x.a, .int .i64 x.b, .bool x.isNil, .bool x.cond]) (.agg #[.int .i64 y.from_, .int .i64 y.to, .int .i64 y.label, .string y.key, .int .i64 y.a, .int .i64 y.b, .bool y.isNil, .bool y.cond])).run Tryd.prog w = .ok (.bool (!(kWy_eqb x y))) w := by
  obtain ⟨a0, a1, a2, a3, a4, a5, a6, a7⟩ := x
  obtain ⟨b0, b1, b2, b3, b4, b5, b6, b7⟩ := y
  unfold kWy_eqb
  go_simp
  (repeat' split) <;> simp_all
theorem kWy_eg (w : World) {op : BinOp} {x y : Operand} {u v : Array Value} : (eqGuard op 50 x y (.agg u) (.agg v)).run Tryd.prog w = .ok () w := run_eqGuard_agg w op _ x y u v (by kernel_rfl)
structure St16 where
  l : List Op'
  deriving Inhabited
structure PTab where
  open_ : Int → Option Int
  gone : Int → Option Bool
  kinds : ByteArray → Option Bool
  deriving Inhabited
structure MSt where
  lists : ByteArray → Option (List Int)
  regs : ByteArray → Option Int
  deriving Inhabited
end Go.Proofs.YtemdmpgekegfhaaDoor
