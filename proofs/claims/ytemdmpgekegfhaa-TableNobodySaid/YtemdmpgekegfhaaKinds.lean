/- Kinds of the program's data (printed by kinds.py). -/
import Derived.Test.YtemdmpgekegfhaaFx
import Derived.Laws.StructEq
namespace Go.Proofs.Ytemdmpgekegfhaa
open Go.RowKit
set_option linter.all false
set_option maxRecDepth 10000
def kB : Kin Bool := Kin.bool 4
def kS : Kin ByteArray := Kin.str 9
theorem kI_op {s : SH} {x : Int} {cs : List Value} (h : kI.K s x cs) : cs = [.int .i64 x] ∧ Kin.inI64 x := by
  obtain ⟨rfl, h0⟩ := h
  exact ⟨rfl, h0⟩
theorem kI_mk' {s : SH} {x : Int} (h0 : Kin.inI64 x) : kI.K s x [.int .i64 x] := ⟨rfl, h0⟩
theorem kI_el {s : SH} {A : Option Addr} {n cap : Nat} {xs : List Int} (h : kI.Sl s (.slice A n cap) xs) {i : Nat} {x : Int} {r : List Int} (hd : xs.drop i = x :: r) : ∃ b off , A = some ⟨b, off, none⟩ ∧ Cells s ⟨b, off + i * 1, none⟩ [.int .i64 x] ∧ Kin.inI64 x := by
  have hk : i < xs.length := Classical.byContradiction fun hn => by rw [List.drop_of_length_le (by omega)] at hd; cases hd
  have hx : xs[i] = x := by rw [List.drop_eq_getElem_cons hk] at hd; exact (List.cons.inj hd).1
  obtain ⟨b, off, c, rfl, hK, hc⟩ := h.elem i hk
  rw [hx] at hK
  obtain ⟨rfl, h0⟩ := kI_op hK
  exact ⟨b, off, rfl, hc, h0⟩
theorem kI_el2 {s : SH} {b off n cap : Nat} {xs : List Int} (h : kI.Sl s (.slice (some ⟨b, off, none⟩) n cap) xs) {i : Nat} {x : Int} {r : List Int} (hd : xs.drop i = x :: r) : Cells s ⟨b, off + i * 1, none⟩ [.int .i64 x] ∧ Kin.inI64 x := by
  obtain ⟨b', off', e, hc, h0⟩ := kI_el h hd
  cases e
  exact ⟨hc, h0⟩
theorem kS_op {s : SH} {x : ByteArray} {cs : List Value} (h : kS.K s x cs) : cs = [.string x] ∧ x.size ≤ 140737488351232 := by
  obtain ⟨rfl, h0⟩ := h
  exact ⟨rfl, h0⟩
theorem kS_mk' {s : SH} {x : ByteArray} (h0 : x.size ≤ 140737488351232) : kS.K s x [.string x] := ⟨rfl, h0⟩
theorem kS_el {s : SH} {A : Option Addr} {n cap : Nat} {xs : List ByteArray} (h : kS.Sl s (.slice A n cap) xs) {i : Nat} {x : ByteArray} {r : List ByteArray} (hd : xs.drop i = x :: r) : ∃ b off , A = some ⟨b, off, none⟩ ∧ Cells s ⟨b, off + i * 1, none⟩ [.string x] ∧ x.size ≤ 140737488351232 := by
  have hk : i < xs.length := Classical.byContradiction fun hn => by rw [List.drop_of_length_le (by omega)] at hd; cases hd
  have hx : xs[i] = x := by rw [List.drop_eq_getElem_cons hk] at hd; exact (List.cons.inj hd).1
  obtain ⟨b, off, c, rfl, hK, hc⟩ := h.elem i hk
  rw [hx] at hK
  obtain ⟨rfl, h0⟩ := kS_op hK
  exact ⟨b, off, rfl, hc, h0⟩
theorem kS_el2 {s : SH} {b off n cap : Nat} {xs : List ByteArray} (h : kS.Sl s (.slice (some ⟨b, off, none⟩) n cap) xs) {i : Nat} {x : ByteArray} {r : List ByteArray} (hd : xs.drop i = x :: r) : Cells s ⟨b, off + i * 1, none⟩ [.string x] ∧ x.size ≤ 140737488351232 := by
  obtain ⟨b', off', e, hc, h0⟩ := kS_el h hd
  cases e
  exact ⟨hc, h0⟩
theorem kOp_op {s : SH} {x : Op'} {cs : List Value} (h : kOp.K s x cs) : ∃ A3 c3, cs = [.int .i64 x.kind, .string x.key, .int .i64 x.value, .slice A3 x.list.length c3, .bool x.has, .bool x.isNil] ∧ Kin.inI64 x.kind ∧ x.key.size ≤ 140737488351232 ∧ Kin.inI64 x.value ∧ kI.Sl s (.slice A3 x.list.length c3) x.list := by
  obtain ⟨_, _, rfl, ⟨rfl, h0⟩, _, _, rfl, ⟨rfl, h1⟩, _, _, rfl, ⟨rfl, h2⟩, _, _, rfl, ⟨v3, rfl, h3⟩, _, _, rfl, ⟨rfl, h4⟩, rfl, h5⟩ := h
  obtain ⟨A3, c3, e3, -⟩ := id h3
  subst e3
  exact ⟨A3, c3, rfl, h0, h1, h2, h3⟩
theorem kOp_mk' {s : SH} {x : Op'} {A3 : Option Addr} {c3 : Nat} (h0 : Kin.inI64 x.kind) (h1 : x.key.size ≤ 140737488351232) (h2 : Kin.inI64 x.value) (h3 : kI.Sl s (.slice A3 x.list.length c3) x.list) : kOp.K s x [.int .i64 x.kind, .string x.key, .int .i64 x.value, .slice A3 x.list.length c3, .bool x.has, .bool x.isNil] := ⟨[_], [_, _, _, _, _], rfl, ⟨rfl, h0⟩, ⟨[_], [_, _, _, _], rfl, ⟨rfl, h1⟩, ⟨[_], [_, _, _], rfl, ⟨rfl, h2⟩, ⟨[_], [_, _], rfl, ⟨_, rfl, h3⟩, ⟨[_], [_], rfl, ⟨rfl, trivial⟩, ⟨rfl, trivial⟩⟩⟩⟩⟩⟩
theorem kOp_zero {s0 : SH} : ∀ i z, Try.prog.info? (kOp.sh s0).e = some i → i.zero = some z → ∀ h, emp h → (kOp.sh s0).M (⟨0, ByteArray.mk #[], 0, [], false, false⟩ : Op') z.cells.toList h := fun i z hi hz h e => by
  rw [show Try.prog.info? (kOp.sh s0).e = some Try.t35 from info_of Try.type35] at hi
  cases hi; cases hz
  exact ⟨kOp_mk' (x := (⟨0, ByteArray.mk #[], 0, [], false, false⟩ : Op')) (by constructor <;> decide) (by decide) (by constructor <;> decide) Kin.Sl.nil, e⟩
theorem kOp_el {s : SH} {A : Option Addr} {n cap : Nat} {xs : List Op'} (h : kOp.Sl s (.slice A n cap) xs) {i : Nat} {x : Op'} {r : List Op'} (hd : xs.drop i = x :: r) : ∃ b off A3 c3, A = some ⟨b, off, none⟩ ∧ Cells s ⟨b, off + i * 6, none⟩ [.int .i64 x.kind, .string x.key, .int .i64 x.value, .slice A3 x.list.length c3, .bool x.has, .bool x.isNil] ∧ Kin.inI64 x.kind ∧ x.key.size ≤ 140737488351232 ∧ Kin.inI64 x.value ∧ kI.Sl s (.slice A3 x.list.length c3) x.list := by
  have hk : i < xs.length := Classical.byContradiction fun hn => by rw [List.drop_of_length_le (by omega)] at hd; cases hd
  have hx : xs[i] = x := by rw [List.drop_eq_getElem_cons hk] at hd; exact (List.cons.inj hd).1
  obtain ⟨b, off, c, rfl, hK, hc⟩ := h.elem i hk
  rw [hx] at hK
  obtain ⟨A3, c3, rfl, h0, h1, h2, h3⟩ := kOp_op hK
  exact ⟨b, off, A3, c3, rfl, hc, h0, h1, h2, h3⟩
theorem kOp_el2 {s : SH} {b off n cap : Nat} {xs : List Op'} (h : kOp.Sl s (.slice (some ⟨b, off, none⟩) n cap) xs) {i : Nat} {x : Op'} {r : List Op'} (hd : xs.drop i = x :: r) : ∃ A3 c3, Cells s ⟨b, off + i * 6, none⟩ [.int .i64 x.kind, .string x.key, .int .i64 x.value, .slice A3 x.list.length c3, .bool x.has, .bool x.isNil] ∧ Kin.inI64 x.kind ∧ x.key.size ≤ 140737488351232 ∧ Kin.inI64 x.value ∧ kI.Sl s (.slice A3 x.list.length c3) x.list := by
  obtain ⟨b', off', A3, c3, e, hc, h0, h1, h2, h3⟩ := kOp_el h hd
  cases e
  exact ⟨A3, c3, hc, h0, h1, h2, h3⟩
theorem kT_op {s : SH} {x : Txn} {cs : List Value} (h : kT.K s x cs) : ∃ A4 c4, cs = [.int .i64 x.proc, .int .i64 x.state, .int .i64 x.from_, .int .i64 x.to, .slice A4 x.ops.length c4] ∧ Kin.inI64 x.proc ∧ Kin.inI64 x.state ∧ Kin.inI64 x.from_ ∧ Kin.inI64 x.to ∧ kOp.Sl s (.slice A4 x.ops.length c4) x.ops := by
  obtain ⟨_, _, rfl, ⟨rfl, h0⟩, _, _, rfl, ⟨rfl, h1⟩, _, _, rfl, ⟨rfl, h2⟩, _, _, rfl, ⟨rfl, h3⟩, v4, rfl, h4⟩ := h
  obtain ⟨A4, c4, e4, -⟩ := id h4
  subst e4
  exact ⟨A4, c4, rfl, h0, h1, h2, h3, h4⟩
theorem kT_mk' {s : SH} {x : Txn} {A4 : Option Addr} {c4 : Nat} (h0 : Kin.inI64 x.proc) (h1 : Kin.inI64 x.state) (h2 : Kin.inI64 x.from_) (h3 : Kin.inI64 x.to) (h4 : kOp.Sl s (.slice A4 x.ops.length c4) x.ops) : kT.K s x [.int .i64 x.proc, .int .i64 x.state, .int .i64 x.from_, .int .i64 x.to, .slice A4 x.ops.length c4] := ⟨[_], [_, _, _, _], rfl, ⟨rfl, h0⟩, ⟨[_], [_, _, _], rfl, ⟨rfl, h1⟩, ⟨[_], [_, _], rfl, ⟨rfl, h2⟩, ⟨[_], [_], rfl, ⟨rfl, h3⟩, ⟨_, rfl, h4⟩⟩⟩⟩⟩
theorem kT_zero {s0 : SH} : ∀ i z, Try.prog.info? (kT.sh s0).e = some i → i.zero = some z → ∀ h, emp h → (kT.sh s0).M (⟨0, 0, 0, 0, []⟩ : Txn) z.cells.toList h := fun i z hi hz h e => by
  rw [show Try.prog.info? (kT.sh s0).e = some Try.t30 from info_of Try.type30] at hi
  cases hi; cases hz
  exact ⟨kT_mk' (x := (⟨0, 0, 0, 0, []⟩ : Txn)) (by constructor <;> decide) (by constructor <;> decide) (by constructor <;> decide) (by constructor <;> decide) Kin.Sl.nil, e⟩
theorem kT_el {s : SH} {A : Option Addr} {n cap : Nat} {xs : List Txn} (h : kT.Sl s (.slice A n cap) xs) {i : Nat} {x : Txn} {r : List Txn} (hd : xs.drop i = x :: r) : ∃ b off A4 c4, A = some ⟨b, off, none⟩ ∧ Cells s ⟨b, off + i * 5, none⟩ [.int .i64 x.proc, .int .i64 x.state, .int .i64 x.from_, .int .i64 x.to, .slice A4 x.ops.length c4] ∧ Kin.inI64 x.proc ∧ Kin.inI64 x.state ∧ Kin.inI64 x.from_ ∧ Kin.inI64 x.to ∧ kOp.Sl s (.slice A4 x.ops.length c4) x.ops := by
  have hk : i < xs.length := Classical.byContradiction fun hn => by rw [List.drop_of_length_le (by omega)] at hd; cases hd
  have hx : xs[i] = x := by rw [List.drop_eq_getElem_cons hk] at hd; exact (List.cons.inj hd).1
  obtain ⟨b, off, c, rfl, hK, hc⟩ := h.elem i hk
  rw [hx] at hK
  obtain ⟨A4, c4, rfl, h0, h1, h2, h3, h4⟩ := kT_op hK
  exact ⟨b, off, A4, c4, rfl, hc, h0, h1, h2, h3, h4⟩
theorem kT_el2 {s : SH} {b off n cap : Nat} {xs : List Txn} (h : kT.Sl s (.slice (some ⟨b, off, none⟩) n cap) xs) {i : Nat} {x : Txn} {r : List Txn} (hd : xs.drop i = x :: r) : ∃ A4 c4, Cells s ⟨b, off + i * 5, none⟩ [.int .i64 x.proc, .int .i64 x.state, .int .i64 x.from_, .int .i64 x.to, .slice A4 x.ops.length c4] ∧ Kin.inI64 x.proc ∧ Kin.inI64 x.state ∧ Kin.inI64 x.from_ ∧ Kin.inI64 x.to ∧ kOp.Sl s (.slice A4 x.ops.length c4) x.ops := by
  obtain ⟨b', off', A4, c4, e, hc, h0, h1, h2, h3, h4⟩ := kT_el h hd
  cases e
  exact ⟨A4, c4, hc, h0, h1, h2, h3, h4⟩
structure Wr where
  txn : Int
  op : Int
  deriving Inhabited, DecidableEq
def kWr : Kin Wr := Kin.iso (Kin.pair kI kI) (fun x => (x.txn, x.op)) 16 41
theorem kWr_at : kWr.At Try.prog 51 := ⟨Try.underlying51, by decide, Try.t41, _, info_of Try.type41, rfl, rfl, rfl, rfl⟩
theorem kWr_op {s : SH} {x : Wr} {cs : List Value} (h : kWr.K s x cs) : cs = [.int .i64 x.txn, .int .i64 x.op] ∧ Kin.inI64 x.txn ∧ Kin.inI64 x.op := by
  obtain ⟨_, _, rfl, ⟨rfl, h0⟩, rfl, h1⟩ := h
  exact ⟨rfl, h0, h1⟩
theorem kWr_mk' {s : SH} {x : Wr} (h0 : Kin.inI64 x.txn) (h1 : Kin.inI64 x.op) : kWr.K s x [.int .i64 x.txn, .int .i64 x.op] := ⟨[_], [_], rfl, ⟨rfl, h0⟩, ⟨rfl, h1⟩⟩
theorem kWr_zero {s0 : SH} : ∀ i z, Try.prog.info? (kWr.sh s0).e = some i → i.zero = some z → ∀ h, emp h → (kWr.sh s0).M (⟨0, 0⟩ : Wr) z.cells.toList h := fun i z hi hz h e => by
  rw [show Try.prog.info? (kWr.sh s0).e = some Try.t41 from info_of Try.type41] at hi
  cases hi; cases hz
  exact ⟨kWr_mk' (x := (⟨0, 0⟩ : Wr)) (by constructor <;> decide) (by constructor <;> decide), e⟩
theorem kWr_el {s : SH} {A : Option Addr} {n cap : Nat} {xs : List Wr} (h : kWr.Sl s (.slice A n cap) xs) {i : Nat} {x : Wr} {r : List Wr} (hd : xs.drop i = x :: r) : ∃ b off , A = some ⟨b, off, none⟩ ∧ Cells s ⟨b, off + i * 2, none⟩ [.int .i64 x.txn, .int .i64 x.op] ∧ Kin.inI64 x.txn ∧ Kin.inI64 x.op := by
  have hk : i < xs.length := Classical.byContradiction fun hn => by rw [List.drop_of_length_le (by omega)] at hd; cases hd
  have hx : xs[i] = x := by rw [List.drop_eq_getElem_cons hk] at hd; exact (List.cons.inj hd).1
  obtain ⟨b, off, c, rfl, hK, hc⟩ := h.elem i hk
  rw [hx] at hK
  obtain ⟨rfl, h0, h1⟩ := kWr_op hK
  exact ⟨b, off, rfl, hc, h0, h1⟩
theorem kWr_el2 {s : SH} {b off n cap : Nat} {xs : List Wr} (h : kWr.Sl s (.slice (some ⟨b, off, none⟩) n cap) xs) {i : Nat} {x : Wr} {r : List Wr} (hd : xs.drop i = x :: r) : Cells s ⟨b, off + i * 2, none⟩ [.int .i64 x.txn, .int .i64 x.op] ∧ Kin.inI64 x.txn ∧ Kin.inI64 x.op := by
  obtain ⟨b', off', e, hc, h0, h1⟩ := kWr_el h hd
  cases e
  exact ⟨hc, h0, h1⟩
structure Ev where
  kind : Int
  proc : Int
  ops : List Op'
  deriving Inhabited
def kEv : Kin Ev := Kin.iso (Kin.pair kI (Kin.pair kI (Kin.slice kOp 28))) (fun x => (x.kind, x.proc, x.ops)) 40 87
theorem kEv_at : kEv.At Try.prog 73 := ⟨Try.underlying73, by decide, Try.t87, _, info_of Try.type87, rfl, rfl, rfl, rfl⟩
theorem kEv_op {s : SH} {x : Ev} {cs : List Value} (h : kEv.K s x cs) : ∃ A2 c2, cs = [.int .i64 x.kind, .int .i64 x.proc, .slice A2 x.ops.length c2] ∧ Kin.inI64 x.kind ∧ Kin.inI64 x.proc ∧ kOp.Sl s (.slice A2 x.ops.length c2) x.ops := by
  obtain ⟨_, _, rfl, ⟨rfl, h0⟩, _, _, rfl, ⟨rfl, h1⟩, v2, rfl, h2⟩ := h
  obtain ⟨A2, c2, e2, -⟩ := id h2
  subst e2
  exact ⟨A2, c2, rfl, h0, h1, h2⟩
theorem kEv_mk' {s : SH} {x : Ev} {A2 : Option Addr} {c2 : Nat} (h0 : Kin.inI64 x.kind) (h1 : Kin.inI64 x.proc) (h2 : kOp.Sl s (.slice A2 x.ops.length c2) x.ops) : kEv.K s x [.int .i64 x.kind, .int .i64 x.proc, .slice A2 x.ops.length c2] := ⟨[_], [_, _], rfl, ⟨rfl, h0⟩, ⟨[_], [_], rfl, ⟨rfl, h1⟩, ⟨_, rfl, h2⟩⟩⟩
theorem kEv_zero {s0 : SH} : ∀ i z, Try.prog.info? (kEv.sh s0).e = some i → i.zero = some z → ∀ h, emp h → (kEv.sh s0).M (⟨0, 0, []⟩ : Ev) z.cells.toList h := fun i z hi hz h e => by
  rw [show Try.prog.info? (kEv.sh s0).e = some Try.t87 from info_of Try.type87] at hi
  cases hi; cases hz
  exact ⟨kEv_mk' (x := (⟨0, 0, []⟩ : Ev)) (by constructor <;> decide) (by constructor <;> decide) Kin.Sl.nil, e⟩
theorem kEv_el {s : SH} {A : Option Addr} {n cap : Nat} {xs : List Ev} (h : kEv.Sl s (.slice A n cap) xs) {i : Nat} {x : Ev} {r : List Ev} (hd : xs.drop i = x :: r) : ∃ b off A2 c2, A = some ⟨b, off, none⟩ ∧ Cells s ⟨b, off + i * 3, none⟩ [.int .i64 x.kind, .int .i64 x.proc, .slice A2 x.ops.length c2] ∧ Kin.inI64 x.kind ∧ Kin.inI64 x.proc ∧ kOp.Sl s (.slice A2 x.ops.length c2) x.ops := by
  have hk : i < xs.length := Classical.byContradiction fun hn => by rw [List.drop_of_length_le (by omega)] at hd; cases hd
  have hx : xs[i] = x := by rw [List.drop_eq_getElem_cons hk] at hd; exact (List.cons.inj hd).1
  obtain ⟨b, off, c, rfl, hK, hc⟩ := h.elem i hk
  rw [hx] at hK
  obtain ⟨A2, c2, rfl, h0, h1, h2⟩ := kEv_op hK
  exact ⟨b, off, A2, c2, rfl, hc, h0, h1, h2⟩
theorem kEv_el2 {s : SH} {b off n cap : Nat} {xs : List Ev} (h : kEv.Sl s (.slice (some ⟨b, off, none⟩) n cap) xs) {i : Nat} {x : Ev} {r : List Ev} (hd : xs.drop i = x :: r) : ∃ A2 c2, Cells s ⟨b, off + i * 3, none⟩ [.int .i64 x.kind, .int .i64 x.proc, .slice A2 x.ops.length c2] ∧ Kin.inI64 x.kind ∧ Kin.inI64 x.proc ∧ kOp.Sl s (.slice A2 x.ops.length c2) x.ops := by
  obtain ⟨b', off', A2, c2, e, hc, h0, h1, h2⟩ := kEv_el h hd
  cases e
  exact ⟨A2, c2, hc, h0, h1, h2⟩
structure Wy where
  from_ : Int
  to : Int
  label : Int
  key : ByteArray
  a : Int
  b : Int
  isNil : Bool
  cond : Bool
  deriving Inhabited, DecidableEq
def kWy : Kin Wy := Kin.iso (Kin.pair kI (Kin.pair kI (Kin.pair kI (Kin.pair kS (Kin.pair kI (Kin.pair kI (Kin.pair kB kB))))))) (fun x => (x.from_, x.to, x.label, x.key, x.a, x.b, x.isNil, x.cond)) 64 91
theorem kWy_at : kWy.At Try.prog 88 := ⟨Try.underlying88, by decide, Try.t91, _, info_of Try.type91, rfl, rfl, rfl, rfl⟩
theorem kWy_op {s : SH} {x : Wy} {cs : List Value} (h : kWy.K s x cs) : cs = [.int .i64 x.from_, .int .i64 x.to, .int .i64 x.label, .string x.key, .int .i64 x.a, .int .i64 x.b, .bool x.isNil, .bool x.cond] ∧ Kin.inI64 x.from_ ∧ Kin.inI64 x.to ∧ Kin.inI64 x.label ∧ x.key.size ≤ 140737488351232 ∧ Kin.inI64 x.a ∧ Kin.inI64 x.b := by
  obtain ⟨_, _, rfl, ⟨rfl, h0⟩, _, _, rfl, ⟨rfl, h1⟩, _, _, rfl, ⟨rfl, h2⟩, _, _, rfl, ⟨rfl, h3⟩, _, _, rfl, ⟨rfl, h4⟩, _, _, rfl, ⟨rfl, h5⟩, _, _, rfl, ⟨rfl, h6⟩, rfl, h7⟩ := h
  exact ⟨rfl, h0, h1, h2, h3, h4, h5⟩
theorem kWy_mk' {s : SH} {x : Wy} (h0 : Kin.inI64 x.from_) (h1 : Kin.inI64 x.to) (h2 : Kin.inI64 x.label) (h3 : x.key.size ≤ 140737488351232) (h4 : Kin.inI64 x.a) (h5 : Kin.inI64 x.b) : kWy.K s x [.int .i64 x.from_, .int .i64 x.to, .int .i64 x.label, .string x.key, .int .i64 x.a, .int .i64 x.b, .bool x.isNil, .bool x.cond] := ⟨[_], [_, _, _, _, _, _, _], rfl, ⟨rfl, h0⟩, ⟨[_], [_, _, _, _, _, _], rfl, ⟨rfl, h1⟩, ⟨[_], [_, _, _, _, _], rfl, ⟨rfl, h2⟩, ⟨[_], [_, _, _, _], rfl, ⟨rfl, h3⟩, ⟨[_], [_, _, _], rfl, ⟨rfl, h4⟩, ⟨[_], [_, _], rfl, ⟨rfl, h5⟩, ⟨[_], [_], rfl, ⟨rfl, trivial⟩, ⟨rfl, trivial⟩⟩⟩⟩⟩⟩⟩⟩
theorem kWy_zero {s0 : SH} : ∀ i z, Try.prog.info? (kWy.sh s0).e = some i → i.zero = some z → ∀ h, emp h → (kWy.sh s0).M (⟨0, 0, 0, ByteArray.mk #[], 0, 0, false, false⟩ : Wy) z.cells.toList h := fun i z hi hz h e => by
  rw [show Try.prog.info? (kWy.sh s0).e = some Try.t91 from info_of Try.type91] at hi
  cases hi; cases hz
  exact ⟨kWy_mk' (x := (⟨0, 0, 0, ByteArray.mk #[], 0, 0, false, false⟩ : Wy)) (by constructor <;> decide) (by constructor <;> decide) (by constructor <;> decide) (by decide) (by constructor <;> decide) (by constructor <;> decide), e⟩
theorem kWy_el {s : SH} {A : Option Addr} {n cap : Nat} {xs : List Wy} (h : kWy.Sl s (.slice A n cap) xs) {i : Nat} {x : Wy} {r : List Wy} (hd : xs.drop i = x :: r) : ∃ b off , A = some ⟨b, off, none⟩ ∧ Cells s ⟨b, off + i * 8, none⟩ [.int .i64 x.from_, .int .i64 x.to, .int .i64 x.label, .string x.key, .int .i64 x.a, .int .i64 x.b, .bool x.isNil, .bool x.cond] ∧ Kin.inI64 x.from_ ∧ Kin.inI64 x.to ∧ Kin.inI64 x.label ∧ x.key.size ≤ 140737488351232 ∧ Kin.inI64 x.a ∧ Kin.inI64 x.b := by
  have hk : i < xs.length := Classical.byContradiction fun hn => by rw [List.drop_of_length_le (by omega)] at hd; cases hd
  have hx : xs[i] = x := by rw [List.drop_eq_getElem_cons hk] at hd; exact (List.cons.inj hd).1
  obtain ⟨b, off, c, rfl, hK, hc⟩ := h.elem i hk
  rw [hx] at hK
  obtain ⟨rfl, h0, h1, h2, h3, h4, h5⟩ := kWy_op hK
  exact ⟨b, off, rfl, hc, h0, h1, h2, h3, h4, h5⟩
theorem kWy_el2 {s : SH} {b off n cap : Nat} {xs : List Wy} (h : kWy.Sl s (.slice (some ⟨b, off, none⟩) n cap) xs) {i : Nat} {x : Wy} {r : List Wy} (hd : xs.drop i = x :: r) : Cells s ⟨b, off + i * 8, none⟩ [.int .i64 x.from_, .int .i64 x.to, .int .i64 x.label, .string x.key, .int .i64 x.a, .int .i64 x.b, .bool x.isNil, .bool x.cond] ∧ Kin.inI64 x.from_ ∧ Kin.inI64 x.to ∧ Kin.inI64 x.label ∧ x.key.size ≤ 140737488351232 ∧ Kin.inI64 x.a ∧ Kin.inI64 x.b := by
  obtain ⟨b', off', e, hc, h0, h1, h2, h3, h4, h5⟩ := kWy_el h hd
  cases e
  exact ⟨hc, h0, h1, h2, h3, h4, h5⟩
structure Do' where
  ops : List Op'
  blind : Bool
  copy : Bool
  deriving Inhabited
def kDo : Kin Do' := Kin.iso (Kin.pair (Kin.slice kOp 28) (Kin.pair kB kB)) (fun x => (x.ops, x.blind, x.copy)) 32 64
theorem kDo_at : kDo.At Try.prog 58 := ⟨Try.underlying58, by decide, Try.t64, _, info_of Try.type64, rfl, rfl, rfl, rfl⟩
theorem kDo_op {s : SH} {x : Do'} {cs : List Value} (h : kDo.K s x cs) : ∃ A0 c0, cs = [.slice A0 x.ops.length c0, .bool x.blind, .bool x.copy] ∧ kOp.Sl s (.slice A0 x.ops.length c0) x.ops := by
  obtain ⟨_, _, rfl, ⟨v0, rfl, h0⟩, _, _, rfl, ⟨rfl, h1⟩, rfl, h2⟩ := h
  obtain ⟨A0, c0, e0, -⟩ := id h0
  subst e0
  exact ⟨A0, c0, rfl, h0⟩
theorem kDo_mk' {s : SH} {x : Do'} {A0 : Option Addr} {c0 : Nat} (h0 : kOp.Sl s (.slice A0 x.ops.length c0) x.ops) : kDo.K s x [.slice A0 x.ops.length c0, .bool x.blind, .bool x.copy] := ⟨[_], [_, _], rfl, ⟨_, rfl, h0⟩, ⟨[_], [_], rfl, ⟨rfl, trivial⟩, ⟨rfl, trivial⟩⟩⟩
theorem kDo_zero {s0 : SH} : ∀ i z, Try.prog.info? (kDo.sh s0).e = some i → i.zero = some z → ∀ h, emp h → (kDo.sh s0).M (⟨[], false, false⟩ : Do') z.cells.toList h := fun i z hi hz h e => by
  rw [show Try.prog.info? (kDo.sh s0).e = some Try.t64 from info_of Try.type64] at hi
  cases hi; cases hz
  exact ⟨kDo_mk' (x := (⟨[], false, false⟩ : Do')) Kin.Sl.nil, e⟩
theorem kDo_el {s : SH} {A : Option Addr} {n cap : Nat} {xs : List Do'} (h : kDo.Sl s (.slice A n cap) xs) {i : Nat} {x : Do'} {r : List Do'} (hd : xs.drop i = x :: r) : ∃ b off A0 c0, A = some ⟨b, off, none⟩ ∧ Cells s ⟨b, off + i * 3, none⟩ [.slice A0 x.ops.length c0, .bool x.blind, .bool x.copy] ∧ kOp.Sl s (.slice A0 x.ops.length c0) x.ops := by
  have hk : i < xs.length := Classical.byContradiction fun hn => by rw [List.drop_of_length_le (by omega)] at hd; cases hd
  have hx : xs[i] = x := by rw [List.drop_eq_getElem_cons hk] at hd; exact (List.cons.inj hd).1
  obtain ⟨b, off, c, rfl, hK, hc⟩ := h.elem i hk
  rw [hx] at hK
  obtain ⟨A0, c0, rfl, h0⟩ := kDo_op hK
  exact ⟨b, off, A0, c0, rfl, hc, h0⟩
theorem kDo_el2 {s : SH} {b off n cap : Nat} {xs : List Do'} (h : kDo.Sl s (.slice (some ⟨b, off, none⟩) n cap) xs) {i : Nat} {x : Do'} {r : List Do'} (hd : xs.drop i = x :: r) : ∃ A0 c0, Cells s ⟨b, off + i * 3, none⟩ [.slice A0 x.ops.length c0, .bool x.blind, .bool x.copy] ∧ kOp.Sl s (.slice A0 x.ops.length c0) x.ops := by
  obtain ⟨b', off', A0, c0, e, hc, h0⟩ := kDo_el h hd
  cases e
  exact ⟨A0, c0, hc, h0⟩
structure Flt where
  at_ : Int
  why : Int
  deriving Inhabited, DecidableEq
def kFl : Kin Flt := Kin.iso (Kin.pair kI kI) (fun x => (x.at_, x.why)) 16 126
theorem kFl_op {s : SH} {x : Flt} {cs : List Value} (h : kFl.K s x cs) : cs = [.int .i64 x.at_, .int .i64 x.why] ∧ Kin.inI64 x.at_ ∧ Kin.inI64 x.why := by
  obtain ⟨_, _, rfl, ⟨rfl, h0⟩, rfl, h1⟩ := h
  exact ⟨rfl, h0, h1⟩
theorem kFl_mk' {s : SH} {x : Flt} (h0 : Kin.inI64 x.at_) (h1 : Kin.inI64 x.why) : kFl.K s x [.int .i64 x.at_, .int .i64 x.why] := ⟨[_], [_], rfl, ⟨rfl, h0⟩, ⟨rfl, h1⟩⟩
theorem kFl_zero {s0 : SH} : ∀ i z, Try.prog.info? (kFl.sh s0).e = some i → i.zero = some z → ∀ h, emp h → (kFl.sh s0).M (⟨0, 0⟩ : Flt) z.cells.toList h := fun i z hi hz h e => by
  rw [show Try.prog.info? (kFl.sh s0).e = some Try.t126 from info_of Try.type126] at hi
  cases hi; cases hz
  exact ⟨kFl_mk' (x := (⟨0, 0⟩ : Flt)) (by constructor <;> decide) (by constructor <;> decide), e⟩
theorem kFl_el {s : SH} {A : Option Addr} {n cap : Nat} {xs : List Flt} (h : kFl.Sl s (.slice A n cap) xs) {i : Nat} {x : Flt} {r : List Flt} (hd : xs.drop i = x :: r) : ∃ b off , A = some ⟨b, off, none⟩ ∧ Cells s ⟨b, off + i * 2, none⟩ [.int .i64 x.at_, .int .i64 x.why] ∧ Kin.inI64 x.at_ ∧ Kin.inI64 x.why := by
  have hk : i < xs.length := Classical.byContradiction fun hn => by rw [List.drop_of_length_le (by omega)] at hd; cases hd
  have hx : xs[i] = x := by rw [List.drop_eq_getElem_cons hk] at hd; exact (List.cons.inj hd).1
  obtain ⟨b, off, c, rfl, hK, hc⟩ := h.elem i hk
  rw [hx] at hK
  obtain ⟨rfl, h0, h1⟩ := kFl_op hK
  exact ⟨b, off, rfl, hc, h0, h1⟩
theorem kFl_el2 {s : SH} {b off n cap : Nat} {xs : List Flt} (h : kFl.Sl s (.slice (some ⟨b, off, none⟩) n cap) xs) {i : Nat} {x : Flt} {r : List Flt} (hd : xs.drop i = x :: r) : Cells s ⟨b, off + i * 2, none⟩ [.int .i64 x.at_, .int .i64 x.why] ∧ Kin.inI64 x.at_ ∧ Kin.inI64 x.why := by
  obtain ⟨b', off', e, hc, h0, h1⟩ := kFl_el h hd
  cases e
  exact ⟨hc, h0, h1⟩
structure Prc where
  gone : Bool
  open_ : Int
  deriving Inhabited, DecidableEq
def kPr : Kin Prc := Kin.iso (Kin.pair kB kI) (fun x => (x.gone, x.open_)) 16 135
theorem kPr_at : kPr.At Try.prog 133 := ⟨Try.underlying133, by decide, Try.t135, _, info_of Try.type135, rfl, rfl, rfl, rfl⟩
theorem kPr_op {s : SH} {x : Prc} {cs : List Value} (h : kPr.K s x cs) : cs = [.bool x.gone, .int .i64 x.open_] ∧ Kin.inI64 x.open_ := by
  obtain ⟨_, _, rfl, ⟨rfl, h0⟩, rfl, h1⟩ := h
  exact ⟨rfl, h1⟩
theorem kPr_mk' {s : SH} {x : Prc} (h1 : Kin.inI64 x.open_) : kPr.K s x [.bool x.gone, .int .i64 x.open_] := ⟨[_], [_], rfl, ⟨rfl, trivial⟩, ⟨rfl, h1⟩⟩
theorem kPr_zero {s0 : SH} : ∀ i z, Try.prog.info? (kPr.sh s0).e = some i → i.zero = some z → ∀ h, emp h → (kPr.sh s0).M (⟨false, 0⟩ : Prc) z.cells.toList h := fun i z hi hz h e => by
  rw [show Try.prog.info? (kPr.sh s0).e = some Try.t135 from info_of Try.type135] at hi
  cases hi; cases hz
  exact ⟨kPr_mk' (x := (⟨false, 0⟩ : Prc)) (by constructor <;> decide), e⟩
theorem kPr_el {s : SH} {A : Option Addr} {n cap : Nat} {xs : List Prc} (h : kPr.Sl s (.slice A n cap) xs) {i : Nat} {x : Prc} {r : List Prc} (hd : xs.drop i = x :: r) : ∃ b off , A = some ⟨b, off, none⟩ ∧ Cells s ⟨b, off + i * 2, none⟩ [.bool x.gone, .int .i64 x.open_] ∧ Kin.inI64 x.open_ := by
  have hk : i < xs.length := Classical.byContradiction fun hn => by rw [List.drop_of_length_le (by omega)] at hd; cases hd
  have hx : xs[i] = x := by rw [List.drop_eq_getElem_cons hk] at hd; exact (List.cons.inj hd).1
  obtain ⟨b, off, c, rfl, hK, hc⟩ := h.elem i hk
  rw [hx] at hK
  obtain ⟨rfl, h1⟩ := kPr_op hK
  exact ⟨b, off, rfl, hc, h1⟩
theorem kPr_el2 {s : SH} {b off n cap : Nat} {xs : List Prc} (h : kPr.Sl s (.slice (some ⟨b, off, none⟩) n cap) xs) {i : Nat} {x : Prc} {r : List Prc} (hd : xs.drop i = x :: r) : Cells s ⟨b, off + i * 2, none⟩ [.bool x.gone, .int .i64 x.open_] ∧ Kin.inI64 x.open_ := by
  obtain ⟨b', off', e, hc, h1⟩ := kPr_el h hd
  cases e
  exact ⟨hc, h1⟩
def kLOp : Kin (List Op') := Kin.slice kOp 28
theorem kLOp_at : kLOp.At Try.prog 136 := ⟨Try.underlying136, by decide, Try.t28, _, info_of Try.type28, rfl, rfl, rfl, rfl⟩
theorem kLOp_op {s : SH} {x : List Op'} {cs : List Value} (h : kLOp.K s x cs) : ∃ A0 c0, cs = [.slice A0 x.length c0] ∧ kOp.Sl s (.slice A0 x.length c0) x := by
  obtain ⟨v0, rfl, h0⟩ := h
  obtain ⟨A0, c0, e0, -⟩ := id h0
  subst e0
  exact ⟨A0, c0, rfl, h0⟩
theorem kLOp_mk' {s : SH} {x : List Op'} {A0 : Option Addr} {c0 : Nat} (h0 : kOp.Sl s (.slice A0 x.length c0) x) : kLOp.K s x [.slice A0 x.length c0] := ⟨_, rfl, h0⟩
theorem kLOp_zero {s0 : SH} : ∀ i z, Try.prog.info? (kLOp.sh s0).e = some i → i.zero = some z → ∀ h, emp h → (kLOp.sh s0).M [] z.cells.toList h := fun i z hi hz h e => by
  rw [show Try.prog.info? (kLOp.sh s0).e = some Try.t28 from info_of Try.type28] at hi
  cases hi; cases hz
  exact ⟨kLOp_mk' (x := []) Kin.Sl.nil, e⟩
theorem kLOp_el {s : SH} {A : Option Addr} {n cap : Nat} {xs : List (List Op')} (h : kLOp.Sl s (.slice A n cap) xs) {i : Nat} {x : (List Op')} {r : List (List Op')} (hd : xs.drop i = x :: r) : ∃ b off A0 c0, A = some ⟨b, off, none⟩ ∧ Cells s ⟨b, off + i * 1, none⟩ [.slice A0 x.length c0] ∧ kOp.Sl s (.slice A0 x.length c0) x := by
  have hk : i < xs.length := Classical.byContradiction fun hn => by rw [List.drop_of_length_le (by omega)] at hd; cases hd
  have hx : xs[i] = x := by rw [List.drop_eq_getElem_cons hk] at hd; exact (List.cons.inj hd).1
  obtain ⟨b, off, c, rfl, hK, hc⟩ := h.elem i hk
  rw [hx] at hK
  obtain ⟨A0, c0, rfl, h0⟩ := kLOp_op hK
  exact ⟨b, off, A0, c0, rfl, hc, h0⟩
theorem kLOp_el2 {s : SH} {b off n cap : Nat} {xs : List (List Op')} (h : kLOp.Sl s (.slice (some ⟨b, off, none⟩) n cap) xs) {i : Nat} {x : (List Op')} {r : List (List Op')} (hd : xs.drop i = x :: r) : ∃ A0 c0, Cells s ⟨b, off + i * 1, none⟩ [.slice A0 x.length c0] ∧ kOp.Sl s (.slice A0 x.length c0) x := by
  obtain ⟨b', off', A0, c0, e, hc, h0⟩ := kLOp_el h hd
  cases e
  exact ⟨A0, c0, hc, h0⟩
structure Place where
  key : ByteArray
  value : Int
  deriving Inhabited, DecidableEq
def kPl : Kin Place := Kin.iso (Kin.pair kS kI) (fun x => (x.key, x.value)) 24 108
theorem kPl_op {s : SH} {x : Place} {cs : List Value} (h : kPl.K s x cs) : cs = [.string x.key, .int .i64 x.value] ∧ x.key.size ≤ 140737488351232 ∧ Kin.inI64 x.value := by
  obtain ⟨_, _, rfl, ⟨rfl, h0⟩, rfl, h1⟩ := h
  exact ⟨rfl, h0, h1⟩
theorem kPl_mk' {s : SH} {x : Place} (h0 : x.key.size ≤ 140737488351232) (h1 : Kin.inI64 x.value) : kPl.K s x [.string x.key, .int .i64 x.value] := ⟨[_], [_], rfl, ⟨rfl, h0⟩, ⟨rfl, h1⟩⟩
theorem kPl_zero {s0 : SH} : ∀ i z, Try.prog.info? (kPl.sh s0).e = some i → i.zero = some z → ∀ h, emp h → (kPl.sh s0).M (⟨ByteArray.mk #[], 0⟩ : Place) z.cells.toList h := fun i z hi hz h e => by
  rw [show Try.prog.info? (kPl.sh s0).e = some Try.t108 from info_of Try.type108] at hi
  cases hi; cases hz
  exact ⟨kPl_mk' (x := (⟨ByteArray.mk #[], 0⟩ : Place)) (by decide) (by constructor <;> decide), e⟩
theorem kPl_el {s : SH} {A : Option Addr} {n cap : Nat} {xs : List Place} (h : kPl.Sl s (.slice A n cap) xs) {i : Nat} {x : Place} {r : List Place} (hd : xs.drop i = x :: r) : ∃ b off , A = some ⟨b, off, none⟩ ∧ Cells s ⟨b, off + i * 2, none⟩ [.string x.key, .int .i64 x.value] ∧ x.key.size ≤ 140737488351232 ∧ Kin.inI64 x.value := by
  have hk : i < xs.length := Classical.byContradiction fun hn => by rw [List.drop_of_length_le (by omega)] at hd; cases hd
  have hx : xs[i] = x := by rw [List.drop_eq_getElem_cons hk] at hd; exact (List.cons.inj hd).1
  obtain ⟨b, off, c, rfl, hK, hc⟩ := h.elem i hk
  rw [hx] at hK
  obtain ⟨rfl, h0, h1⟩ := kPl_op hK
  exact ⟨b, off, rfl, hc, h0, h1⟩
theorem kPl_el2 {s : SH} {b off n cap : Nat} {xs : List Place} (h : kPl.Sl s (.slice (some ⟨b, off, none⟩) n cap) xs) {i : Nat} {x : Place} {r : List Place} (hd : xs.drop i = x :: r) : Cells s ⟨b, off + i * 2, none⟩ [.string x.key, .int .i64 x.value] ∧ x.key.size ≤ 140737488351232 ∧ Kin.inI64 x.value := by
  obtain ⟨b', off', e, hc, h0, h1⟩ := kPl_el h hd
  cases e
  exact ⟨hc, h0, h1⟩
def kWr_eqb (x y : Wr) : Bool := ((x.txn == y.txn) && (x.op == y.op))
set_option maxHeartbeats 1000000 in
theorem kWr_eql (w : World) (x y : Wr) : (binOp .eql 41 (.agg #[.int .i64 x.txn, .int .i64 x.op]) (.agg #[.int .i64 y.txn, .int .i64 y.op])).run Try.prog w = .ok (.bool (kWr_eqb x y)) w := by
  obtain ⟨a0, a1⟩ := x
  obtain ⟨b0, b1⟩ := y
  unfold kWr_eqb
  go_simp
  (repeat' split) <;> simp_all
set_option maxHeartbeats 1000000 in
theorem kWr_neq (w : World) (x y : Wr) : (binOp .neq 41 (.agg #[.int .i64 x.txn, .int .i64 x.op]) (.agg #[.int .i64 y.txn, .int .i64 y.op])).run Try.prog w = .ok (.bool (!(kWr_eqb x y))) w := by
  obtain ⟨a0, a1⟩ := x
  obtain ⟨b0, b1⟩ := y
  unfold kWr_eqb
  go_simp
  (repeat' split) <;> simp_all
theorem kWr_eg (w : World) {op : BinOp} {x y : Operand} {u v : Array Value} : (eqGuard op 41 x y (.agg u) (.agg v)).run Try.prog w = .ok () w := run_eqGuard_agg w op _ x y u v (by kernel_rfl)
def kWy_eqb (x y : Wy) : Bool := ((x.from_ == y.from_) && ((x.to == y.to) && ((x.label == y.label) && ((x.key.toList == y.key.toList) && ((x.a == y.a) && ((x.b == y.b) && ((x.isNil == y.isNil) && (x.cond == y.cond))))))))
set_option maxHeartbeats 1000000 in
theorem kWy_eql (w : World) (x y : Wy) : (binOp .eql 91 (.agg #[.int .i64 x.from_, .int .i64 x.to, .int .i64 x.label, .string x.key, .int .i64 x.a, .int .i64 x.b, .bool x.isNil, .bool x.cond]) (.agg #[.int .i64 y.from_, .int .i64 y.to, .int .i64 y.label, .string y.key, .int .i64 y.a, .int .i64 y.b, .bool y.isNil, .bool y.cond])).run Try.prog w = .ok (.bool (kWy_eqb x y)) w := by
  obtain ⟨a0, a1, a2, a3, a4, a5, a6, a7⟩ := x
  obtain ⟨b0, b1, b2, b3, b4, b5, b6, b7⟩ := y
  unfold kWy_eqb
  go_simp
  (repeat' split) <;> simp_all
set_option maxHeartbeats 1000000 in
theorem kWy_neq (w : World) (x y : Wy) : (binOp .neq 91 (.agg #[.int .i64 x.from_, .int .i64 x.to, .int .i64 x.label, .string x.key, .int .i64 x.a, .int .i64 x.b, .bool x.isNil, .bool x.cond]) (.agg #[.int .i64 y.from_, .int .i64 y.to, .int .i64 y.label, .string y.key, .int .i64 y.a, .int .i64 y.b, .bool y.isNil, .bool y.cond])).run Try.prog w = .ok (.bool (!(kWy_eqb x y))) w := by
  obtain ⟨a0, a1, a2, a3, a4, a5, a6, a7⟩ := x
  obtain ⟨b0, b1, b2, b3, b4, b5, b6, b7⟩ := y
  unfold kWy_eqb
  go_simp
  (repeat' split) <;> simp_all
theorem kWy_eg (w : World) {op : BinOp} {x y : Operand} {u v : Array Value} : (eqGuard op 91 x y (.agg u) (.agg v)).run Try.prog w = .ok () w := run_eqGuard_agg w op _ x y u v (by kernel_rfl)
structure St16 where
  l : List Op'
  deriving Inhabited
structure PTab where
  open_ : Int → Option Int
  gone : Int → Option Bool
  kinds : ByteArray → Option Bool
  deriving Inhabited
structure MSt where
  lists : ByteArray → Option (List Int)
  regs : ByteArray → Option Int
  deriving Inhabited
structure Tbl where
  l : List Txn
  kinds : ByteArray → Option Int
  writers : Place → Option (List Wr)
  made : Bool
  deriving Inhabited
end Go.Proofs.Ytemdmpgekegfhaa
