/- The program's data as Lean values, and how they lie in memory. -/
import Derived.Test.YtemdmpgekegfhaaDoorOpsB
import Derived.Test.YtemdmpgekegfhaaDoorRows
namespace Go.Proofs.YtemdmpgekegfhaaDoor
open Go.RowKit
set_option linter.all false
set_option maxRecDepth 10000

theorem info_of {P : Program} {t : TypeId} {i : TypeInfo} (h : P.types[t]? = some i) : P.info? t = some i := by
  unfold Tables.info?
  rw [if_pos (Array.getElem?_eq_some_iff.1 h).1]; exact h
structure Op' where
  kind : Int
  key : ByteArray
  value : Int
  list : List Int
  has : Bool
  isNil : Bool
  deriving Inhabited
structure Txn where
  proc : Int
  state : Int
  from_ : Int
  to : Int
  ops : List Op'
  deriving Inhabited
def kI : Kin Int := Kin.int 3
def kLI : Kin (List Int) := Kin.slice kI 27
def kOp : Kin Op' := Kin.iso (Kin.pair (Kin.int 3) (Kin.pair (Kin.str 9) (Kin.pair (Kin.int 3) (Kin.pair kLI (Kin.pair (Kin.bool 4) (Kin.bool 4)))))) (fun x => (x.kind, x.key, x.value, x.list, x.has, x.isNil)) 64 108
def kLO : Kin (List Op') := Kin.slice kOp 71
def kT : Kin Txn := Kin.iso (Kin.pair (Kin.int 3) (Kin.pair (Kin.int 3) (Kin.pair (Kin.int 3) (Kin.pair (Kin.int 3) kLO)))) (fun x => (x.proc, x.state, x.from_, x.to, x.ops)) 56 75
theorem kI_at : kI.At Tryd.prog 27 := ⟨Tryd.underlying27, by decide, Tryd.t3, _, info_of Tryd.type3, rfl, rfl, rfl, rfl⟩
theorem kOp_at : kOp.At Tryd.prog 71 := ⟨Tryd.underlying71, by decide, Tryd.t108, _, info_of Tryd.type108, rfl, rfl, rfl, rfl⟩
theorem kT_at : kT.At Tryd.prog 57 := ⟨Tryd.underlying57, by decide, Tryd.t75, _, info_of Tryd.type75, rfl, rfl, rfl, rfl⟩

theorem kOp_open {s : SH} {x : Op'} {cs : List Value} (h : kOp.K s x cs) :
    ∃ v, cs = [.int .i64 x.kind, .string x.key, .int .i64 x.value, v, .bool x.has, .bool x.isNil] ∧ kI.Sl s v x.list ∧ Kin.inI64 x.kind ∧ x.key.size ≤ 140737488351232 ∧ Kin.inI64 x.value := by
  obtain ⟨_, _, rfl, ⟨rfl, h1⟩, _, _, rfl, ⟨rfl, h2⟩, _, _, rfl, ⟨rfl, h3⟩, _, _, rfl, ⟨v, rfl, h4⟩, _, _, rfl, ⟨rfl, _⟩, rfl, _⟩ := h
  exact ⟨v, rfl, h4, h1, h2, h3⟩
theorem kT_open {s : SH} {x : Txn} {cs : List Value} (h : kT.K s x cs) :
    ∃ v, cs = [.int .i64 x.proc, .int .i64 x.state, .int .i64 x.from_, .int .i64 x.to, v] ∧ kOp.Sl s v x.ops ∧ Kin.inI64 x.proc ∧ Kin.inI64 x.state ∧ Kin.inI64 x.from_ ∧ Kin.inI64 x.to := by
  obtain ⟨_, _, rfl, ⟨rfl, h1⟩, _, _, rfl, ⟨rfl, h2⟩, _, _, rfl, ⟨rfl, h3⟩, _, _, rfl, ⟨rfl, h4⟩, v, rfl, h5⟩ := h
  exact ⟨v, rfl, h5, h1, h2, h3, h4⟩
theorem kT_mk {s : SH} {x : Txn} {v : Value} (h : kOp.Sl s v x.ops) (h1 : Kin.inI64 x.proc) (h2 : Kin.inI64 x.state) (h3 : Kin.inI64 x.from_) (h4 : Kin.inI64 x.to) :
    kT.K s x [.int .i64 x.proc, .int .i64 x.state, .int .i64 x.from_, .int .i64 x.to, v] :=
  ⟨[_], [_, _, _, _], rfl, ⟨rfl, h1⟩, [_], [_, _, _], rfl, ⟨rfl, h2⟩, [_], [_, _], rfl, ⟨rfl, h3⟩, [_], [_], rfl, ⟨rfl, h4⟩, v, rfl, h⟩
theorem kOp_mk {s : SH} {x : Op'} {v : Value} (h : kI.Sl s v x.list) (h1 : Kin.inI64 x.kind) (h2 : x.key.size ≤ 140737488351232) (h3 : Kin.inI64 x.value) :
    kOp.K s x [.int .i64 x.kind, .string x.key, .int .i64 x.value, v, .bool x.has, .bool x.isNil] :=
  ⟨[_], [_, _, _, _, _], rfl, ⟨rfl, h1⟩, [_], [_, _, _, _], rfl, ⟨rfl, h2⟩, [_], [_, _, _], rfl, ⟨rfl, h3⟩, [_], [_, _], rfl, ⟨v, rfl, h⟩, [_], [_], rfl, ⟨rfl, trivial⟩, rfl, trivial⟩
theorem uni_emp_right {h1 h2 : SH} (h : emp h2) : uni h1 h2 = h1 := by funext b; unfold uni; cases e : h1 b <;> simp [h b]
theorem star_emp_right {A : HP} {h : SH} (k : star A emp h) : A h := by
  obtain ⟨h1, h2, a, e, d, rfl⟩ := k
  rw [uni_comm d, uni_emp_left e]; exact a
theorem emp_star_pure {p : Prop} {A : HP} {h : SH} (hp : p) (k : A h) : star (fun h => p ∧ emp h) A h := ⟨fun _ => none, h, ⟨hp, fun _ => rfl⟩, k, fun _ => .inl rfl, by rw [uni_emp_left (fun _ => rfl)]⟩
theorem star_pure_emp {p : Prop} {A : HP} {h : SH} (hp : p) (k : A h) : star A (fun h => p ∧ emp h) h :=
  ⟨h, fun _ => none, k, ⟨hp, fun _ => rfl⟩, fun _ => .inr rfl, by funext b; unfold uni; cases h b <;> rfl⟩
/-- A struct's owned form out of its owned slice. -/
theorem kOp_mkM {E : World} {s : SH} {L : List HP} {w : World} {x : Op'} {v : Value} (H : Holds E s (kI.Osl v x.list :: L) w) (h1 : Kin.inI64 x.kind) (h2 : x.key.size ≤ 140737488351232) (h3 : Kin.inI64 x.value) :
    Holds E s (kOp.M x [.int .i64 x.kind, .string x.key, .int .i64 x.value, v, .bool x.has, .bool x.isNil] :: L) w :=
  H.map fun h k => ⟨[_], [_, _, _, _, _], rfl, emp_star_pure ⟨rfl, h1⟩ ⟨[_], [_, _, _, _], rfl, emp_star_pure ⟨rfl, h2⟩ ⟨[_], [_, _, _], rfl, emp_star_pure ⟨rfl, h3⟩ ⟨[_], [_, _], rfl,
    star_mono (A := kI.Osl v x.list) (fun h k => ⟨v, rfl, k⟩) (fun h k => k) (star_mono (A := kI.Osl v x.list) (fun _ a => a) (fun h (k : True ∧ emp h) => ⟨[_], [_], rfl, emp_star_pure ⟨rfl, trivial⟩ ⟨⟨rfl, trivial⟩, k.2⟩⟩) (star_pure_emp trivial k))⟩⟩⟩⟩
theorem kT_mkM {E : World} {s : SH} {L : List HP} {w : World} {x : Txn} {v : Value} (H : Holds E s (kOp.Osl v x.ops :: L) w) (h1 : Kin.inI64 x.proc) (h2 : Kin.inI64 x.state) (h3 : Kin.inI64 x.from_) (h4 : Kin.inI64 x.to) :
    Holds E s (kT.M x [.int .i64 x.proc, .int .i64 x.state, .int .i64 x.from_, .int .i64 x.to, v] :: L) w :=
  H.map fun h k => ⟨[_], [_, _, _, _], rfl, emp_star_pure ⟨rfl, h1⟩ ⟨[_], [_, _, _], rfl, emp_star_pure ⟨rfl, h2⟩ ⟨[_], [_, _], rfl, emp_star_pure ⟨rfl, h3⟩ ⟨[_], [_], rfl, emp_star_pure ⟨rfl, h4⟩ ⟨v, rfl, k⟩⟩⟩⟩⟩
theorem kOp_openM {E : World} {s : SH} {L : List HP} {w : World} {x : Op'} {cs : List Value} (H : Holds E s (kOp.M x cs :: L) w) :
    ∃ v, (cs = [.int .i64 x.kind, .string x.key, .int .i64 x.value, v, .bool x.has, .bool x.isNil] ∧ Kin.inI64 x.kind ∧ x.key.size ≤ 140737488351232 ∧ Kin.inI64 x.value) ∧ Holds E s (kI.Osl v x.list :: L) w := by
  obtain ⟨h, ⟨h1, h2, ⟨_, _, rfl, _, _, ⟨⟨rfl, k1⟩, e1⟩, ⟨_, _, rfl, _, _, ⟨⟨rfl, k2⟩, e2⟩, ⟨_, _, rfl, _, _, ⟨⟨rfl, k3⟩, e3⟩, ⟨_, _, rfl, g1, _, ⟨v, rfl, hv⟩, ⟨_, _, rfl, _, _, ⟨⟨rfl, _⟩, e4⟩, ⟨⟨rfl, _⟩, e5⟩, _, rfl⟩, d4, rfl⟩, _, rfl⟩, _, rfl⟩, _, rfl⟩, hL, d, rfl⟩, r⟩ := H.ex
  refine ⟨v, ⟨rfl, k1, k2, k3⟩, H.os, H.tape, H.output, _, ⟨g1, h2, hv, hL, ?_, ?_⟩, r⟩
  · rw [uni_emp_left e1, uni_emp_left e2, uni_emp_left e3, uni_emp_left e4] at d
    exact (disj_uni_left.1 d).1
  · rw [uni_emp_left e1, uni_emp_left e2, uni_emp_left e3, uni_emp_left e4, uni_emp_right e5]
theorem kT_openM {E : World} {s : SH} {L : List HP} {w : World} {x : Txn} {cs : List Value} (H : Holds E s (kT.M x cs :: L) w) :
    ∃ v, (cs = [.int .i64 x.proc, .int .i64 x.state, .int .i64 x.from_, .int .i64 x.to, v] ∧ Kin.inI64 x.proc ∧ Kin.inI64 x.state ∧ Kin.inI64 x.from_ ∧ Kin.inI64 x.to) ∧ Holds E s (kOp.Osl v x.ops :: L) w := by
  obtain ⟨h, ⟨h1, h2, ⟨_, _, rfl, _, _, ⟨⟨rfl, k1⟩, e1⟩, ⟨_, _, rfl, _, _, ⟨⟨rfl, k2⟩, e2⟩, ⟨_, _, rfl, _, _, ⟨⟨rfl, k3⟩, e3⟩, ⟨_, _, rfl, _, _, ⟨⟨rfl, k4⟩, e4⟩, ⟨v, rfl, hv⟩, _, rfl⟩, _, rfl⟩, _, rfl⟩, _, rfl⟩, hL, d, rfl⟩, r⟩ := H.ex
  rw [uni_emp_left e1, uni_emp_left e2, uni_emp_left e3, uni_emp_left e4] at d r
  exact ⟨v, ⟨rfl, k1, k2, k3, k4⟩, H.os, H.tape, H.output, _, ⟨_, h2, hv, hL, d, rfl⟩, r⟩
end Go.Proofs.YtemdmpgekegfhaaDoor
