/- Looks at elements of owned slices whose elements stay. -/
import Derived.Test.YtemdmpgekegfhaaDoorSlc
namespace Go.Proofs.YtemdmpgekegfhaaDoor
open Go.RowKit
set_option linter.all false
set_option maxRecDepth 10000

section
variable {E : World} {s s0 : SH} {L : List HP} {w : World} {α : Type} {d : Kin α}
theorem Holds.addr0 {v : Value} {xs : List α} (H : Holds E s (d.Osl v xs :: L) w) : ∃ A cap, v = .slice A xs.length cap ∧ xs.length ≤ cap ∧ xs.length * d.by_ ≤ 140737488355328 ∧ (xs ≠ [] → ∃ b, A = some ⟨b, 0, none⟩) := by
  rcases Holds.or_ H with H | H
  · obtain ⟨⟨e1, e2⟩, _⟩ := Holds.pure_ H
    subst e1; subst e2
    exact ⟨none, 0, rfl, Nat.le_refl _, by simp, fun h => absurd rfl h⟩
  · obtain ⟨b, H⟩ := Holds.exists_ H
    obtain ⟨cap, H⟩ := Holds.exists_ H
    obtain ⟨cur, H⟩ := Holds.exists_ H
    obtain ⟨⟨e1, h1, h2, h3, h4⟩, _⟩ := Holds.pure_ H
    exact ⟨_, cap, e1, h1, h4, fun _ => ⟨b, rfl⟩⟩
theorem rowSh_row : ∀ {xs : List α} {cs : List Value} {h : SH}, (d.sh s0).RowM xs cs h → d.Row s0 xs cs
  | [], _, _, h => h.1
  | x :: xs, _, _, ⟨c, r, e, h1, h2, a, b, _, _⟩ => ⟨c, r, e, a.1, rowSh_row b⟩
theorem Kin.Osl.readAt {b n cap : Nat} {xs : List α} (H : Holds E s ((d.sh s0).Osl (.slice (some ⟨b, 0, none⟩) n cap) xs :: L) w) (j : Nat) (hj : j < xs.length) :
    ∃ c, d.K s0 xs[j] c ∧ ∀ q u, c[q]? = some u → w.cell? ((⟨b, j * d.sz, none⟩ : Addr).add q) = some u := by
  rcases Holds.or_ H with H | H
  · obtain ⟨⟨e1, e2⟩, _⟩ := Holds.pure_ H
    cases e1
  · obtain ⟨b', H⟩ := Holds.exists_ H
    obtain ⟨cap', H⟩ := Holds.exists_ H
    obtain ⟨cur, H⟩ := Holds.exists_ H
    obtain ⟨⟨e1, h1, h2, h3, h4⟩, H1⟩ := Holds.pure_ H
    cases e1
    have H2 := H1.open_
    have hb := H2.at_pt
    have hrow : d.Row s0 xs (cur.toList.take (xs.length * d.sz)) := by
      obtain ⟨h, ⟨_, _, k, _⟩, _⟩ := H2.swap.ex
      exact rowSh_row k
    obtain ⟨c, hc, hg⟩ := hrow.get j hj
    refine ⟨c, hc, fun q u hq => ?_⟩
    have := hg q u hq
    have e : (⟨b, j * d.sz, none⟩ : Addr).add q = ⟨b, j * d.sz + q, none⟩ := by unfold Addr.add; split <;> simp_all
    rw [e]
    simp only [World.cell?, hb]
    rw [List.getElem?_take] at this
    split at this
    · simpa using this
    · cases this
end
/-- One operation of an owned slice whose elements stay. -/
theorem ownOp {E : World} {s s0 : SH} {L : List HP} {w : World} {b n cap : Nat} {xs : List Op'} (H : Holds E s ((kOp.sh s0).Osl (.slice (some ⟨b, 0, none⟩) n cap) xs :: L) w) (j : Nat) (hj : j < xs.length) :
    ∃ o Al cl, xs.drop j = o :: xs.drop (j + 1) ∧ o ∈ xs ∧ (∀ q u, ([.int .i64 o.kind, .string o.key, .int .i64 o.value, .slice Al o.list.length cl, .bool o.has, .bool o.isNil] : List Value)[q]? = some u → w.cell? ((⟨b, j * 6, none⟩ : Addr).add q) = some u) ∧
      kI.Sl s0 (.slice Al o.list.length cl) o.list ∧ Kin.inI64 o.kind ∧ o.key.size ≤ 140737488351232 ∧ Kin.inI64 o.value := by
  obtain ⟨c, hK, hC⟩ := Kin.Osl.readAt H j hj
  obtain ⟨v3, rfl, hsl, hr1, hr2, hr3⟩ := kOp_open hK
  obtain ⟨Al, cl, e, h1, h2, h3⟩ := id hsl
  subst e
  exact ⟨xs[j], Al, cl, List.drop_eq_getElem_cons hj, List.getElem_mem hj, hC, hsl, hr1, hr2, hr3⟩
end Go.Proofs.YtemdmpgekegfhaaDoor
