/- The first forty transactions, in memory that stays. -/
import Derived.Test.YtemdmpgekegfhaaDoorSmall
namespace Go.Proofs.YtemdmpgekegfhaaDoor
open Go.RowKit
set_option linter.all false
set_option maxRecDepth 10000

theorem small_s {E : World} {s : SH} {L : List HP} {w : World} {v : Value} {xs : List Txn} (H : Holds E s L w) (hv : kT.Sl s v xs) :
    Calls Tryd.prog 47 #[v] w fun e w' => ∃ v' s', e = .returned v' ∧ Sub s s' ∧ Holds E s' L w' ∧ kT.Sl s' v' (small xs) :=
  (small_spec H hv).mono fun e w' ⟨v', s', he, hs, H'⟩ => let ⟨s2, h2, H2, h3⟩ := Kin.Osl.fr H'; ⟨v', s2, he, hs.trans h2, H2, h3⟩
theorem Small_w {E : World} {s : SH} {L : List HP} {w : World} {a0 : List Txn} {A_p0 : Option Addr} {c_p0 : Nat} (h_p0 : kT.Sl s (.slice A_p0 a0.length c_p0) a0) (H : Holds E s L w) :
    Calls Tryd.prog 47 #[.slice A_p0 a0.length c_p0] w fun e w' => ∃ A c s', e = .returned (.slice A (small a0).length c) ∧ Sub s s' ∧ kT.Sl s' (.slice A (small a0).length c) (small a0) ∧ Holds E s' L w' :=
  (small_s H h_p0).mono fun e w' ⟨v', s', he, hs, H', h3⟩ => let ⟨A, c, e2, _⟩ := id h3; ⟨A, c, s', by rw [he, e2], hs, e2 ▸ h3, H'⟩
end Go.Proofs.YtemdmpgekegfhaaDoor
