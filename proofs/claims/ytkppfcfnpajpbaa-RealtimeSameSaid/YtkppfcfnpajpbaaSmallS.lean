/- The first forty transactions, in memory that stays. -/
import Derived.Test.YtkppfcfnpajpbaaSmall
namespace Go.Proofs.Ytkppfcfnpajpbaa
open Go.RowKit
set_option linter.all false

theorem small_s {E : World} {s : SH} {L : List HP} {w : World} {v : Value} {xs : List Txn} (H : Holds E s L w) (hv : kT.Sl s v xs) :
    Calls Try.prog 8 #[v] w fun e w' => ∃ v' s', e = .returned v' ∧ Sub s s' ∧ Holds E s' L w' ∧ kT.Sl s' v' (small xs) :=
  (small_spec H hv).mono fun e w' ⟨v', s', he, hs, H'⟩ => let ⟨s2, h2, H2, h3⟩ := Kin.Osl.fr H'; ⟨v', s2, he, hs.trans h2, H2, h3⟩
end Go.Proofs.Ytkppfcfnpajpbaa
