/- What errors.As answers. -/
import Derived.Test.YtemdmpgekegfhaaDoorErr
namespace Go.Proofs.YtemdmpgekegfhaaDoor
def as_f (e : Option Flt) (x : Flt) : Bool × Flt := (e.isSome, e.getD x)
end Go.Proofs.YtemdmpgekegfhaaDoor
