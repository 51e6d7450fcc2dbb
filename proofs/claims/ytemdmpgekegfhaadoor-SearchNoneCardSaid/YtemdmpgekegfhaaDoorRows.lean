/-
  NARROWER THAN 'FOR EVERY INPUT', by the rows' own cells (each row's printed sentence says how): CompsLeads: laid · CompsOrders: laid · DepsGraph: laid · PairTells: laid · PairOne: laid · PairApart: laid · ModelTexts: laid · ModelJoins: laid · ModelNobody: laid · SearchWhole: laid · SearchMore: laid · SearchNone: laid · SearchYes: laid · SearchServed: laid · SearchTurned: laid.
  DERIVED. THE GIVEN ROWS OF THIS SEAT. 15 by the template 'for every input the law returns true; each argument reads behind the call as it read before'; 0 by the template 'total and deterministic' (their statements: YtemdmpgekegfhaaDoorTotals.lean).
  GIVEN WITH THE SEED: the statements are not yours to turn. If you find one false, say at which input.
  Laid BY PROGRAM, IN A SANDBOX (cutbox-rows.mjs): the forced cells as the released guide's own fill.sh prints them over the translation 3ecb8117cab1d73f… (all of the seat's roots in one cut). By AI agents, Wed Nov 11 2026. No macro, syntax, notation, axiom, sorry.
-/
import Derived.Test.YtemdmpgekegfhaaDoorChecked
import GoSem.Claim
import GoSem.ClaimJoined
import GoSem.ClaimMapViews
import Derived.JoinedTies
import Derived.KernelRfl
namespace Go.Proofs.YtemdmpgekegfhaaDoor
/- THE CELL 'sum', in the pinned program and in every row, IS THE sha256 OF THE DUMP (.gsa) THAT YtemdmpgekegfhaaDoorProg.lean LOADS. Nothing in Lean hashes anything: it is a label: what it is worth is what the hold of that sum in a sandbox is worth. -/
noncomputable def Tryd.pinned : Pinned := { name := "ytemdmpgekegfhaadoor", sum := "3ecb8117cab1d73f9b5ab18dc31f6dc937c2f2570a252471e699df04ff8edcdc", checked := Tryd.checked }
namespace Rows
def none {H : Type} : Left H := { results := [], args := [] }

/- WHAT THE LISTED PACKAGE-LEVEL VARIABLES READ AS WHEN THE CALL BEGINS. Each datum BY PROGRAM (the guide's laid-datum.mjs) off the statement by which the dump's own 'gosem.cut.vars' lays the variable. In a bare row this is a premise. The card (YtemdmpgekegfhaaDoorCards.lean) ties it to the program's text. -/
def laid_math_bits_deBruijn64tab {H : Type} : DataW H := .agg [.lit (.int .u8 0), .lit (.int .u8 1), .lit (.int .u8 56), .lit (.int .u8 2), .lit (.int .u8 57), .lit (.int .u8 49), .lit (.int .u8 28), .lit (.int .u8 3), .lit (.int .u8 61), .lit (.int .u8 58), .lit (.int .u8 42), .lit (.int .u8 50), .lit (.int .u8 38), .lit (.int .u8 29), .lit (.int .u8 17), .lit (.int .u8 4), .lit (.int .u8 62), .lit (.int .u8 47), .lit (.int .u8 59), .lit (.int .u8 36), .lit (.int .u8 45), .lit (.int .u8 43), .lit (.int .u8 51), .lit (.int .u8 22), .lit (.int .u8 53), .lit (.int .u8 39), .lit (.int .u8 33), .lit (.int .u8 30), .lit (.int .u8 24), .lit (.int .u8 18), .lit (.int .u8 12), .lit (.int .u8 5), .lit (.int .u8 63), .lit (.int .u8 55), .lit (.int .u8 48), .lit (.int .u8 27), .lit (.int .u8 60), .lit (.int .u8 41), .lit (.int .u8 37), .lit (.int .u8 16), .lit (.int .u8 46), .lit (.int .u8 35), .lit (.int .u8 44), .lit (.int .u8 21), .lit (.int .u8 52), .lit (.int .u8 32), .lit (.int .u8 23), .lit (.int .u8 11), .lit (.int .u8 54), .lit (.int .u8 26), .lit (.int .u8 40), .lit (.int .u8 15), .lit (.int .u8 34), .lit (.int .u8 20), .lit (.int .u8 31), .lit (.int .u8 10), .lit (.int .u8 25), .lit (.int .u8 14), .lit (.int .u8 19), .lit (.int .u8 9), .lit (.int .u8 13), .lit (.int .u8 8), .lit (.int .u8 7), .lit (.int .u8 6)]
def laid_errors_errorType {H : Type} : DataW H := .iface "internal/reflectlite.rtype" (.agg [.ptr (.lit (.string [101, 114, 114, 111, 114]))])
def laid_math_bits_deBruijn32tab {H : Type} : DataW H := .agg [.lit (.int .u8 0), .lit (.int .u8 1), .lit (.int .u8 28), .lit (.int .u8 2), .lit (.int .u8 29), .lit (.int .u8 14), .lit (.int .u8 24), .lit (.int .u8 3), .lit (.int .u8 30), .lit (.int .u8 22), .lit (.int .u8 20), .lit (.int .u8 15), .lit (.int .u8 25), .lit (.int .u8 17), .lit (.int .u8 4), .lit (.int .u8 8), .lit (.int .u8 31), .lit (.int .u8 27), .lit (.int .u8 13), .lit (.int .u8 23), .lit (.int .u8 21), .lit (.int .u8 19), .lit (.int .u8 16), .lit (.int .u8 7), .lit (.int .u8 26), .lit (.int .u8 12), .lit (.int .u8 18), .lit (.int .u8 6), .lit (.int .u8 11), .lit (.int .u8 5), .lit (.int .u8 10), .lit (.int .u8 9)]
def laid_internal_strconv_uint64pow10 {H : Type} : DataW H := .agg [.lit (.int .u64 1), .lit (.int .u64 10), .lit (.int .u64 100), .lit (.int .u64 1000), .lit (.int .u64 10000), .lit (.int .u64 100000), .lit (.int .u64 1000000), .lit (.int .u64 10000000), .lit (.int .u64 100000000), .lit (.int .u64 1000000000), .lit (.int .u64 10000000000), .lit (.int .u64 100000000000), .lit (.int .u64 1000000000000), .lit (.int .u64 10000000000000), .lit (.int .u64 100000000000000), .lit (.int .u64 1000000000000000), .lit (.int .u64 10000000000000000), .lit (.int .u64 100000000000000000), .lit (.int .u64 1000000000000000000), .lit (.int .u64 10000000000000000000)]

/-- 'assayerlaw07.CompsLeads': WHATEVER THE INPUT: true; the input reads as it did. -/
def compsLeadsSpec : ChangeSpec := { name := "compsLeads", fn := fun _ => fun
  | [d1, d2, d3] => { results := [.lit (.bool true)], args := [d1, d2, d3] }
  | _ => none }
def compsLeadsRow : OpenClaim := { program := "ytemdmpgekegfhaadoor", sum := "3ecb8117cab1d73f9b5ab18dc31f6dc937c2f2570a252471e699df04ff8edcdc", func := "assayer/assayerlaw07.CompsLeads", spec := "compsLeads", unfollowed := true, recurses := true, named := ["math/bits.deBruijn64tab"], plainKeys := false, apart := false, laid := [("math/bits.deBruijn64tab", laid_math_bits_deBruijn64tab)] }
def CompsLeadsSaid : Prop := compsLeadsRow.holds Tryd.pinned (OpenSpec.ofChange compsLeadsSpec)

/-- ITS FALSE NEIGHBOUR: 'it returns false'. Refute it at one input. -/
def compsLeadsWrong : ChangeSpec := { name := "compsLeads", fn := fun _ => fun
  | [d1, d2, d3] => { results := [.lit (.bool false)], args := [d1, d2, d3] }
  | _ => none }
def CompsLeadsWrongFalsely : Prop := compsLeadsRow.holds Tryd.pinned (OpenSpec.ofChange compsLeadsWrong)

/-- 'assayerlaw07.CompsOrders': WHATEVER THE INPUT: true; the input reads as it did. -/
def compsOrdersSpec : ChangeSpec := { name := "compsOrders", fn := fun _ => fun
  | [d1, d2, d3] => { results := [.lit (.bool true)], args := [d1, d2, d3] }
  | _ => none }
def compsOrdersRow : OpenClaim := { program := "ytemdmpgekegfhaadoor", sum := "3ecb8117cab1d73f9b5ab18dc31f6dc937c2f2570a252471e699df04ff8edcdc", func := "assayer/assayerlaw07.CompsOrders", spec := "compsOrders", unfollowed := true, recurses := true, named := ["math/bits.deBruijn64tab"], plainKeys := false, apart := false, laid := [("math/bits.deBruijn64tab", laid_math_bits_deBruijn64tab)] }
def CompsOrdersSaid : Prop := compsOrdersRow.holds Tryd.pinned (OpenSpec.ofChange compsOrdersSpec)

/-- ITS FALSE NEIGHBOUR: 'it returns false'. Refute it at one input. -/
def compsOrdersWrong : ChangeSpec := { name := "compsOrders", fn := fun _ => fun
  | [d1, d2, d3] => { results := [.lit (.bool false)], args := [d1, d2, d3] }
  | _ => none }
def CompsOrdersWrongFalsely : Prop := compsOrdersRow.holds Tryd.pinned (OpenSpec.ofChange compsOrdersWrong)

/-- 'assayerlaw14.DepsGraph': WHATEVER THE INPUT: true; the input reads as it did. -/
def depsGraphSpec : ChangeSpec := { name := "depsGraph", fn := fun _ => fun
  | [d1, d2] => { results := [.lit (.bool true)], args := [d1, d2] }
  | _ => none }
def depsGraphRow : OpenClaim := { program := "ytemdmpgekegfhaadoor", sum := "3ecb8117cab1d73f9b5ab18dc31f6dc937c2f2570a252471e699df04ff8edcdc", func := "assayer/assayerlaw14.DepsGraph", spec := "depsGraph", unfollowed := true, recurses := true, named := ["math/bits.deBruijn64tab"], plainKeys := false, apart := false, laid := [("math/bits.deBruijn64tab", laid_math_bits_deBruijn64tab)] }
def DepsGraphSaid : Prop := depsGraphRow.holds Tryd.pinned (OpenSpec.ofChange depsGraphSpec)

/-- ITS FALSE NEIGHBOUR: 'it returns false'. Refute it at one input. -/
def depsGraphWrong : ChangeSpec := { name := "depsGraph", fn := fun _ => fun
  | [d1, d2] => { results := [.lit (.bool false)], args := [d1, d2] }
  | _ => none }
def DepsGraphWrongFalsely : Prop := depsGraphRow.holds Tryd.pinned (OpenSpec.ofChange depsGraphWrong)

/-- 'assayerlaw03.PairTells': WHATEVER THE INPUT: true; the input reads as it did. -/
def pairTellsSpec : ChangeSpec := { name := "pairTells", fn := fun _ => fun
  | [d] => { results := [.lit (.bool true)], args := [d] }
  | _ => none }
def pairTellsRow : OpenClaim := { program := "ytemdmpgekegfhaadoor", sum := "3ecb8117cab1d73f9b5ab18dc31f6dc937c2f2570a252471e699df04ff8edcdc", func := "assayer/assayerlaw03.PairTells", spec := "pairTells", inPlace := ["internal/reflectlite.ValueOf", "(internal/reflectlite.Value).Type", "(internal/reflectlite.Value).IsNil", "internal/reflectlite.TypeOf", "(internal/reflectlite.Value).Elem", "(internal/reflectlite.Value).Set"], unfollowed := true, recurses := true, named := ["errors.errorType"], plainKeys := false, apart := false, laid := [("errors.errorType", laid_errors_errorType)] }
def PairTellsSaid : Prop := pairTellsRow.holds Tryd.pinned (OpenSpec.ofChange pairTellsSpec)

/-- ITS FALSE NEIGHBOUR: 'it returns false'. Refute it at one input. -/
def pairTellsWrong : ChangeSpec := { name := "pairTells", fn := fun _ => fun
  | [d] => { results := [.lit (.bool false)], args := [d] }
  | _ => none }
def PairTellsWrongFalsely : Prop := pairTellsRow.holds Tryd.pinned (OpenSpec.ofChange pairTellsWrong)

/-- 'assayerlaw03.PairOne': WHATEVER THE INPUT: true; the input reads as it did. -/
def pairOneSpec : ChangeSpec := { name := "pairOne", fn := fun _ => fun
  | [d] => { results := [.lit (.bool true)], args := [d] }
  | _ => none }
def pairOneRow : OpenClaim := { program := "ytemdmpgekegfhaadoor", sum := "3ecb8117cab1d73f9b5ab18dc31f6dc937c2f2570a252471e699df04ff8edcdc", func := "assayer/assayerlaw03.PairOne", spec := "pairOne", inPlace := ["internal/reflectlite.ValueOf", "(internal/reflectlite.Value).Type", "(internal/reflectlite.Value).IsNil", "internal/reflectlite.TypeOf", "(internal/reflectlite.Value).Elem", "(internal/reflectlite.Value).Set"], unfollowed := true, recurses := true, named := ["errors.errorType"], plainKeys := false, apart := false, laid := [("errors.errorType", laid_errors_errorType)] }
def PairOneSaid : Prop := pairOneRow.holds Tryd.pinned (OpenSpec.ofChange pairOneSpec)

/-- ITS FALSE NEIGHBOUR: 'it returns false'. Refute it at one input. -/
def pairOneWrong : ChangeSpec := { name := "pairOne", fn := fun _ => fun
  | [d] => { results := [.lit (.bool false)], args := [d] }
  | _ => none }
def PairOneWrongFalsely : Prop := pairOneRow.holds Tryd.pinned (OpenSpec.ofChange pairOneWrong)

/-- 'assayerlaw03.PairApart': WHATEVER THE INPUT: true; the input reads as it did. -/
def pairApartSpec : ChangeSpec := { name := "pairApart", fn := fun _ => fun
  | [d1, d2] => { results := [.lit (.bool true)], args := [d1, d2] }
  | _ => none }
def pairApartRow : OpenClaim := { program := "ytemdmpgekegfhaadoor", sum := "3ecb8117cab1d73f9b5ab18dc31f6dc937c2f2570a252471e699df04ff8edcdc", func := "assayer/assayerlaw03.PairApart", spec := "pairApart", inPlace := ["internal/reflectlite.ValueOf", "(internal/reflectlite.Value).Type", "(internal/reflectlite.Value).IsNil", "internal/reflectlite.TypeOf", "(internal/reflectlite.Value).Elem", "(internal/reflectlite.Value).Set"], unfollowed := true, recurses := true, named := ["errors.errorType"], plainKeys := false, apart := false, laid := [("errors.errorType", laid_errors_errorType)] }
def PairApartSaid : Prop := pairApartRow.holds Tryd.pinned (OpenSpec.ofChange pairApartSpec)

/-- ITS FALSE NEIGHBOUR: 'it returns false'. Refute it at one input. -/
def pairApartWrong : ChangeSpec := { name := "pairApart", fn := fun _ => fun
  | [d1, d2] => { results := [.lit (.bool false)], args := [d1, d2] }
  | _ => none }
def PairApartWrongFalsely : Prop := pairApartRow.holds Tryd.pinned (OpenSpec.ofChange pairApartWrong)

/-- 'assayerlaw16.ModelTexts': WHATEVER THE INPUT: true; the input reads as it did. -/
def modelTextsSpec : ChangeSpec := { name := "modelTexts", fn := fun _ => fun
  | [d1, d2] => { results := [.lit (.bool true)], args := [d1, d2] }
  | _ => none }
def modelTextsRow : OpenClaim := { program := "ytemdmpgekegfhaadoor", sum := "3ecb8117cab1d73f9b5ab18dc31f6dc937c2f2570a252471e699df04ff8edcdc", func := "assayer/assayerlaw16.ModelTexts", spec := "modelTexts", inPlace := ["maps.clone", "internal/abi.NoEscape"], unfollowed := true, recurses := true, named := ["internal/strconv.uint64pow10", "math/bits.deBruijn32tab", "math/bits.deBruijn64tab"], plainKeys := false, apart := false, laid := [("math/bits.deBruijn32tab", laid_math_bits_deBruijn32tab), ("math/bits.deBruijn64tab", laid_math_bits_deBruijn64tab), ("internal/strconv.uint64pow10", laid_internal_strconv_uint64pow10)] }
def ModelTextsSaid : Prop := modelTextsRow.holds Tryd.pinned (OpenSpec.ofChange modelTextsSpec)

/-- ITS FALSE NEIGHBOUR: 'it returns false'. Refute it at one input. -/
def modelTextsWrong : ChangeSpec := { name := "modelTexts", fn := fun _ => fun
  | [d1, d2] => { results := [.lit (.bool false)], args := [d1, d2] }
  | _ => none }
def ModelTextsWrongFalsely : Prop := modelTextsRow.holds Tryd.pinned (OpenSpec.ofChange modelTextsWrong)

/-- 'assayerlaw16.ModelJoins': WHATEVER THE INPUT: true; the input reads as it did. -/
def modelJoinsSpec : ChangeSpec := { name := "modelJoins", fn := fun _ => fun
  | [d1, d2, d3] => { results := [.lit (.bool true)], args := [d1, d2, d3] }
  | _ => none }
def modelJoinsRow : OpenClaim := { program := "ytemdmpgekegfhaadoor", sum := "3ecb8117cab1d73f9b5ab18dc31f6dc937c2f2570a252471e699df04ff8edcdc", func := "assayer/assayerlaw16.ModelJoins", spec := "modelJoins", inPlace := ["maps.clone", "internal/abi.NoEscape"], unfollowed := true, recurses := true, named := ["internal/strconv.uint64pow10", "math/bits.deBruijn32tab", "math/bits.deBruijn64tab"], plainKeys := false, apart := false, laid := [("math/bits.deBruijn32tab", laid_math_bits_deBruijn32tab), ("math/bits.deBruijn64tab", laid_math_bits_deBruijn64tab), ("internal/strconv.uint64pow10", laid_internal_strconv_uint64pow10)] }
def ModelJoinsSaid : Prop := modelJoinsRow.holds Tryd.pinned (OpenSpec.ofChange modelJoinsSpec)

/-- ITS FALSE NEIGHBOUR: 'it returns false'. Refute it at one input. -/
def modelJoinsWrong : ChangeSpec := { name := "modelJoins", fn := fun _ => fun
  | [d1, d2, d3] => { results := [.lit (.bool false)], args := [d1, d2, d3] }
  | _ => none }
def ModelJoinsWrongFalsely : Prop := modelJoinsRow.holds Tryd.pinned (OpenSpec.ofChange modelJoinsWrong)

/-- 'assayerlaw16.ModelNobody': WHATEVER THE INPUT: true; the input reads as it did. -/
def modelNobodySpec : ChangeSpec := { name := "modelNobody", fn := fun _ => fun
  | [d] => { results := [.lit (.bool true)], args := [d] }
  | _ => none }
def modelNobodyRow : OpenClaim := { program := "ytemdmpgekegfhaadoor", sum := "3ecb8117cab1d73f9b5ab18dc31f6dc937c2f2570a252471e699df04ff8edcdc", func := "assayer/assayerlaw16.ModelNobody", spec := "modelNobody", inPlace := ["maps.clone", "internal/abi.NoEscape"], unfollowed := true, recurses := true, named := ["internal/strconv.uint64pow10", "math/bits.deBruijn32tab", "math/bits.deBruijn64tab"], plainKeys := false, apart := false, laid := [("math/bits.deBruijn32tab", laid_math_bits_deBruijn32tab), ("math/bits.deBruijn64tab", laid_math_bits_deBruijn64tab), ("internal/strconv.uint64pow10", laid_internal_strconv_uint64pow10)] }
def ModelNobodySaid : Prop := modelNobodyRow.holds Tryd.pinned (OpenSpec.ofChange modelNobodySpec)

/-- ITS FALSE NEIGHBOUR: 'it returns false'. Refute it at one input. -/
def modelNobodyWrong : ChangeSpec := { name := "modelNobody", fn := fun _ => fun
  | [d] => { results := [.lit (.bool false)], args := [d] }
  | _ => none }
def ModelNobodyWrongFalsely : Prop := modelNobodyRow.holds Tryd.pinned (OpenSpec.ofChange modelNobodyWrong)

/-- 'assayerlaw17.SearchWhole': WHATEVER THE INPUT: true; the input reads as it did. -/
def searchWholeSpec : ChangeSpec := { name := "searchWhole", fn := fun _ => fun
  | [d] => { results := [.lit (.bool true)], args := [d] }
  | _ => none }
def searchWholeRow : OpenClaim := { program := "ytemdmpgekegfhaadoor", sum := "3ecb8117cab1d73f9b5ab18dc31f6dc937c2f2570a252471e699df04ff8edcdc", func := "assayer/assayerlaw17.SearchWhole", spec := "searchWhole", inPlace := ["maps.clone", "internal/abi.NoEscape"], unfollowed := true, recurses := true, named := ["math/bits.deBruijn64tab", "internal/strconv.uint64pow10", "math/bits.deBruijn32tab"], plainKeys := false, apart := false, laid := [("math/bits.deBruijn32tab", laid_math_bits_deBruijn32tab), ("math/bits.deBruijn64tab", laid_math_bits_deBruijn64tab), ("internal/strconv.uint64pow10", laid_internal_strconv_uint64pow10)] }
def SearchWholeSaid : Prop := searchWholeRow.holds Tryd.pinned (OpenSpec.ofChange searchWholeSpec)

/-- ITS FALSE NEIGHBOUR: 'it returns false'. Refute it at one input. -/
def searchWholeWrong : ChangeSpec := { name := "searchWhole", fn := fun _ => fun
  | [d] => { results := [.lit (.bool false)], args := [d] }
  | _ => none }
def SearchWholeWrongFalsely : Prop := searchWholeRow.holds Tryd.pinned (OpenSpec.ofChange searchWholeWrong)

/-- 'assayerlaw17.SearchMore': WHATEVER THE INPUT: true; the input reads as it did. -/
def searchMoreSpec : ChangeSpec := { name := "searchMore", fn := fun _ => fun
  | [d1, d2, d3] => { results := [.lit (.bool true)], args := [d1, d2, d3] }
  | _ => none }
def searchMoreRow : OpenClaim := { program := "ytemdmpgekegfhaadoor", sum := "3ecb8117cab1d73f9b5ab18dc31f6dc937c2f2570a252471e699df04ff8edcdc", func := "assayer/assayerlaw17.SearchMore", spec := "searchMore", inPlace := ["maps.clone", "internal/abi.NoEscape"], unfollowed := true, recurses := true, named := ["math/bits.deBruijn64tab", "internal/strconv.uint64pow10", "math/bits.deBruijn32tab"], plainKeys := false, apart := false, laid := [("math/bits.deBruijn32tab", laid_math_bits_deBruijn32tab), ("math/bits.deBruijn64tab", laid_math_bits_deBruijn64tab), ("internal/strconv.uint64pow10", laid_internal_strconv_uint64pow10)] }
def SearchMoreSaid : Prop := searchMoreRow.holds Tryd.pinned (OpenSpec.ofChange searchMoreSpec)

/-- ITS FALSE NEIGHBOUR: 'it returns false'. Refute it at one input. -/
def searchMoreWrong : ChangeSpec := { name := "searchMore", fn := fun _ => fun
  | [d1, d2, d3] => { results := [.lit (.bool false)], args := [d1, d2, d3] }
  | _ => none }
def SearchMoreWrongFalsely : Prop := searchMoreRow.holds Tryd.pinned (OpenSpec.ofChange searchMoreWrong)

/-- 'assayerlaw17.SearchNone': WHATEVER THE INPUT: true; the input reads as it did. -/
def searchNoneSpec : ChangeSpec := { name := "searchNone", fn := fun _ => fun
  | [d1, d2] => { results := [.lit (.bool true)], args := [d1, d2] }
  | _ => none }
def searchNoneRow : OpenClaim := { program := "ytemdmpgekegfhaadoor", sum := "3ecb8117cab1d73f9b5ab18dc31f6dc937c2f2570a252471e699df04ff8edcdc", func := "assayer/assayerlaw17.SearchNone", spec := "searchNone", inPlace := ["maps.clone", "internal/abi.NoEscape"], unfollowed := true, recurses := true, named := ["math/bits.deBruijn64tab", "internal/strconv.uint64pow10", "math/bits.deBruijn32tab"], plainKeys := false, apart := false, laid := [("math/bits.deBruijn32tab", laid_math_bits_deBruijn32tab), ("math/bits.deBruijn64tab", laid_math_bits_deBruijn64tab), ("internal/strconv.uint64pow10", laid_internal_strconv_uint64pow10)] }
def SearchNoneSaid : Prop := searchNoneRow.holds Tryd.pinned (OpenSpec.ofChange searchNoneSpec)

/-- ITS FALSE NEIGHBOUR: 'it returns false'. Refute it at one input. -/
def searchNoneWrong : ChangeSpec := { name := "searchNone", fn := fun _ => fun
  | [d1, d2] => { results := [.lit (.bool false)], args := [d1, d2] }
  | _ => none }
def SearchNoneWrongFalsely : Prop := searchNoneRow.holds Tryd.pinned (OpenSpec.ofChange searchNoneWrong)

/-- 'assayerlaw17.SearchYes': WHATEVER THE INPUT: true; the input reads as it did. -/
def searchYesSpec : ChangeSpec := { name := "searchYes", fn := fun _ => fun
  | [d1, d2] => { results := [.lit (.bool true)], args := [d1, d2] }
  | _ => none }
def searchYesRow : OpenClaim := { program := "ytemdmpgekegfhaadoor", sum := "3ecb8117cab1d73f9b5ab18dc31f6dc937c2f2570a252471e699df04ff8edcdc", func := "assayer/assayerlaw17.SearchYes", spec := "searchYes", inPlace := ["maps.clone", "internal/abi.NoEscape"], unfollowed := true, recurses := true, named := ["math/bits.deBruijn64tab", "internal/strconv.uint64pow10", "math/bits.deBruijn32tab"], plainKeys := false, apart := false, laid := [("math/bits.deBruijn32tab", laid_math_bits_deBruijn32tab), ("math/bits.deBruijn64tab", laid_math_bits_deBruijn64tab), ("internal/strconv.uint64pow10", laid_internal_strconv_uint64pow10)] }
def SearchYesSaid : Prop := searchYesRow.holds Tryd.pinned (OpenSpec.ofChange searchYesSpec)

/-- ITS FALSE NEIGHBOUR: 'it returns false'. Refute it at one input. -/
def searchYesWrong : ChangeSpec := { name := "searchYes", fn := fun _ => fun
  | [d1, d2] => { results := [.lit (.bool false)], args := [d1, d2] }
  | _ => none }
def SearchYesWrongFalsely : Prop := searchYesRow.holds Tryd.pinned (OpenSpec.ofChange searchYesWrong)

/-- 'assayerlaw17.SearchServed': WHATEVER THE INPUT: true; the input reads as it did. -/
def searchServedSpec : ChangeSpec := { name := "searchServed", fn := fun _ => fun
  | [d] => { results := [.lit (.bool true)], args := [d] }
  | _ => none }
def searchServedRow : OpenClaim := { program := "ytemdmpgekegfhaadoor", sum := "3ecb8117cab1d73f9b5ab18dc31f6dc937c2f2570a252471e699df04ff8edcdc", func := "assayer/assayerlaw17.SearchServed", spec := "searchServed", inPlace := ["maps.clone", "internal/abi.NoEscape"], unfollowed := true, recurses := true, named := ["math/bits.deBruijn64tab", "internal/strconv.uint64pow10", "math/bits.deBruijn32tab"], plainKeys := false, apart := false, laid := [("math/bits.deBruijn32tab", laid_math_bits_deBruijn32tab), ("math/bits.deBruijn64tab", laid_math_bits_deBruijn64tab), ("internal/strconv.uint64pow10", laid_internal_strconv_uint64pow10)] }
def SearchServedSaid : Prop := searchServedRow.holds Tryd.pinned (OpenSpec.ofChange searchServedSpec)

/-- ITS FALSE NEIGHBOUR: 'it returns false'. Refute it at one input. -/
def searchServedWrong : ChangeSpec := { name := "searchServed", fn := fun _ => fun
  | [d] => { results := [.lit (.bool false)], args := [d] }
  | _ => none }
def SearchServedWrongFalsely : Prop := searchServedRow.holds Tryd.pinned (OpenSpec.ofChange searchServedWrong)

/-- 'assayerlaw17.SearchTurned': WHATEVER THE INPUT: true; the input reads as it did. -/
def searchTurnedSpec : ChangeSpec := { name := "searchTurned", fn := fun _ => fun
  | [d] => { results := [.lit (.bool true)], args := [d] }
  | _ => none }
def searchTurnedRow : OpenClaim := { program := "ytemdmpgekegfhaadoor", sum := "3ecb8117cab1d73f9b5ab18dc31f6dc937c2f2570a252471e699df04ff8edcdc", func := "assayer/assayerlaw17.SearchTurned", spec := "searchTurned", inPlace := ["maps.clone", "internal/abi.NoEscape"], unfollowed := true, recurses := true, named := ["math/bits.deBruijn64tab", "internal/strconv.uint64pow10", "math/bits.deBruijn32tab"], plainKeys := false, apart := false, laid := [("math/bits.deBruijn32tab", laid_math_bits_deBruijn32tab), ("math/bits.deBruijn64tab", laid_math_bits_deBruijn64tab), ("internal/strconv.uint64pow10", laid_internal_strconv_uint64pow10)] }
def SearchTurnedSaid : Prop := searchTurnedRow.holds Tryd.pinned (OpenSpec.ofChange searchTurnedSpec)

/-- ITS FALSE NEIGHBOUR: 'it returns false'. Refute it at one input. -/
def searchTurnedWrong : ChangeSpec := { name := "searchTurned", fn := fun _ => fun
  | [d] => { results := [.lit (.bool false)], args := [d] }
  | _ => none }
def SearchTurnedWrongFalsely : Prop := searchTurnedRow.holds Tryd.pinned (OpenSpec.ofChange searchTurnedWrong)

/- THE SECOND FORM. 'bulk': how many values and letters a reading holds, each counted each time it is reached (what is shared counts as often as it is met; a slice's spare places count too). A statement '..UptoSaid' is the law's where the arguments, and the package variables that the reading takes, are together of bulk at most 1048576: NARROWER than '..Said'. Prove '..Said' where nothing that the law and all that it calls make is longer than what came in: it says more and counts as full. Else prove '..UptoSaid'. A law counts once. -/
mutual
def uptoBulk {H : Type} : DataW H → Nat
  | .lit (.string bytes) => bytes.length + 1
  | .lit _ => 1
  | .nil => 1
  | .ptr d => uptoBulk d + 1
  | .slice elems spare => uptoBulkAll elems + uptoBulkAll spare + 1
  | .agg parts => uptoBulkAll parts + 1
  | .iface _ d => uptoBulk d + 1
  | .map entries => uptoBulkEntries entries + 1
  | .held _ => 1
def uptoBulkAll {H : Type} : List (DataW H) → Nat
  | [] => 0
  | d :: r => uptoBulk d + uptoBulkAll r
def uptoBulkEntries {H : Type} : List (Lit × DataW H) → Nat
  | [] => 0
  | x :: r => uptoBulkEntry x + uptoBulkEntries r
def uptoBulkEntry {H : Type} : Lit × DataW H → Nat
  | (.string bytes, d) => bytes.length + uptoBulk d + 1
  | (_, d) => uptoBulk d + 1
 end
def uptoSmall : (H : Type) → List (DataW H) → Bool := fun _ ds => decide (uptoBulkAll ds ≤ 1048576)
def OpenSpec.upto (s : _root_.Go.ChangeSpec) : _root_.Go.OpenSpec := { _root_.Go.OpenSpec.ofChange s with cond := some uptoSmall }

/-- 'assayerlaw07.CompsLeads', WHERE WHAT IT READS IS OF BULK AT MOST 1048576: true; the input reads as it did. -/
def compsLeadsUptoRow : OpenClaim := { program := "ytemdmpgekegfhaadoor", sum := "3ecb8117cab1d73f9b5ab18dc31f6dc937c2f2570a252471e699df04ff8edcdc", func := "assayer/assayerlaw07.CompsLeads", spec := "compsLeads", unfollowed := true, recurses := true, named := ["math/bits.deBruijn64tab"], plainKeys := false, apart := false, laid := [("math/bits.deBruijn64tab", laid_math_bits_deBruijn64tab)], narrowed := true }
def CompsLeadsUptoSaid : Prop := compsLeadsUptoRow.holds Tryd.pinned (OpenSpec.upto compsLeadsSpec)

/-- 'assayerlaw07.CompsOrders', WHERE WHAT IT READS IS OF BULK AT MOST 1048576: true; the input reads as it did. -/
def compsOrdersUptoRow : OpenClaim := { program := "ytemdmpgekegfhaadoor", sum := "3ecb8117cab1d73f9b5ab18dc31f6dc937c2f2570a252471e699df04ff8edcdc", func := "assayer/assayerlaw07.CompsOrders", spec := "compsOrders", unfollowed := true, recurses := true, named := ["math/bits.deBruijn64tab"], plainKeys := false, apart := false, laid := [("math/bits.deBruijn64tab", laid_math_bits_deBruijn64tab)], narrowed := true }
def CompsOrdersUptoSaid : Prop := compsOrdersUptoRow.holds Tryd.pinned (OpenSpec.upto compsOrdersSpec)

/-- 'assayerlaw14.DepsGraph', WHERE WHAT IT READS IS OF BULK AT MOST 1048576: true; the input reads as it did. -/
def depsGraphUptoRow : OpenClaim := { program := "ytemdmpgekegfhaadoor", sum := "3ecb8117cab1d73f9b5ab18dc31f6dc937c2f2570a252471e699df04ff8edcdc", func := "assayer/assayerlaw14.DepsGraph", spec := "depsGraph", unfollowed := true, recurses := true, named := ["math/bits.deBruijn64tab"], plainKeys := false, apart := false, laid := [("math/bits.deBruijn64tab", laid_math_bits_deBruijn64tab)], narrowed := true }
def DepsGraphUptoSaid : Prop := depsGraphUptoRow.holds Tryd.pinned (OpenSpec.upto depsGraphSpec)

/-- 'assayerlaw03.PairTells', WHERE WHAT IT READS IS OF BULK AT MOST 1048576: true; the input reads as it did. -/
def pairTellsUptoRow : OpenClaim := { program := "ytemdmpgekegfhaadoor", sum := "3ecb8117cab1d73f9b5ab18dc31f6dc937c2f2570a252471e699df04ff8edcdc", func := "assayer/assayerlaw03.PairTells", spec := "pairTells", inPlace := ["internal/reflectlite.ValueOf", "(internal/reflectlite.Value).Type", "(internal/reflectlite.Value).IsNil", "internal/reflectlite.TypeOf", "(internal/reflectlite.Value).Elem", "(internal/reflectlite.Value).Set"], unfollowed := true, recurses := true, named := ["errors.errorType"], plainKeys := false, apart := false, laid := [("errors.errorType", laid_errors_errorType)], narrowed := true }
def PairTellsUptoSaid : Prop := pairTellsUptoRow.holds Tryd.pinned (OpenSpec.upto pairTellsSpec)

/-- 'assayerlaw03.PairOne', WHERE WHAT IT READS IS OF BULK AT MOST 1048576: true; the input reads as it did. -/
def pairOneUptoRow : OpenClaim := { program := "ytemdmpgekegfhaadoor", sum := "3ecb8117cab1d73f9b5ab18dc31f6dc937c2f2570a252471e699df04ff8edcdc", func := "assayer/assayerlaw03.PairOne", spec := "pairOne", inPlace := ["internal/reflectlite.ValueOf", "(internal/reflectlite.Value).Type", "(internal/reflectlite.Value).IsNil", "internal/reflectlite.TypeOf", "(internal/reflectlite.Value).Elem", "(internal/reflectlite.Value).Set"], unfollowed := true, recurses := true, named := ["errors.errorType"], plainKeys := false, apart := false, laid := [("errors.errorType", laid_errors_errorType)], narrowed := true }
def PairOneUptoSaid : Prop := pairOneUptoRow.holds Tryd.pinned (OpenSpec.upto pairOneSpec)

/-- 'assayerlaw03.PairApart', WHERE WHAT IT READS IS OF BULK AT MOST 1048576: true; the input reads as it did. -/
def pairApartUptoRow : OpenClaim := { program := "ytemdmpgekegfhaadoor", sum := "3ecb8117cab1d73f9b5ab18dc31f6dc937c2f2570a252471e699df04ff8edcdc", func := "assayer/assayerlaw03.PairApart", spec := "pairApart", inPlace := ["internal/reflectlite.ValueOf", "(internal/reflectlite.Value).Type", "(internal/reflectlite.Value).IsNil", "internal/reflectlite.TypeOf", "(internal/reflectlite.Value).Elem", "(internal/reflectlite.Value).Set"], unfollowed := true, recurses := true, named := ["errors.errorType"], plainKeys := false, apart := false, laid := [("errors.errorType", laid_errors_errorType)], narrowed := true }
def PairApartUptoSaid : Prop := pairApartUptoRow.holds Tryd.pinned (OpenSpec.upto pairApartSpec)

/-- 'assayerlaw16.ModelTexts', WHERE WHAT IT READS IS OF BULK AT MOST 1048576: true; the input reads as it did. -/
def modelTextsUptoRow : OpenClaim := { program := "ytemdmpgekegfhaadoor", sum := "3ecb8117cab1d73f9b5ab18dc31f6dc937c2f2570a252471e699df04ff8edcdc", func := "assayer/assayerlaw16.ModelTexts", spec := "modelTexts", inPlace := ["maps.clone", "internal/abi.NoEscape"], unfollowed := true, recurses := true, named := ["internal/strconv.uint64pow10", "math/bits.deBruijn32tab", "math/bits.deBruijn64tab"], plainKeys := false, apart := false, laid := [("math/bits.deBruijn32tab", laid_math_bits_deBruijn32tab), ("math/bits.deBruijn64tab", laid_math_bits_deBruijn64tab), ("internal/strconv.uint64pow10", laid_internal_strconv_uint64pow10)], narrowed := true }
def ModelTextsUptoSaid : Prop := modelTextsUptoRow.holds Tryd.pinned (OpenSpec.upto modelTextsSpec)

/-- 'assayerlaw16.ModelJoins', WHERE WHAT IT READS IS OF BULK AT MOST 1048576: true; the input reads as it did. -/
def modelJoinsUptoRow : OpenClaim := { program := "ytemdmpgekegfhaadoor", sum := "3ecb8117cab1d73f9b5ab18dc31f6dc937c2f2570a252471e699df04ff8edcdc", func := "assayer/assayerlaw16.ModelJoins", spec := "modelJoins", inPlace := ["maps.clone", "internal/abi.NoEscape"], unfollowed := true, recurses := true, named := ["internal/strconv.uint64pow10", "math/bits.deBruijn32tab", "math/bits.deBruijn64tab"], plainKeys := false, apart := false, laid := [("math/bits.deBruijn32tab", laid_math_bits_deBruijn32tab), ("math/bits.deBruijn64tab", laid_math_bits_deBruijn64tab), ("internal/strconv.uint64pow10", laid_internal_strconv_uint64pow10)], narrowed := true }
def ModelJoinsUptoSaid : Prop := modelJoinsUptoRow.holds Tryd.pinned (OpenSpec.upto modelJoinsSpec)

/-- 'assayerlaw16.ModelNobody', WHERE WHAT IT READS IS OF BULK AT MOST 1048576: true; the input reads as it did. -/
def modelNobodyUptoRow : OpenClaim := { program := "ytemdmpgekegfhaadoor", sum := "3ecb8117cab1d73f9b5ab18dc31f6dc937c2f2570a252471e699df04ff8edcdc", func := "assayer/assayerlaw16.ModelNobody", spec := "modelNobody", inPlace := ["maps.clone", "internal/abi.NoEscape"], unfollowed := true, recurses := true, named := ["internal/strconv.uint64pow10", "math/bits.deBruijn32tab", "math/bits.deBruijn64tab"], plainKeys := false, apart := false, laid := [("math/bits.deBruijn32tab", laid_math_bits_deBruijn32tab), ("math/bits.deBruijn64tab", laid_math_bits_deBruijn64tab), ("internal/strconv.uint64pow10", laid_internal_strconv_uint64pow10)], narrowed := true }
def ModelNobodyUptoSaid : Prop := modelNobodyUptoRow.holds Tryd.pinned (OpenSpec.upto modelNobodySpec)

/-- 'assayerlaw17.SearchWhole', WHERE WHAT IT READS IS OF BULK AT MOST 1048576: true; the input reads as it did. -/
def searchWholeUptoRow : OpenClaim := { program := "ytemdmpgekegfhaadoor", sum := "3ecb8117cab1d73f9b5ab18dc31f6dc937c2f2570a252471e699df04ff8edcdc", func := "assayer/assayerlaw17.SearchWhole", spec := "searchWhole", inPlace := ["maps.clone", "internal/abi.NoEscape"], unfollowed := true, recurses := true, named := ["math/bits.deBruijn64tab", "internal/strconv.uint64pow10", "math/bits.deBruijn32tab"], plainKeys := false, apart := false, laid := [("math/bits.deBruijn32tab", laid_math_bits_deBruijn32tab), ("math/bits.deBruijn64tab", laid_math_bits_deBruijn64tab), ("internal/strconv.uint64pow10", laid_internal_strconv_uint64pow10)], narrowed := true }
def SearchWholeUptoSaid : Prop := searchWholeUptoRow.holds Tryd.pinned (OpenSpec.upto searchWholeSpec)

/-- 'assayerlaw17.SearchMore', WHERE WHAT IT READS IS OF BULK AT MOST 1048576: true; the input reads as it did. -/
def searchMoreUptoRow : OpenClaim := { program := "ytemdmpgekegfhaadoor", sum := "3ecb8117cab1d73f9b5ab18dc31f6dc937c2f2570a252471e699df04ff8edcdc", func := "assayer/assayerlaw17.SearchMore", spec := "searchMore", inPlace := ["maps.clone", "internal/abi.NoEscape"], unfollowed := true, recurses := true, named := ["math/bits.deBruijn64tab", "internal/strconv.uint64pow10", "math/bits.deBruijn32tab"], plainKeys := false, apart := false, laid := [("math/bits.deBruijn32tab", laid_math_bits_deBruijn32tab), ("math/bits.deBruijn64tab", laid_math_bits_deBruijn64tab), ("internal/strconv.uint64pow10", laid_internal_strconv_uint64pow10)], narrowed := true }
def SearchMoreUptoSaid : Prop := searchMoreUptoRow.holds Tryd.pinned (OpenSpec.upto searchMoreSpec)

/-- 'assayerlaw17.SearchNone', WHERE WHAT IT READS IS OF BULK AT MOST 1048576: true; the input reads as it did. -/
def searchNoneUptoRow : OpenClaim := { program := "ytemdmpgekegfhaadoor", sum := "3ecb8117cab1d73f9b5ab18dc31f6dc937c2f2570a252471e699df04ff8edcdc", func := "assayer/assayerlaw17.SearchNone", spec := "searchNone", inPlace := ["maps.clone", "internal/abi.NoEscape"], unfollowed := true, recurses := true, named := ["math/bits.deBruijn64tab", "internal/strconv.uint64pow10", "math/bits.deBruijn32tab"], plainKeys := false, apart := false, laid := [("math/bits.deBruijn32tab", laid_math_bits_deBruijn32tab), ("math/bits.deBruijn64tab", laid_math_bits_deBruijn64tab), ("internal/strconv.uint64pow10", laid_internal_strconv_uint64pow10)], narrowed := true }
def SearchNoneUptoSaid : Prop := searchNoneUptoRow.holds Tryd.pinned (OpenSpec.upto searchNoneSpec)

/-- 'assayerlaw17.SearchYes', WHERE WHAT IT READS IS OF BULK AT MOST 1048576: true; the input reads as it did. -/
def searchYesUptoRow : OpenClaim := { program := "ytemdmpgekegfhaadoor", sum := "3ecb8117cab1d73f9b5ab18dc31f6dc937c2f2570a252471e699df04ff8edcdc", func := "assayer/assayerlaw17.SearchYes", spec := "searchYes", inPlace := ["maps.clone", "internal/abi.NoEscape"], unfollowed := true, recurses := true, named := ["math/bits.deBruijn64tab", "internal/strconv.uint64pow10", "math/bits.deBruijn32tab"], plainKeys := false, apart := false, laid := [("math/bits.deBruijn32tab", laid_math_bits_deBruijn32tab), ("math/bits.deBruijn64tab", laid_math_bits_deBruijn64tab), ("internal/strconv.uint64pow10", laid_internal_strconv_uint64pow10)], narrowed := true }
def SearchYesUptoSaid : Prop := searchYesUptoRow.holds Tryd.pinned (OpenSpec.upto searchYesSpec)

/-- 'assayerlaw17.SearchServed', WHERE WHAT IT READS IS OF BULK AT MOST 1048576: true; the input reads as it did. -/
def searchServedUptoRow : OpenClaim := { program := "ytemdmpgekegfhaadoor", sum := "3ecb8117cab1d73f9b5ab18dc31f6dc937c2f2570a252471e699df04ff8edcdc", func := "assayer/assayerlaw17.SearchServed", spec := "searchServed", inPlace := ["maps.clone", "internal/abi.NoEscape"], unfollowed := true, recurses := true, named := ["math/bits.deBruijn64tab", "internal/strconv.uint64pow10", "math/bits.deBruijn32tab"], plainKeys := false, apart := false, laid := [("math/bits.deBruijn32tab", laid_math_bits_deBruijn32tab), ("math/bits.deBruijn64tab", laid_math_bits_deBruijn64tab), ("internal/strconv.uint64pow10", laid_internal_strconv_uint64pow10)], narrowed := true }
def SearchServedUptoSaid : Prop := searchServedUptoRow.holds Tryd.pinned (OpenSpec.upto searchServedSpec)

/-- 'assayerlaw17.SearchTurned', WHERE WHAT IT READS IS OF BULK AT MOST 1048576: true; the input reads as it did. -/
def searchTurnedUptoRow : OpenClaim := { program := "ytemdmpgekegfhaadoor", sum := "3ecb8117cab1d73f9b5ab18dc31f6dc937c2f2570a252471e699df04ff8edcdc", func := "assayer/assayerlaw17.SearchTurned", spec := "searchTurned", inPlace := ["maps.clone", "internal/abi.NoEscape"], unfollowed := true, recurses := true, named := ["math/bits.deBruijn64tab", "internal/strconv.uint64pow10", "math/bits.deBruijn32tab"], plainKeys := false, apart := false, laid := [("math/bits.deBruijn32tab", laid_math_bits_deBruijn32tab), ("math/bits.deBruijn64tab", laid_math_bits_deBruijn64tab), ("internal/strconv.uint64pow10", laid_internal_strconv_uint64pow10)], narrowed := true }
def SearchTurnedUptoSaid : Prop := searchTurnedUptoRow.holds Tryd.pinned (OpenSpec.upto searchTurnedSpec)

end Rows
end Go.Proofs.YtemdmpgekegfhaaDoor
