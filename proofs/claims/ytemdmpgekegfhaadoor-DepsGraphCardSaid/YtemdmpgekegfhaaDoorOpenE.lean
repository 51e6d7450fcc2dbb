/- How histories, and other structs, come in by a row. -/
import Derived.Test.YtemdmpgekegfhaaDoorOpen
import Derived.Test.YtemdmpgekegfhaaDoorKinds
namespace Go.Proofs.YtemdmpgekegfhaaDoor
open Go.RowKit Go.ChangeShapes Go.WideShapes Go.ChangeAt
set_option linter.all false
set_option maxRecDepth 10000

def kSt : Kin ByteArray := Kin.str 9
theorem kSt_opens : Opens Tryd.prog kSt 9 := opens_str Tryd.underlying9
theorem kEv_opens : Opens Tryd.prog kEv 73 := by
  intro H enc W fuel cs x h hw
  obtain ⟨xs, n, rfl, rfl, hl, hlen, hf⟩ := DataW.trod_struct Tryd.underlying73 h
  have hl' : cs.length = 3 := hl.trans (by kernel_rfl)
  have hx' : xs.length = 3 := hlen
  match cs, hl', xs, hx' with
  | [c0, c1, c2], _, [x0, x1, x2], _ =>
    have f0 := hf 0 _ rfl
    have f1 := hf 1 _ rfl
    have f2 := hf 2 _ rfl
    have hw' : ∀ (j : Nat) (t : TypeId) (d : DataW H), ([3, 3, 71] : List TypeId)[j]? = some t → [x0.1, x1.1, x2.1][j]? = some d → ∀ n ∈ d.weights Tryd.prog t, n ≤ reachBytes := fun j t d ht hd q hq => by
      refine hw q ?_
      have := DataW.weights_mem_each ht hd q hq
      simp only [DataW.weights, Tryd.underlying73]
      exact this
    obtain ⟨y0, k0⟩ := opens_int (e := 3) Tryd.underlying3 H enc W n [c0] x0 f0 (hw' 0 _ _ rfl rfl)
    obtain ⟨y1, k1⟩ := opens_int (e := 3) Tryd.underlying3 H enc W n [c1] x1 f1 (hw' 1 _ _ rfl rfl)
    obtain ⟨y2, k2⟩ := kLO_opens H enc W n [c2] x2 f2 (hw' 2 _ _ rfl rfl)
    exact ⟨⟨y0, y1, y2⟩, [c0], [c1, c2], rfl, k0, [c1], [c2], rfl, k1, k2⟩
def kLE : Kin (List Ev) := Kin.slice kEv 55
theorem kLE_opens : Opens Tryd.prog kLE 55 := opens_slice Tryd.underlying55 (by kernel_rfl) (by kernel_rfl) kEv_opens
theorem kWy_opens : Opens Tryd.prog kWy 50 := by
  intro H enc W fuel cs x h hw
  obtain ⟨xs, n, rfl, rfl, hl, hlen, hf⟩ := DataW.trod_struct Tryd.underlying50 h
  have hl' : cs.length = 8 := hl.trans (by kernel_rfl)
  have hx' : xs.length = 8 := hlen
  match cs, hl', xs, hx' with
  | [c0, c1, c2, c3, c4, c5, c6, c7], _, [x0, x1, x2, x3, x4, x5, x6, x7], _ =>
    have f0 := hf 0 _ rfl
    have f1 := hf 1 _ rfl
    have f2 := hf 2 _ rfl
    have f3 := hf 3 _ rfl
    have f4 := hf 4 _ rfl
    have f5 := hf 5 _ rfl
    have f6 := hf 6 _ rfl
    have f7 := hf 7 _ rfl
    have hw' : ∀ (j : Nat) (t : TypeId) (d : DataW H), ([3, 3, 3, 9, 3, 3, 4, 4] : List TypeId)[j]? = some t → [x0.1, x1.1, x2.1, x3.1, x4.1, x5.1, x6.1, x7.1][j]? = some d → ∀ n ∈ d.weights Tryd.prog t, n ≤ reachBytes := fun j t d ht hd q hq => by
      refine hw q ?_
      have := DataW.weights_mem_each ht hd q hq
      simp only [DataW.weights, Tryd.underlying50]
      exact this
    obtain ⟨y0, k0⟩ := opens_int (e := 3) Tryd.underlying3 H enc W n [c0] x0 f0 (hw' 0 _ _ rfl rfl)
    obtain ⟨y1, k1⟩ := opens_int (e := 3) Tryd.underlying3 H enc W n [c1] x1 f1 (hw' 1 _ _ rfl rfl)
    obtain ⟨y2, k2⟩ := opens_int (e := 3) Tryd.underlying3 H enc W n [c2] x2 f2 (hw' 2 _ _ rfl rfl)
    obtain ⟨y3, k3⟩ := opens_str (e := 9) Tryd.underlying9 H enc W n [c3] x3 f3 (hw' 3 _ _ rfl rfl)
    obtain ⟨y4, k4⟩ := opens_int (e := 3) Tryd.underlying3 H enc W n [c4] x4 f4 (hw' 4 _ _ rfl rfl)
    obtain ⟨y5, k5⟩ := opens_int (e := 3) Tryd.underlying3 H enc W n [c5] x5 f5 (hw' 5 _ _ rfl rfl)
    obtain ⟨y6, k6⟩ := opens_bool (e := 4) Tryd.underlying4 H enc W n [c6] x6 f6 (hw' 6 _ _ rfl rfl)
    obtain ⟨y7, k7⟩ := opens_bool (e := 4) Tryd.underlying4 H enc W n [c7] x7 f7 (hw' 7 _ _ rfl rfl)
    exact ⟨⟨y0, y1, y2, y3, y4, y5, y6, y7⟩, [c0], [c1, c2, c3, c4, c5, c6, c7], rfl, k0, [c1], [c2, c3, c4, c5, c6, c7], rfl, k1, [c2], [c3, c4, c5, c6, c7], rfl, k2, [c3], [c4, c5, c6, c7], rfl, k3, [c4], [c5, c6, c7], rfl, k4, [c5], [c6, c7], rfl, k5, [c6], [c7], rfl, k6, k7⟩
def kLW : Kin (List Wy) := Kin.slice kWy 42
theorem kLW_opens : Opens Tryd.prog kLW 42 := opens_slice Tryd.underlying42 (by kernel_rfl) (by kernel_rfl) kWy_opens
end Go.Proofs.YtemdmpgekegfhaaDoor
