/- DepsGraph: for every number and every list of dependencies the law returns true: a graph of any dependencies, or the error, is what the document tells; its edges are just theirs. Condition: the variable math/bits.deBruijn64tab holds what the program lays there (the card ties it). -/
import Derived.Test.YtemdmpgekegfhaaDoorRows
import Derived.Test.YtemdmpgekegfhaaDoorCards
import Derived.Test.YtemdmpgekegfhaaDoorTie
import Derived.Test.YtemdmpgekegfhaaDoorCardT
import Derived.SevenTiedAt
import Derived.Test.YtemdmpgekegfhaaDoorFctDepsGraph
import Derived.Test.YtemdmpgekegfhaaDoorDgF
import Derived.Test.YtemdmpgekegfhaaDoorOpen
import Derived.Test.YtemdmpgekegfhaaDoorGx2
import Derived.Test.YtemdmpgekegfhaaDoorOpenE
import Derived.ProofKit
import Derived.SizedLaws
import Derived.OpenShut
import Derived.ChangeOld
namespace Go.Proofs.YtemdmpgekegfhaaDoor.depsGraph
open Go.ChangeShapes Go.WideShapes Go.ChangeAt Go.RowKit
set_option linter.all false
set_option maxRecDepth 10000
theorem own : ownKnob Tryd.prog.godebug = none := by kernel_rfl
theorem laidOut : laidOutB Tryd.prog = true := by kernel_rfl
theorem walk (W : World) (hE : Tz (all W)) (x0 : Int) (h0 : Kin.inI64 x0) (v1 : Value) (x1 : _) (h1 : kLW.K (all W) x1 [v1]) : Calls Tryd.prog 5 #[.int .i64 x0, v1] W fun e w' => e = .returned (.bool true) ∧ Below W.heap.size W w' := by
  obtain ⟨v, hv, hl⟩ := h1
  cases hv
  exact (depsGraph_w x0 hE hl (Holds.start W)).mono fun e w' ⟨he, s', hs, H'⟩ => ⟨he, Holds.toBelow hs H'⟩
set_option maxRecDepth 100000 in
theorem lifted (os : Os) (started : os.Started) (H : Type) (enc : TypeId × Value → H) :
    ReturnsInHanded {} Tryd.checked os 5 .any (fun w args => (Rows.depsGraphSpec.pre enc Tryd.prog Tryd.f5 Rows.depsGraphRow.domain false w args ∧ laidMetH Tryd.prog laidT w) ∧ sizedMet enc Tryd.prog Tryd.f5 (OpenSpec.ofChange Rows.depsGraphSpec) false w args) (Rows.depsGraphSpec.post enc Tryd.prog Tryd.f5 false true false false) := by
  refine returnsInHanded_of_change_and (C := Tryd.checked) (X := fun w _ => laidMetH Tryd.prog laidT w) (fun _ _ _ hh h => h.of_heap hh) own started (by kernel_rfl) Tryd.func5
    (ChangeSpec.witness_at (enc := enc) (C := Tryd.checked) (os := os) (X := fun w _ => laidMetH Tryd.prog laidT w) false (World.doorLaid Tryd.prog 31 os) #[.int .i64 0, .slice none 0 0] 8 rfl (by kernel_rfl) (by kernel_rfl) (by kernel_rfl) (by kernel_rfl) (by kernel_rfl) (doorT_met os _)) ?_
  intro W base args ds gs before hval0 hW hcnd hsz0 hL _
  have hE := CT.tz hL
  have hsz : (DataW.weightsEach Tryd.prog (Tryd.f5.params.toList ++ Rows.depsGraphSpec.plain.varTypes Tryd.prog) (ds ++ gs)).all (· ≤ reachBytes) = true := hsz0
  have hval : ∀ (j : Nat) t v, Tryd.f5.params[j]? = some t → args[j]? = some v → Value.okWide Tryd.prog W .any base t v := hval0
  have hW' := hW
  obtain ⟨p, q, hA0, hV, rfl, hfz, hnd⟩ := hW
  have hA : DataW.TrodAll enc Tryd.prog W 0 (fun _ => true) true Tryd.f5.params.toList args.toList ds p := hA0
  rw [Tryd.params5] at hA hval hsz
  obtain ⟨v0, vs0, d0, ds0, p0, q0, hargs, rfl, rfl, h0, r0⟩ := trodAll_cons hA
  obtain ⟨v1, vs1, d1, ds1, p1, q1, rfl, rfl, rfl, h1, r1⟩ := trodAll_cons r0
  obtain ⟨rfl, rfl, rfl⟩ := trodAll_nil r1
  obtain rfl : args = #[v0, v1] := by cases args; simp_all
  obtain ⟨rfl, rfl⟩ := trodVars_none hV
  obtain ⟨a0, rfl, rfl, rfl, w0⟩ := open_int Tryd.underlying3 (hval 0 3 v0 rfl rfl) h0
  have g0 : Kin.inI64 a0 := by simp only [Lit.wf, IntKind.min, IntKind.max, IntKind.signed, IntKind.bits, Bool.and_eq_true, decide_eq_true_eq, if_true] at w0; unfold Kin.inI64; omega
  have lt1 : ∀ x ∈ p1, x.block < W.heap.size := by obtain ⟨m, hm⟩ := h1; exact DataW.trod_lt m _ _ _ hm
  have k1 := h1
  obtain ⟨A1, len1, cap1, e1⟩ := okWide_slice Tryd.underlying42 (hval 1 42 v1 rfl rfl)
  obtain ⟨x1, g1⟩ : ∃ x, kLW.K (all W) x [v1] := by
    obtain ⟨fuel, hf⟩ := h1
    subst e1
    exact kLW_opens H enc W fuel _ _ hf (fun n hn => by have := List.all_eq_true.1 hsz n (DataW.weights_mem_each (j := 1) rfl rfl n hn); simpa using this)
  clear hA0 hval0 hsz0 hsz
  refine (walk W hE a0 g0 v1 x1 g1).mono fun e W' ⟨he, bel⟩ => ?_
  subst he
  exact ⟨_, rfl, _, _, _, [], _, [], hW', trodAll_mk1 (shut_bool Tryd.underlying4 _), (trodAll_cons_mk (shut_int Tryd.underlying3 w0) (trodAll_cons_mk (Below.trod laidOut (by kernel_rfl) (of_decide_eq_true (by kernel_rfl)) k1 bel lt1) trodAll_mk0)), rfl, bel.frame _, fun h => by cases h⟩
theorem inst : Tryd.f5.isInstance Tryd.pinned.checked.prog Rows.depsGraphRow.origin Rows.depsGraphRow.targs := of_decide_eq_true (by kernel_rfl)
theorem wrap : Tryd.f5.isWrapper Tryd.pinned.checked.prog Rows.depsGraphRow.wrapper Rows.depsGraphRow.mainSum := by unfold Func.isWrapper; first | (rw [if_pos (by decide +kernel)]; kernel_rfl) | (rw [if_neg (by decide +kernel)]; exact ⟨rfl, rfl⟩)
theorem over : Rows.depsGraphRow.holds Tryd.pinned (OpenSpec.ofChange Rows.depsGraphSpec) :=
  OpenClaim.holds_of_wide 5 Tryd.f5 rfl rfl rfl rfl rfl rfl rfl ⟨rfl, rfl, rfl, rfl, rfl⟩ rfl rfl rfl rfl rfl named Tryd.func5 closed inst wrap
    (fun os started H enc _ => lifted os started H enc)
theorem card : Rows.DepsGraphCardSaid :=
  Claim7.holds_tied_plain_at .later [] [.data] true (true, "d41f105f3f6a30c32f41c8ba4673047854c54a259f34cb5f45321541eb17f008") true
    over (fun _ h => by cases h) (by kernel_rfl) (fun _ h => by cases h) depsGraph_row_tie rfl ⟨rfl, rfl⟩ (by kernel_rfl) rfl
    (fun f fn hf hfn => by
      obtain rfl : f = 5 := Option.some.inj ((show Tryd.prog.funcNamed "assayer/assayerlaw14.DepsGraph" = some 5 by kernel_rfl).symm.trans hf) |>.symm
      obtain rfl : fn = Tryd.f5 := (Option.some.inj (Tryd.func5.symm.trans hfn)).symm
      exact ⟨by kernel_rfl, fun j t ht => by
        rw [Tryd.params5] at ht
        have hm : t = 3 ∨ t = 42 := by
          rcases j with _ | _ | j <;> simp at ht <;> (try subst ht) <;> simp
        rcases hm with rfl | rfl
        · exact (show Tryd.prog.wantsStandIn 3 = false by kernel_rfl)
        · exact (show Tryd.prog.wantsStandIn 42 = false by kernel_rfl)
        ⟩)
    (by kernel_rfl)
end Go.Proofs.YtemdmpgekegfhaaDoor.depsGraph
namespace Go.Proofs.YtemdmpgekegfhaaDoor
theorem depsGraph_card : Rows.DepsGraphCardSaid := depsGraph.card
#print axioms depsGraph_card
end Go.Proofs.YtemdmpgekegfhaaDoor
