/- PairApart: for every history and every number the law returns true: processes named otherwise make the same transactions, but for the names. Condition: the variable errors.errorType holds what the program lays there (the card ties it). -/
import Derived.Test.YtemdmpgekegfhaaDoorRows
import Derived.Test.YtemdmpgekegfhaaDoorCards
import Derived.Test.YtemdmpgekegfhaaDoorTie
import Derived.Test.YtemdmpgekegfhaaDoorCardE
import Derived.SevenTiedAt
import Derived.Test.YtemdmpgekegfhaaDoorFctPairApart
import Derived.Test.YtemdmpgekegfhaaDoorPboQ
import Derived.Test.YtemdmpgekegfhaaDoorOpen
import Derived.Test.YtemdmpgekegfhaaDoorOpenE
import Derived.ProofKit
import Derived.SizedLaws
import Derived.OpenShut
import Derived.ChangeOld
namespace Go.Proofs.YtemdmpgekegfhaaDoor.pairApart
open Go.ChangeShapes Go.WideShapes Go.ChangeAt Go.RowKit
set_option linter.all false
set_option maxRecDepth 10000
theorem own : ownKnob Tryd.prog.godebug = none := by kernel_rfl
theorem laidOut : laidOutB Tryd.prog = true := by kernel_rfl
theorem walk (W : World) (hE : Eg (all W)) (v0 : Value) (x0 : _) (h0 : kLE.K (all W) x0 [v0]) (x1 : Int) (h1 : Kin.inI64 x1) : Calls Tryd.prog 8 #[v0, .int .i64 x1] W fun e w' => e = .returned (.bool true) ∧ Below W.heap.size W w' := by
  obtain ⟨v, hv, hs⟩ := h0
  cases hv
  obtain ⟨A0, c0, rfl, -⟩ := id hs
  exact (assayerlaw03_PairApart_w (fuel := 140737488351234) hE hs (pairApart_true x0 x1 (hypE hs) (by decide)) (Holds.start W)).mono fun e w' ⟨he, H'⟩ => ⟨he, Holds.toBelow (Sub.refl _) H'⟩
set_option maxRecDepth 100000 in
theorem lifted (os : Os) (started : os.Started) (H : Type) (enc : TypeId × Value → H) :
    ReturnsInHanded {} Tryd.checked os 8 .any (fun w args => (Rows.pairApartSpec.pre enc Tryd.prog Tryd.f8 Rows.pairApartRow.domain false w args ∧ laidMetH Tryd.prog laidE w) ∧ sizedMet enc Tryd.prog Tryd.f8 (OpenSpec.ofChange Rows.pairApartSpec) false w args) (Rows.pairApartSpec.post enc Tryd.prog Tryd.f8 false true false false) := by
  refine returnsInHanded_of_change_and (C := Tryd.checked) (X := fun w _ => laidMetH Tryd.prog laidE w) (fun _ _ _ hh h => h.of_heap hh) own started (by kernel_rfl) Tryd.func8
    (ChangeSpec.witness_at (enc := enc) (C := Tryd.checked) (os := os) (X := fun w _ => laidMetH Tryd.prog laidE w) false (laidWorld os) #[.slice none 0 0, .int .i64 0] 8 rfl (by kernel_rfl) (by kernel_rfl) (by kernel_rfl) (by kernel_rfl) (by kernel_rfl) (laidWorld_met os _)) ?_
  intro W base args ds gs before hval0 hW hcnd hsz0 hL _
  have hE := CE.eg hL
  have hsz : (DataW.weightsEach Tryd.prog (Tryd.f8.params.toList ++ Rows.pairApartSpec.plain.varTypes Tryd.prog) (ds ++ gs)).all (· ≤ reachBytes) = true := hsz0
  have hval : ∀ (j : Nat) t v, Tryd.f8.params[j]? = some t → args[j]? = some v → Value.okWide Tryd.prog W .any base t v := hval0
  have hW' := hW
  obtain ⟨p, q, hA0, hV, rfl, hfz, hnd⟩ := hW
  have hA : DataW.TrodAll enc Tryd.prog W 0 (fun _ => true) true Tryd.f8.params.toList args.toList ds p := hA0
  rw [Tryd.params8] at hA hval hsz
  obtain ⟨v0, vs0, d0, ds0, p0, q0, hargs, rfl, rfl, h0, r0⟩ := trodAll_cons hA
  obtain ⟨v1, vs1, d1, ds1, p1, q1, rfl, rfl, rfl, h1, r1⟩ := trodAll_cons r0
  obtain ⟨rfl, rfl, rfl⟩ := trodAll_nil r1
  obtain rfl : args = #[v0, v1] := by cases args; simp_all
  obtain ⟨rfl, rfl⟩ := trodVars_none hV
  have lt0 : ∀ x ∈ p0, x.block < W.heap.size := by obtain ⟨m, hm⟩ := h0; exact DataW.trod_lt m _ _ _ hm
  have k0 := h0
  obtain ⟨A0, len0, cap0, e0⟩ := okWide_slice Tryd.underlying55 (hval 0 55 v0 rfl rfl)
  obtain ⟨x0, g0⟩ : ∃ x, kLE.K (all W) x [v0] := by
    obtain ⟨fuel, hf⟩ := h0
    subst e0
    exact kLE_opens H enc W fuel _ _ hf (fun n hn => by have := List.all_eq_true.1 hsz n (DataW.weights_mem_each (j := 0) rfl rfl n hn); simpa using this)
  obtain ⟨a1, rfl, rfl, rfl, w1⟩ := open_int Tryd.underlying3 (hval 1 3 v1 rfl rfl) h1
  have g1 : Kin.inI64 a1 := by simp only [Lit.wf, IntKind.min, IntKind.max, IntKind.signed, IntKind.bits, Bool.and_eq_true, decide_eq_true_eq, if_true] at w1; unfold Kin.inI64; omega
  clear hA0 hval0 hsz0 hsz
  refine (walk W hE v0 x0 g0 a1 g1).mono fun e W' ⟨he, bel⟩ => ?_
  subst he
  exact ⟨_, rfl, _, _, _, [], _, [], hW', trodAll_mk1 (shut_bool Tryd.underlying4 _), (trodAll_cons_mk (Below.trod laidOut (by kernel_rfl) (of_decide_eq_true (by kernel_rfl)) k0 bel lt0) (trodAll_cons_mk (shut_int Tryd.underlying3 w1) trodAll_mk0)), rfl, bel.frame _, fun h => by cases h⟩
theorem inst : Tryd.f8.isInstance Tryd.pinned.checked.prog Rows.pairApartRow.origin Rows.pairApartRow.targs := of_decide_eq_true (by kernel_rfl)
theorem wrap : Tryd.f8.isWrapper Tryd.pinned.checked.prog Rows.pairApartRow.wrapper Rows.pairApartRow.mainSum := by unfold Func.isWrapper; first | (rw [if_pos (by decide +kernel)]; kernel_rfl) | (rw [if_neg (by decide +kernel)]; exact ⟨rfl, rfl⟩)
theorem over : Rows.pairApartRow.holds Tryd.pinned (OpenSpec.ofChange Rows.pairApartSpec) :=
  OpenClaim.holds_of_wide 8 Tryd.f8 rfl rfl rfl rfl rfl rfl rfl ⟨rfl, rfl, rfl, rfl, rfl⟩ rfl rfl rfl rfl rfl named Tryd.func8 closed inst wrap
    (fun os started H enc _ => lifted os started H enc)
theorem card : Rows.PairApartCardSaid :=
  Claim7.holds_tied_plain_at .later [] [.handle] true (true, "d41f105f3f6a30c32f41c8ba4673047854c54a259f34cb5f45321541eb17f008") true
    over (fun _ h => by cases h) (by kernel_rfl) (fun _ h => by cases h) pairApart_row_tie rfl ⟨rfl, rfl⟩ (by kernel_rfl) rfl
    (fun f fn hf hfn => by
      obtain rfl : f = 8 := Option.some.inj ((show Tryd.prog.funcNamed "assayer/assayerlaw03.PairApart" = some 8 by kernel_rfl).symm.trans hf) |>.symm
      obtain rfl : fn = Tryd.f8 := (Option.some.inj (Tryd.func8.symm.trans hfn)).symm
      exact ⟨by kernel_rfl, fun j t ht => by
        rw [Tryd.params8] at ht
        have hm : t = 55 ∨ t = 3 := by
          rcases j with _ | _ | j <;> simp at ht <;> simp_all
        rcases hm with rfl | rfl
        · exact (show Tryd.prog.wantsStandIn 55 = false by kernel_rfl)
        · exact (show Tryd.prog.wantsStandIn 3 = false by kernel_rfl)
        ⟩)
    (by kernel_rfl)
end Go.Proofs.YtemdmpgekegfhaaDoor.pairApart
namespace Go.Proofs.YtemdmpgekegfhaaDoor
theorem pairApart_card : Rows.PairApartCardSaid := pairApart.card
#print axioms pairApart_card
end Go.Proofs.YtemdmpgekegfhaaDoor
