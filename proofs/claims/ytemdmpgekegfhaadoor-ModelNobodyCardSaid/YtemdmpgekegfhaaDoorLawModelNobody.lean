/- ModelNobody: for every key the law returns true: a state that no call made answers nothing. Condition: the three tables hold what the program lays there (the card ties them). -/
import Derived.Test.YtemdmpgekegfhaaDoorRows
import Derived.Test.YtemdmpgekegfhaaDoorCards
import Derived.Test.YtemdmpgekegfhaaDoorTie
import Derived.Test.YtemdmpgekegfhaaDoorCardD
import Derived.SevenTiedAt
import Derived.Test.YtemdmpgekegfhaaDoorFctModelNobody
import Derived.Test.YtemdmpgekegfhaaDoorMobB
import Derived.Test.YtemdmpgekegfhaaDoorOpen
import Derived.Test.YtemdmpgekegfhaaDoorOpenE
import Derived.ProofKit
import Derived.SizedLaws
import Derived.OpenShut
import Derived.ChangeOld
namespace Go.Proofs.YtemdmpgekegfhaaDoor.modelNobody
open Go.ChangeShapes Go.WideShapes Go.ChangeAt Go.RowKit
set_option linter.all false
set_option maxRecDepth 10000
theorem own : ownKnob Tryd.prog.godebug = none := by kernel_rfl
theorem laidOut : laidOutB Tryd.prog = true := by kernel_rfl
theorem walk (W : World) (v0 : Value) (x0 : _) (h0 : kSt.K (all W) x0 [v0]) : Calls Tryd.prog 11 #[v0] W fun e w' => e = .returned (.bool true) ∧ Below W.heap.size W w' := by
  obtain ⟨hv, hz⟩ := h0
  cases hv
  exact mnobody_w W _
set_option maxRecDepth 100000 in
theorem lifted (os : Os) (started : os.Started) (H : Type) (enc : TypeId × Value → H) :
    ReturnsInHanded {} Tryd.checked os 11 .any (fun w args => (Rows.modelNobodySpec.pre enc Tryd.prog Tryd.f11 Rows.modelNobodyRow.domain false w args ∧ laidMetH Tryd.prog laidD w) ∧ sizedMet enc Tryd.prog Tryd.f11 (OpenSpec.ofChange Rows.modelNobodySpec) false w args) (Rows.modelNobodySpec.post enc Tryd.prog Tryd.f11 false true false false) := by
  refine returnsInHanded_of_change_and (C := Tryd.checked) (X := fun w _ => laidMetH Tryd.prog laidD w) (fun _ _ _ hh h => h.of_heap hh) own started (by kernel_rfl) Tryd.func11
    (ChangeSpec.witness_at (enc := enc) (C := Tryd.checked) (os := os) (X := fun w _ => laidMetH Tryd.prog laidD w) false (World.doorLaid Tryd.prog 31 os) #[.string (ByteArray.mk #[])] 8 rfl (by kernel_rfl) (by kernel_rfl) (by kernel_rfl) (by kernel_rfl) (by kernel_rfl) (doorD_met os _)) ?_
  intro W base args ds gs before hval0 hW hcnd hsz0 hL _
  have hsz : (DataW.weightsEach Tryd.prog (Tryd.f11.params.toList ++ Rows.modelNobodySpec.plain.varTypes Tryd.prog) (ds ++ gs)).all (· ≤ reachBytes) = true := hsz0
  have hval : ∀ (j : Nat) t v, Tryd.f11.params[j]? = some t → args[j]? = some v → Value.okWide Tryd.prog W .any base t v := hval0
  have hW' := hW
  obtain ⟨p, q, hA0, hV, rfl, hfz, hnd⟩ := hW
  have hA : DataW.TrodAll enc Tryd.prog W 0 (fun _ => true) true Tryd.f11.params.toList args.toList ds p := hA0
  rw [Tryd.params11] at hA hval hsz
  obtain ⟨v0, vs0, d0, ds0, p0, q0, hargs, rfl, rfl, h0, r0⟩ := trodAll_cons hA
  obtain ⟨rfl, rfl, rfl⟩ := trodAll_nil r0
  obtain rfl : args = #[v0] := by cases args; simp_all
  obtain ⟨rfl, rfl⟩ := trodVars_none hV
  have lt0 : ∀ x ∈ p0, x.block < W.heap.size := by obtain ⟨m, hm⟩ := h0; exact DataW.trod_lt m _ _ _ hm
  have k0 := h0
  obtain ⟨s0, e0⟩ := okWide_string Tryd.underlying9 (hval 0 9 v0 rfl rfl)
  obtain ⟨x0, g0⟩ : ∃ x, kSt.K (all W) x [v0] := by
    obtain ⟨fuel, hf⟩ := h0
    subst e0
    exact kSt_opens H enc W fuel _ _ hf (fun n hn => by have := List.all_eq_true.1 hsz n (DataW.weights_mem_each (j := 0) rfl rfl n hn); simpa using this)
  clear hA0 hval0 hsz0 hsz
  refine (walk W v0 x0 g0).mono fun e W' ⟨he, bel⟩ => ?_
  subst he
  exact ⟨_, rfl, _, _, _, [], _, [], hW', trodAll_mk1 (shut_bool Tryd.underlying4 _), (trodAll_cons_mk (Below.trod laidOut (by kernel_rfl) (of_decide_eq_true (by kernel_rfl)) k0 bel lt0) trodAll_mk0), rfl, bel.frame _, fun h => by cases h⟩
theorem inst : Tryd.f11.isInstance Tryd.pinned.checked.prog Rows.modelNobodyRow.origin Rows.modelNobodyRow.targs := of_decide_eq_true (by kernel_rfl)
theorem wrap : Tryd.f11.isWrapper Tryd.pinned.checked.prog Rows.modelNobodyRow.wrapper Rows.modelNobodyRow.mainSum := by unfold Func.isWrapper; first | (rw [if_pos (by decide +kernel)]; kernel_rfl) | (rw [if_neg (by decide +kernel)]; exact ⟨rfl, rfl⟩)
theorem over : Rows.modelNobodyRow.holds Tryd.pinned (OpenSpec.ofChange Rows.modelNobodySpec) :=
  OpenClaim.holds_of_wide 11 Tryd.f11 rfl rfl rfl rfl rfl rfl rfl ⟨rfl, rfl, rfl, rfl, rfl⟩ rfl rfl rfl rfl rfl named Tryd.func11 closed inst wrap
    (fun os started H enc _ => lifted os started H enc)
theorem card : Rows.ModelNobodyCardSaid :=
  Claim7.holds_tied_plain_at .later [] [.data, .data, .data] true (true, "d41f105f3f6a30c32f41c8ba4673047854c54a259f34cb5f45321541eb17f008") true
    over (fun _ h => by cases h) (by kernel_rfl) (fun _ h => by cases h) modelNobody_row_tie rfl ⟨rfl, rfl⟩ (by kernel_rfl) rfl
    (fun f fn hf hfn => by
      obtain rfl : f = 11 := Option.some.inj ((show Tryd.prog.funcNamed "assayer/assayerlaw16.ModelNobody" = some 11 by kernel_rfl).symm.trans hf) |>.symm
      obtain rfl : fn = Tryd.f11 := (Option.some.inj (Tryd.func11.symm.trans hfn)).symm
      exact ⟨by kernel_rfl, fun j t ht => by
        rw [Tryd.params11] at ht
        have hm : t = 9 := by
          rcases j with _ | _ | j <;> simp at ht <;> simp_all
        rcases hm with rfl
        · exact (show Tryd.prog.wantsStandIn 9 = false by kernel_rfl)
        ⟩)
    (by kernel_rfl)
end Go.Proofs.YtemdmpgekegfhaaDoor.modelNobody
namespace Go.Proofs.YtemdmpgekegfhaaDoor
theorem modelNobody_card : Rows.ModelNobodyCardSaid := modelNobody.card
#print axioms modelNobody_card
end Go.Proofs.YtemdmpgekegfhaaDoor
