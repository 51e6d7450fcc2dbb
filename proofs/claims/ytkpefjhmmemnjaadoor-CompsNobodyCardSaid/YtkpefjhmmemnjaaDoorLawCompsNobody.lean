/- CompsNobody: for every number the law returns true: a graph that no call made has no components and no order; one of one node is as the document tells. Condition: the variable math/bits.deBruijn64tab holds what the program lays there (the card ties it). -/
import Derived.Test.YtkpefjhmmemnjaaDoorRows
import Derived.Test.YtkpefjhmmemnjaaDoorCards
import Derived.Test.YtkpefjhmmemnjaaDoorTie
import Derived.Test.YtkpefjhmmemnjaaDoorCardT
import Derived.SevenTiedAt
import Derived.Test.YtkpefjhmmemnjaaDoorFctCompsNobody
import Derived.Test.YtkpefjhmmemnjaaDoorCnb2
import Derived.Test.YtkpefjhmmemnjaaDoorOpen
import Derived.Test.YtkpefjhmmemnjaaDoorGx2
import Derived.ProofKit
import Derived.SizedLaws
import Derived.OpenShut
import Derived.ChangeOld
namespace Go.Proofs.YtkpefjhmmemnjaaDoor.compsNobody
open Go.ChangeShapes Go.WideShapes Go.ChangeAt Go.RowKit
set_option linter.all false
set_option maxRecDepth 10000
theorem own : ownKnob Tryd.prog.godebug = none := by kernel_rfl
theorem laidOut : laidOutB Tryd.prog = true := by kernel_rfl
theorem walk (W : World) (hE : Tz (all W)) (x0 : Int) (h0 : Kin.inI64 x0) : Calls Tryd.prog 3 #[.int .i64 x0] W fun e w' => e = .returned (.bool true) ∧ Below W.heap.size W w' := by
  exact cnobody_w W x0 hE
set_option maxRecDepth 100000 in
theorem lifted (os : Os) (started : os.Started) (H : Type) (enc : TypeId × Value → H) :
    ReturnsInHanded {} Tryd.checked os 3 .any (fun w args => (Rows.compsNobodySpec.pre enc Tryd.prog Tryd.f3 Rows.compsNobodyRow.domain false w args ∧ laidMetH Tryd.prog laidT w) ∧ sizedMet enc Tryd.prog Tryd.f3 (OpenSpec.ofChange Rows.compsNobodySpec) false w args) (Rows.compsNobodySpec.post enc Tryd.prog Tryd.f3 false true false false) := by
  refine returnsInHanded_of_change_and (C := Tryd.checked) (X := fun w _ => laidMetH Tryd.prog laidT w) (fun _ _ _ hh h => h.of_heap hh) own started (by kernel_rfl) Tryd.func3
    (ChangeSpec.witness_at (enc := enc) (C := Tryd.checked) (os := os) (X := fun w _ => laidMetH Tryd.prog laidT w) false (World.doorLaid Tryd.prog 31 os) #[.int .i64 0] 8 rfl (by kernel_rfl) (by kernel_rfl) (by kernel_rfl) (by kernel_rfl) (by kernel_rfl) (doorT_met os _)) ?_
  intro W base args ds gs before hval0 hW hcnd hsz0 hL _
  have hE := CT.tz hL
  have hsz : (DataW.weightsEach Tryd.prog (Tryd.f3.params.toList ++ Rows.compsNobodySpec.plain.varTypes Tryd.prog) (ds ++ gs)).all (· ≤ reachBytes) = true := hsz0
  have hval : ∀ (j : Nat) t v, Tryd.f3.params[j]? = some t → args[j]? = some v → Value.okWide Tryd.prog W .any base t v := hval0
  have hW' := hW
  obtain ⟨p, q, hA0, hV, rfl, hfz, hnd⟩ := hW
  have hA : DataW.TrodAll enc Tryd.prog W 0 (fun _ => true) true Tryd.f3.params.toList args.toList ds p := hA0
  rw [Tryd.params3] at hA hval hsz
  obtain ⟨v0, vs0, d0, ds0, p0, q0, hargs, rfl, rfl, h0, r0⟩ := trodAll_cons hA
  obtain ⟨rfl, rfl, rfl⟩ := trodAll_nil r0
  obtain rfl : args = #[v0] := by cases args; simp_all
  obtain ⟨rfl, rfl⟩ := trodVars_none hV
  obtain ⟨a0, rfl, rfl, rfl, w0⟩ := open_int Tryd.underlying3 (hval 0 3 v0 rfl rfl) h0
  have g0 : Kin.inI64 a0 := by simp only [Lit.wf, IntKind.min, IntKind.max, IntKind.signed, IntKind.bits, Bool.and_eq_true, decide_eq_true_eq, if_true] at w0; unfold Kin.inI64; omega
  clear hA0 hval0 hsz0 hsz
  refine (walk W hE a0 g0).mono fun e W' ⟨he, bel⟩ => ?_
  subst he
  exact ⟨_, rfl, _, _, _, [], _, [], hW', trodAll_mk1 (shut_bool Tryd.underlying4 _), (trodAll_cons_mk (shut_int Tryd.underlying3 w0) trodAll_mk0), rfl, bel.frame _, fun h => by cases h⟩
theorem inst : Tryd.f3.isInstance Tryd.pinned.checked.prog Rows.compsNobodyRow.origin Rows.compsNobodyRow.targs := of_decide_eq_true (by kernel_rfl)
theorem wrap : Tryd.f3.isWrapper Tryd.pinned.checked.prog Rows.compsNobodyRow.wrapper Rows.compsNobodyRow.mainSum := by unfold Func.isWrapper; first | (rw [if_pos (by decide +kernel)]; kernel_rfl) | (rw [if_neg (by decide +kernel)]; exact ⟨rfl, rfl⟩)
theorem over : Rows.compsNobodyRow.holds Tryd.pinned (OpenSpec.ofChange Rows.compsNobodySpec) :=
  OpenClaim.holds_of_wide 3 Tryd.f3 rfl rfl rfl rfl rfl rfl rfl ⟨rfl, rfl, rfl, rfl, rfl⟩ rfl rfl rfl rfl rfl named Tryd.func3 closed inst wrap
    (fun os started H enc _ => lifted os started H enc)
theorem card : Rows.CompsNobodyCardSaid :=
  Claim7.holds_tied_plain_at .later [] [.data] true (true, "e2a7dc7cc65906c1d86027e99e2af476d60c0cc2e29ce80c8c0a1a1a552551b4") false
    over (fun _ h => by cases h) (by kernel_rfl) (fun _ h => by cases h) compsNobody_row_tie rfl ⟨rfl, rfl⟩ (by kernel_rfl) rfl
    (fun f fn hf hfn => by
      obtain rfl : f = 3 := Option.some.inj ((show Tryd.prog.funcNamed "assayer/assayerlaw07.CompsNobody" = some 3 by kernel_rfl).symm.trans hf) |>.symm
      obtain rfl : fn = Tryd.f3 := (Option.some.inj (Tryd.func3.symm.trans hfn)).symm
      exact ⟨by kernel_rfl, fun j t ht => by
        rw [Tryd.params3] at ht
        have hm : t = 3 := by
          rcases j with _ | j <;> simp at ht <;> (try subst ht) <;> simp
        rcases hm with rfl
        · exact (show Tryd.prog.wantsStandIn 3 = false by kernel_rfl)
        ⟩)
    (by kernel_rfl)
end Go.Proofs.YtkpefjhmmemnjaaDoor.compsNobody
namespace Go.Proofs.YtkpefjhmmemnjaaDoor
theorem compsNobody_card : Rows.CompsNobodyCardSaid := compsNobody.card
#print axioms compsNobody_card
end Go.Proofs.YtkpefjhmmemnjaaDoor
