/- SearchNone: for every list of transactions and every number the law returns true: without steps it is known only of what needs none; of too many transactions nothing is. Condition: the three tables hold what the program lays there (the card ties them). -/
import Derived.Test.YtemdmpgekegfhaaDoorRows
import Derived.Test.YtemdmpgekegfhaaDoorCards
import Derived.Test.YtemdmpgekegfhaaDoorTie
import Derived.Test.YtemdmpgekegfhaaDoorCardS
import Derived.SevenTiedAt
import Derived.Test.YtemdmpgekegfhaaDoorFctSearchNone
import Derived.Test.YtemdmpgekegfhaaDoorSnB
import Derived.Test.YtemdmpgekegfhaaDoorAb1
import Derived.ProofKit
import Derived.SizedLaws
import Derived.OpenShut
import Derived.ChangeOld
namespace Go.Proofs.YtemdmpgekegfhaaDoor.searchNone
open Go.ChangeShapes Go.WideShapes Go.ChangeAt Go.RowKit
set_option linter.all false
set_option maxRecDepth 10000
theorem own : ownKnob Tryd.prog.godebug = none := by kernel_rfl
theorem laidOut : laidOutB Tryd.prog = true := by kernel_rfl
theorem walk (W : World) (hE : Tz (all W) ∧ Pw (all W)) (v0 : Value) (x0 : _) (h0 : kLT.K (all W) x0 [v0]) (x1 : Int) (h1 : Kin.inI64 x1) : Calls Tryd.prog 14 #[v0, .int .i64 x1] W fun e w' => e = .returned (.bool true) ∧ Below W.heap.size W w' := by
  obtain ⟨v, hv, hl⟩ := h0
  cases hv
  have hl2 := hl
  obtain ⟨A, cap, e, h2, h3, h4⟩ := hl
  subst e
  have h3b : x0.length * 56 ≤ 140737488355328 := h3
  exact (searchNone_w hl2 (by omega) hE.1 hE.2 (Holds.start W)).mono fun e w' ⟨he, s', hs, H'⟩ => ⟨he, Holds.toBelow hs H'⟩
set_option maxRecDepth 100000 in
theorem lifted (os : Os) (started : os.Started) (H : Type) (enc : TypeId × Value → H) :
    ReturnsInHanded {} Tryd.checked os 14 .any (fun w args => (Rows.searchNoneSpec.pre enc Tryd.prog Tryd.f14 Rows.searchNoneRow.domain false w args ∧ laidMetH Tryd.prog laidD w) ∧ sizedMet enc Tryd.prog Tryd.f14 (OpenSpec.ofChange Rows.searchNoneSpec) false w args) (Rows.searchNoneSpec.post enc Tryd.prog Tryd.f14 false true false false) := by
  refine returnsInHanded_of_change_and (C := Tryd.checked) (X := fun w _ => laidMetH Tryd.prog laidD w) (fun _ _ _ hh h => h.of_heap hh) own started (by kernel_rfl) Tryd.func14
    (ChangeSpec.witness_at (enc := enc) (C := Tryd.checked) (os := os) (X := fun w _ => laidMetH Tryd.prog laidD w) false (World.doorLaid Tryd.prog 31 os) #[.slice none 0 0, .int .i64 0] 8 rfl (by kernel_rfl) (by kernel_rfl) (by kernel_rfl) (by kernel_rfl) (by kernel_rfl) (doorD_met os _)) ?_
  intro W base args ds gs before hval0 hW hcnd hsz0 hL _
  have hE := CS.both hL
  have hsz : (DataW.weightsEach Tryd.prog (Tryd.f14.params.toList ++ Rows.searchNoneSpec.plain.varTypes Tryd.prog) (ds ++ gs)).all (· ≤ reachBytes) = true := hsz0
  have hval : ∀ (j : Nat) t v, Tryd.f14.params[j]? = some t → args[j]? = some v → Value.okWide Tryd.prog W .any base t v := hval0
  have hW' := hW
  obtain ⟨p, q, hA0, hV, rfl, hfz, hnd⟩ := hW
  have hA : DataW.TrodAll enc Tryd.prog W 0 (fun _ => true) true Tryd.f14.params.toList args.toList ds p := hA0
  rw [Tryd.params14] at hA hval hsz
  obtain ⟨v0, vs0, d0, ds0, p0, q0, hargs, rfl, rfl, h0, r0⟩ := trodAll_cons hA
  obtain ⟨v1, vs1, d1, ds1, p1, q1, rfl, rfl, rfl, h1, r1⟩ := trodAll_cons r0
  obtain ⟨rfl, rfl, rfl⟩ := trodAll_nil r1
  obtain rfl : args = #[v0, v1] := by cases args; simp_all
  obtain ⟨rfl, rfl⟩ := trodVars_none hV
  have lt0 : ∀ x ∈ p0, x.block < W.heap.size := by obtain ⟨m, hm⟩ := h0; exact DataW.trod_lt m _ _ _ hm
  have k0 := h0
  obtain ⟨A0, len0, cap0, e0⟩ := okWide_slice Tryd.underlying57 (hval 0 57 v0 rfl rfl)
  obtain ⟨x0, g0⟩ : ∃ x, kLT.K (all W) x [v0] := by
    obtain ⟨fuel, hf⟩ := h0
    subst e0
    exact kLT_opens H enc W fuel _ _ hf (fun n hn => by have := List.all_eq_true.1 hsz n (DataW.weights_mem_each (j := 0) rfl rfl n hn); simpa using this)
  obtain ⟨a1, rfl, rfl, rfl, w1⟩ := open_int Tryd.underlying3 (hval 1 3 v1 rfl rfl) h1
  have g1 : Kin.inI64 a1 := by simp only [Lit.wf, IntKind.min, IntKind.max, IntKind.signed, IntKind.bits, Bool.and_eq_true, decide_eq_true_eq, if_true] at w1; unfold Kin.inI64; omega
  clear hA0 hval0 hsz0 hsz
  refine (walk W hE v0 x0 g0 a1 g1).mono fun e W' ⟨he, bel⟩ => ?_
  subst he
  exact ⟨_, rfl, _, _, _, [], _, [], hW', trodAll_mk1 (shut_bool Tryd.underlying4 _), (trodAll_cons_mk (Below.trod laidOut (by kernel_rfl) (of_decide_eq_true (by kernel_rfl)) k0 bel lt0) (trodAll_cons_mk (shut_int Tryd.underlying3 w1) trodAll_mk0)), rfl, bel.frame _, fun h => by cases h⟩
theorem inst : Tryd.f14.isInstance Tryd.pinned.checked.prog Rows.searchNoneRow.origin Rows.searchNoneRow.targs := of_decide_eq_true (by kernel_rfl)
theorem wrap : Tryd.f14.isWrapper Tryd.pinned.checked.prog Rows.searchNoneRow.wrapper Rows.searchNoneRow.mainSum := by unfold Func.isWrapper; first | (rw [if_pos (by decide +kernel)]; kernel_rfl) | (rw [if_neg (by decide +kernel)]; exact ⟨rfl, rfl⟩)
theorem over : Rows.searchNoneRow.holds Tryd.pinned (OpenSpec.ofChange Rows.searchNoneSpec) :=
  OpenClaim.holds_of_wide 14 Tryd.f14 rfl rfl rfl rfl rfl rfl rfl ⟨rfl, rfl, rfl, rfl, rfl⟩ rfl rfl rfl rfl rfl named Tryd.func14 closed inst wrap
    (fun os started H enc _ => lifted os started H enc)
theorem card : Rows.SearchNoneCardSaid :=
  Claim7.holds_tied_plain_at .later [] [.data, .data, .data] true (true, "d41f105f3f6a30c32f41c8ba4673047854c54a259f34cb5f45321541eb17f008") true
    over (fun _ h => by cases h) (by kernel_rfl) (fun _ h => by cases h) searchNone_row_tie rfl ⟨rfl, rfl⟩ (by kernel_rfl) rfl
    (fun f fn hf hfn => by
      obtain rfl : f = 14 := Option.some.inj ((show Tryd.prog.funcNamed "assayer/assayerlaw17.SearchNone" = some 14 by kernel_rfl).symm.trans hf) |>.symm
      obtain rfl : fn = Tryd.f14 := (Option.some.inj (Tryd.func14.symm.trans hfn)).symm
      exact ⟨by kernel_rfl, fun j t ht => by
        rw [Tryd.params14] at ht
        have hm : t = 57 ∨ t = 3 := by
          rcases j with _ | _ | j <;> simp at ht <;> (try subst ht) <;> simp
        rcases hm with rfl | rfl
        · exact (show Tryd.prog.wantsStandIn 57 = false by kernel_rfl)
        · exact (show Tryd.prog.wantsStandIn 3 = false by kernel_rfl)
        ⟩)
    (by kernel_rfl)
end Go.Proofs.YtemdmpgekegfhaaDoor.searchNone
namespace Go.Proofs.YtemdmpgekegfhaaDoor
theorem searchNone_card : Rows.SearchNoneCardSaid := searchNone.card
#print axioms searchNone_card
end Go.Proofs.YtemdmpgekegfhaaDoor
