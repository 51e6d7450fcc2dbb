/- ModelJoins: for all operations and every number the law returns true: operations in two parts come to what they come to together, where both apply; what does not apply changes nothing. Conditions: the arguments' bulk is at most 1048576; the three tables hold what the program lays there (the card ties them). -/
import Derived.Test.YtemdmpgekegfhaaDoorRows
import Derived.Test.YtemdmpgekegfhaaDoorCards
import Derived.Test.YtemdmpgekegfhaaDoorTie
import Derived.Test.YtemdmpgekegfhaaDoorCardQ
import Derived.SevenTiedAt
import Derived.Test.YtemdmpgekegfhaaDoorFctModelJoins
import Derived.Test.YtemdmpgekegfhaaDoorMjnQ
import Derived.Test.YtemdmpgekegfhaaDoorAb1
import Derived.ProofKit
import Derived.SizedLaws
import Derived.OpenShut
import Derived.ChangeOld
import Derived.Deep.DeepHandedRow
namespace Go.Proofs.YtemdmpgekegfhaaDoor.modelJoins
open Go.ChangeShapes Go.WideShapes Go.ChangeAt Go.RowKit
set_option linter.all false
set_option maxRecDepth 10000
theorem own : ownKnob Tryd.prog.godebug = none := by kernel_rfl
theorem laidOut : laidOutB Tryd.prog = true := by kernel_rfl
theorem walk (W : World) (hE : Pw (all W)) (v0 : Value) (x0 : _) (h0 : kLO.K (all W) x0 [v0]) (v1 : Value) (x1 : _) (h1 : kLO.K (all W) x1 [v1]) (x2 : Int) (h2 : Kin.inI64 x2) (hb : kLO_sz x0 + kLO_sz x1 ≤ 1048576) : Calls Tryd.prog 10 #[v0, v1, .int .i64 x2] W fun e w' => e = .returned (.bool true) ∧ Below W.heap.size W w' := by
  obtain ⟨v, hv, hs⟩ := h0
  cases hv
  obtain ⟨v, hv, hl⟩ := h1
  cases hv
  obtain ⟨A0, c0, rfl, -⟩ := id hs
  obtain ⟨A1, c1, rfl, -⟩ := id hl
  unfold kLO_sz at hb
  have b0 := len_bulk x0
  have b1 := len_bulk x1
  exact (assayerlaw16_ModelJoins_w (fuel := 2000000000002) hE hs hl (modelJoins_true x0 x1 x2 (by omega) (okk_of hs (by omega)) (okk_of hl (by omega))) (Holds.start W)).mono fun e w' ⟨he, H'⟩ => ⟨he, Holds.toBelow (Sub.refl _) H'⟩
theorem reads (os : Os) {H : Type} (enc : TypeId × Value → H) : ∃ places, DataW.whole enc Tryd.prog ((World.doorLaid Tryd.prog 31 os).forCall (fun _ _ => 0) ⟨#[], #[.slice none 0 0, .slice none 0 0, .int .i64 0], []⟩).memory Tryd.f10.params.toList (Rows.OpenSpec.upto Rows.modelJoinsSpec).vars false #[Value.slice none 0 0, Value.slice none 0 0, Value.int .i64 0].toList 8 = some ([.nil, .nil, .lit (.int .i64 0)], [], places) := ⟨[], by kernel_rfl⟩
set_option maxRecDepth 100000 in
theorem lifted (os : Os) (started : os.Started) (H : Type) (enc : TypeId × Value → H) (F : Stop.Interp) :
    ReturnsInHanded {} Tryd.checked os 10 .any ((Rows.OpenSpec.upto Rows.modelJoinsSpec).preRow enc Tryd.prog Tryd.f10 Rows.modelJoinsUptoRow.domain false Rows.modelJoinsUptoRow.laid) (((Rows.OpenSpec.upto Rows.modelJoinsSpec).at F).post enc Tryd.prog Tryd.f10 false true false false) := by
  obtain ⟨places, hx⟩ := reads os enc
  refine returnsInHanded_of_row (C := Tryd.checked) (s := (Rows.OpenSpec.upto Rows.modelJoinsSpec)) own started (by kernel_rfl) Tryd.func10
    (witness_row_at (enc := enc) (C := Tryd.checked) false (World.doorLaid Tryd.prog 31 os) #[.slice none 0 0, .slice none 0 0, .int .i64 0] rfl (by kernel_rfl) (by kernel_rfl) (by kernel_rfl)
      (OpenSpec.preRow_of_cond 8 hx (by kernel_rfl) (fun k hk => by cases hk; kernel_rfl) (by kernel_rfl) (doorD_met os _))) ?_
  intro W base args ds gs before hval0 hW _ hcond hsz0 hL _ _
  have hE := CD.pw hL
  have hk := hcond _ rfl
  have hsz : (DataW.weightsEach Tryd.prog (Tryd.f10.params.toList ++ Rows.modelJoinsSpec.plain.varTypes Tryd.prog) (ds ++ gs)).all (· ≤ reachBytes) = true := hsz0
  have hval : ∀ (j : Nat) t v, Tryd.f10.params[j]? = some t → args[j]? = some v → Value.okWide Tryd.prog W .any base t v := hval0
  have hW' := hW
  obtain ⟨p, q, hA0, hV, rfl, hfz, hnd⟩ := hW
  have hA : DataW.TrodAll enc Tryd.prog W 0 (fun _ => true) true Tryd.f10.params.toList args.toList ds p := hA0
  rw [Tryd.params10] at hA hval hsz
  obtain ⟨v0, vs0, d0, ds0, p0, q0, hargs, rfl, rfl, h0, r0⟩ := trodAll_cons hA
  obtain ⟨v1, vs1, d1, ds1, p1, q1, rfl, rfl, rfl, h1, r1⟩ := trodAll_cons r0
  obtain ⟨v2, vs2, d2, ds2, p2, q2, rfl, rfl, rfl, h2, r2⟩ := trodAll_cons r1
  obtain ⟨rfl, rfl, rfl⟩ := trodAll_nil r2
  obtain rfl : args = #[v0, v1, v2] := by cases args; simp_all
  obtain ⟨rfl, rfl⟩ := trodVars_none hV
  have lt0 : ∀ x ∈ p0, x.block < W.heap.size := by obtain ⟨m, hm⟩ := h0; exact DataW.trod_lt m _ _ _ hm
  have k0 := h0
  obtain ⟨A0, len0, cap0, e0⟩ := okWide_slice Tryd.underlying71 (hval 0 71 v0 rfl rfl)
  obtain ⟨x0, g0, bb0⟩ : ∃ x, kLO.K (all W) x [v0] ∧ kLO_sz x ≤ Rows.uptoBulk d0 := by
    obtain ⟨fuel, hf⟩ := h0
    subst e0
    exact kLO_opensB H enc W fuel _ _ hf (fun n hn => by have := List.all_eq_true.1 hsz n (DataW.weights_mem_each (j := 0) rfl rfl n hn); simpa using this)
  have lt1 : ∀ x ∈ p1, x.block < W.heap.size := by obtain ⟨m, hm⟩ := h1; exact DataW.trod_lt m _ _ _ hm
  have k1 := h1
  obtain ⟨A1, len1, cap1, e1⟩ := okWide_slice Tryd.underlying71 (hval 1 71 v1 rfl rfl)
  obtain ⟨x1, g1, bb1⟩ : ∃ x, kLO.K (all W) x [v1] ∧ kLO_sz x ≤ Rows.uptoBulk d1 := by
    obtain ⟨fuel, hf⟩ := h1
    subst e1
    exact kLO_opensB H enc W fuel _ _ hf (fun n hn => by have := List.all_eq_true.1 hsz n (DataW.weights_mem_each (j := 1) rfl rfl n hn); simpa using this)
  obtain ⟨a2, rfl, rfl, rfl, w2⟩ := open_int Tryd.underlying3 (hval 2 3 v2 rfl rfl) h2
  have g2 : Kin.inI64 a2 := by simp only [Lit.wf, IntKind.min, IntKind.max, IntKind.signed, IntKind.bits, Bool.and_eq_true, decide_eq_true_eq, if_true] at w2; unfold Kin.inI64; omega
  have hkk : Rows.uptoBulkAll _ ≤ 1048576 := of_decide_eq_true hk
  simp only [List.append_nil, List.cons_append, List.nil_append, Rows.uptoBulkAll] at hkk
  clear hA0 hval0 hsz0 hsz hk hcond
  refine (walk W hE v0 x0 g0 v1 x1 g1 a2 g2 (by omega)).mono fun e W' ⟨he, bel⟩ => ?_
  subst he
  exact ⟨_, rfl, _, _, _, [], _, [], hW', trodAll_mk1 (shut_bool Tryd.underlying4 _), (trodAll_cons_mk (Below.trod laidOut (by kernel_rfl) (of_decide_eq_true (by kernel_rfl)) k0 bel lt0) (trodAll_cons_mk (Below.trod laidOut (by kernel_rfl) (of_decide_eq_true (by kernel_rfl)) k1 bel lt1) (trodAll_cons_mk (shut_int Tryd.underlying3 w2) trodAll_mk0))), rfl, bel.frame _, fun h => by cases h⟩
theorem inst : Tryd.f10.isInstance Tryd.pinned.checked.prog Rows.modelJoinsUptoRow.origin Rows.modelJoinsUptoRow.targs := of_decide_eq_true (by kernel_rfl)
theorem wrap : Tryd.f10.isWrapper Tryd.pinned.checked.prog Rows.modelJoinsUptoRow.wrapper Rows.modelJoinsUptoRow.mainSum := by unfold Func.isWrapper; first | (rw [if_pos (by decide +kernel)]; kernel_rfl) | (rw [if_neg (by decide +kernel)]; exact ⟨rfl, rfl⟩)
theorem over : Rows.modelJoinsUptoRow.holds Tryd.pinned (Rows.OpenSpec.upto Rows.modelJoinsSpec) :=
  OpenClaim.holds_of_cond 10 Tryd.f10 rfl rfl rfl rfl rfl rfl rfl ⟨rfl, rfl, rfl, rfl, rfl⟩ rfl rfl rfl rfl rfl named Tryd.func10 closed inst wrap
    (fun os started H enc _ F => by rw [OpenClaim.pre_eq_preRow]; exact lifted os started H enc F)
theorem card : Rows.ModelJoinsUptoCardSaid :=
  Claim7.holds_tied_plain_at .later [] _ _ _ _
    over (fun _ h => by cases h) (by kernel_rfl) (fun _ h => by cases h) modelJoinsUpto_row_tie rfl ⟨rfl, rfl⟩ (by kernel_rfl) rfl
    (fun f fn hf hfn => by
      obtain rfl : f = 10 := Option.some.inj ((show Tryd.prog.funcNamed "assayer/assayerlaw16.ModelJoins" = some 10 by kernel_rfl).symm.trans hf) |>.symm
      obtain rfl : fn = Tryd.f10 := (Option.some.inj (Tryd.func10.symm.trans hfn)).symm
      exact ⟨by kernel_rfl, fun j t ht => by
        rw [Tryd.params10] at ht
        have hm : t = 71 ∨ t = 71 ∨ t = 3 := by
          rcases j with _ | _ | _ | j <;> simp at ht <;> (try subst ht) <;> simp
        rcases hm with rfl | rfl | rfl
        · exact (show Tryd.prog.wantsStandIn 71 = false by kernel_rfl)
        · exact (show Tryd.prog.wantsStandIn 71 = false by kernel_rfl)
        · exact (show Tryd.prog.wantsStandIn 3 = false by kernel_rfl)
        ⟩)
    (by kernel_rfl)
end Go.Proofs.YtemdmpgekegfhaaDoor.modelJoins
namespace Go.Proofs.YtemdmpgekegfhaaDoor
theorem modelJoins_card : Rows.ModelJoinsUptoCardSaid := modelJoins.card
#print axioms modelJoins_card
end Go.Proofs.YtemdmpgekegfhaaDoor
