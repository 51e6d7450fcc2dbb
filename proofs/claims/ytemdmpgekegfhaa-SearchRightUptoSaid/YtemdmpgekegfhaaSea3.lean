/- Walks, printed by fx.py: part 3. -/
import Derived.Test.YtemdmpgekegfhaaSea2
namespace Go.Proofs.Ytemdmpgekegfhaa
open Go.RowKit
set_option linter.all false
set_option maxRecDepth 10000
def search_done_f (a0 : Txn) : Bool := ((a0.state == 1) || (a0.state == 3))

set_option maxHeartbeats 4000000 in
theorem search_done_w {E : World} {s : SH} {L : List HP} {w : World} {a0 : Txn} {A_p0_ops : Option Addr} {c_p0_ops : Nat} (h_p0_ops : kOp.Sl s (.slice A_p0_ops a0.ops.length c_p0_ops) a0.ops) (H : Holds E s (L) w) :
    Calls Try.prog 74 #[.agg #[.int .i64 a0.proc, .int .i64 a0.state, .int .i64 a0.from_, .int .i64 a0.to, .slice A_p0_ops a0.ops.length c_p0_ops]] w fun e w' => e = .returned (.bool (search_done_f a0)) ∧ Holds E s (L) w' := by
  obtain ⟨R, hm⟩ : ∃ R, search_done_f a0 = R := ⟨_, rfl⟩
  (try rw [hm])
  unfold search_done_f at hm
  go_enter Try.func74, Try.ntmps74
  refine wp_seq ?_
  refine wp_region_lit ?_
  refine OpG.list rfl ?_; refine B_x 30 _ rfl (v := .agg #[.int .i64 a0.proc, .int .i64 a0.state, .int .i64 a0.from_, .int .i64 a0.to, .slice A_p0_ops a0.ops.length c_p0_ops]) rfl H ?_; clear H; intro b1 w1 H; (try simp only [Value.cells] at H)
  (try simp only [Act.put, List.setIfInBounds_toArray, List.set_cons_succ, List.set_cons_zero])
  apply seq_op (V := .bool false) rfl
  · intro Φ hΦ; refine O_as rfl rfl ?_; exact hΦ
  (try simp only [Act.put, List.setIfInBounds_toArray, List.set_cons_succ, List.set_cons_zero])
  refine list_end ?_
  refine then_norm ?_
  refine wp_seq ?_
  refine wp_region_lit ?_
  apply seq_op (V := .pointer (some ⟨b1, 1, none⟩)) rfl
  · intro Φ hΦ; refine O_fld rfl Try.underlying30 rfl (Try.sizeOf3 _) rfl ?_; exact hΦ
  (try simp only [Act.put, List.setIfInBounds_toArray, List.set_cons_succ, List.set_cons_zero])
  apply seq_op (V := .int .i64 a0.state) rfl
  · intro Φ hΦ; refine L_1 0 _ _ rfl (Try.isAgg3 _) rfl H rfl rfl ?_; exact hΦ
  (try simp only [Act.put, List.setIfInBounds_toArray, List.set_cons_succ, List.set_cons_zero])
  apply seq_op (V := .bool (a0.state == 1)) rfl
  · intro Φ hΦ; refine O_bin rfl rfl rfl eqg_int r_eql ?_; exact hΦ
  (try simp only [Act.put, List.setIfInBounds_toArray, List.set_cons_succ, List.set_cons_zero])
  apply seq_op (V := .bool (a0.state == 1)) rfl
  · intro Φ hΦ; refine O_mv rfl rfl ?_; exact hΦ
  (try simp only [Act.put, List.setIfInBounds_toArray, List.set_cons_succ, List.set_cons_zero])
  refine seq_opg (c := (!(a0.state == 1))) (V := .pointer (some ⟨b1, 1, none⟩)) (by first | exact wanted_f rfl rfl rfl | exact wanted_vf rfl rfl rfl) ?_ ?_
  · intro hc Φ hΦ; refine O_fld rfl Try.underlying30 rfl (Try.sizeOf3 _) rfl ?_; exact hΦ
  (try simp only [Act.put, List.setIfInBounds_toArray, List.set_cons_succ, List.set_cons_zero])
  refine seq_opg (c := (!(a0.state == 1))) (V := .int .i64 a0.state) (by first | exact wanted_f rfl rfl rfl | exact wanted_vf rfl rfl rfl) ?_ ?_
  · intro hc Φ hΦ; (repeat (first | rw [vg_of hc] | rw [vg_of (and_l hc)] | rw [vg_of (and_l (and_l hc))] | rw [vg_of (and_l (and_l (and_l hc)))] | rw [vg_and hc])); refine L_1 0 _ _ rfl (Try.isAgg3 _) rfl H rfl rfl ?_; exact hΦ
  (try simp only [Act.put, List.setIfInBounds_toArray, List.set_cons_succ, List.set_cons_zero])
  refine seq_opg (c := (!(a0.state == 1))) (V := .bool (a0.state == 3)) (by first | exact wanted_f rfl rfl rfl | exact wanted_vf rfl rfl rfl) ?_ ?_
  · intro hc Φ hΦ; (repeat (first | rw [vg_of hc] | rw [vg_of (and_l hc)] | rw [vg_of (and_l (and_l hc))] | rw [vg_of (and_l (and_l (and_l hc)))] | rw [vg_and hc])); refine O_bin rfl rfl rfl eqg_int r_eql ?_; exact hΦ
  (try simp only [Act.put, List.setIfInBounds_toArray, List.set_cons_succ, List.set_cons_zero])
  apply seq_op (V := .bool ((a0.state == 1) || (a0.state == 3))) rfl
  · intro Φ hΦ; refine G_or _ _ _ rfl rfl rfl rfl ?_; exact hΦ
  (try simp only [Act.put, List.setIfInBounds_toArray, List.set_cons_succ, List.set_cons_zero])
  apply seq_op (V := .bool ((a0.state == 1) || (a0.state == 3))) rfl
  · intro Φ hΦ; refine O_as rfl rfl ?_; exact hΦ
  (try simp only [Act.put, List.setIfInBounds_toArray, List.set_cons_succ, List.set_cons_zero])
  refine list_end ?_
  refine then_norm ?_
  refine wp_ret ?_
  subst hm
  replace H := H.dropAt 0 rfl; simp only [List.eraseIdx_cons_succ, List.eraseIdx_cons_zero] at H
  exact ret1 rfl (rv_tmp rfl) rfl ⟨rfl, H⟩
def search_ahead_f (a0 : Txn) (a1 : Txn) : Bool := (((a0.state == 1) && (decide (a0.to ≥ 0))) && (decide (a0.to < a1.from_)))

set_option maxHeartbeats 4000000 in
theorem search_ahead_w {E : World} {s : SH} {L : List HP} {w : World} {a0 : Txn} {a1 : Txn} {A_p0_ops : Option Addr} {c_p0_ops : Nat} (h_p0_ops : kOp.Sl s (.slice A_p0_ops a0.ops.length c_p0_ops) a0.ops) {A_p1_ops : Option Addr} {c_p1_ops : Nat} (h_p1_ops : kOp.Sl s (.slice A_p1_ops a1.ops.length c_p1_ops) a1.ops) (H : Holds E s (L) w) :
    Calls Try.prog 77 #[.agg #[.int .i64 a0.proc, .int .i64 a0.state, .int .i64 a0.from_, .int .i64 a0.to, .slice A_p0_ops a0.ops.length c_p0_ops], .agg #[.int .i64 a1.proc, .int .i64 a1.state, .int .i64 a1.from_, .int .i64 a1.to, .slice A_p1_ops a1.ops.length c_p1_ops]] w fun e w' => e = .returned (.bool (search_ahead_f a0 a1)) ∧ Holds E s (L) w' := by
  obtain ⟨R, hm⟩ : ∃ R, search_ahead_f a0 a1 = R := ⟨_, rfl⟩
  (try rw [hm])
  unfold search_ahead_f at hm
  go_enter Try.func77, Try.ntmps77
  refine wp_seq ?_
  refine wp_region_lit ?_
  refine OpG.list rfl ?_; refine B_x 30 _ rfl (v := .agg #[.int .i64 a0.proc, .int .i64 a0.state, .int .i64 a0.from_, .int .i64 a0.to, .slice A_p0_ops a0.ops.length c_p0_ops]) rfl H ?_; clear H; intro b2 w1 H; (try simp only [Value.cells] at H)
  (try simp only [Act.put, List.setIfInBounds_toArray, List.set_cons_succ, List.set_cons_zero])
  refine OpG.list rfl ?_; refine B_x 30 _ rfl (v := .agg #[.int .i64 a1.proc, .int .i64 a1.state, .int .i64 a1.from_, .int .i64 a1.to, .slice A_p1_ops a1.ops.length c_p1_ops]) rfl H ?_; clear H; intro b3 w1 H; (try simp only [Value.cells] at H)
  (try simp only [Act.put, List.setIfInBounds_toArray, List.set_cons_succ, List.set_cons_zero])
  apply seq_op (V := .bool false) rfl
  · intro Φ hΦ; refine O_as rfl rfl ?_; exact hΦ
  (try simp only [Act.put, List.setIfInBounds_toArray, List.set_cons_succ, List.set_cons_zero])
  refine list_end ?_
  refine then_norm ?_
  refine wp_seq ?_
  refine wp_region_lit ?_
  apply seq_op (V := .pointer (some ⟨b2, 1, none⟩)) rfl
  · intro Φ hΦ; refine O_fld rfl Try.underlying30 rfl (Try.sizeOf3 _) rfl ?_; exact hΦ
  (try simp only [Act.put, List.setIfInBounds_toArray, List.set_cons_succ, List.set_cons_zero])
  apply seq_op (V := .int .i64 a0.state) rfl
  · intro Φ hΦ; refine L_1 1 _ _ rfl (Try.isAgg3 _) rfl H rfl rfl ?_; exact hΦ
  (try simp only [Act.put, List.setIfInBounds_toArray, List.set_cons_succ, List.set_cons_zero])
  apply seq_op (V := .bool (a0.state == 1)) rfl
  · intro Φ hΦ; refine O_bin rfl rfl rfl eqg_int r_eql ?_; exact hΦ
  (try simp only [Act.put, List.setIfInBounds_toArray, List.set_cons_succ, List.set_cons_zero])
  apply seq_op (V := .bool (a0.state == 1)) rfl
  · intro Φ hΦ; refine O_mv rfl rfl ?_; exact hΦ
  (try simp only [Act.put, List.setIfInBounds_toArray, List.set_cons_succ, List.set_cons_zero])
  refine seq_opg (c := (a0.state == 1)) (V := .pointer (some ⟨b2, 3, none⟩)) (by first | exact wanted_t rfl rfl rfl | exact wanted_vt rfl rfl rfl) ?_ ?_
  · intro hc Φ hΦ; refine O_fld rfl Try.underlying30 rfl (Try.sizeOf3 _) rfl ?_; exact hΦ
  (try simp only [Act.put, List.setIfInBounds_toArray, List.set_cons_succ, List.set_cons_zero])
  refine seq_opg (c := (a0.state == 1)) (V := .int .i64 a0.to) (by first | exact wanted_t rfl rfl rfl | exact wanted_vt rfl rfl rfl) ?_ ?_
  · intro hc Φ hΦ; (repeat (first | rw [vg_of hc] | rw [vg_of (and_l hc)] | rw [vg_of (and_l (and_l hc))] | rw [vg_of (and_l (and_l (and_l hc)))] | rw [vg_and hc])); refine L_1 1 _ _ rfl (Try.isAgg3 _) rfl H rfl rfl ?_; exact hΦ
  (try simp only [Act.put, List.setIfInBounds_toArray, List.set_cons_succ, List.set_cons_zero])
  refine seq_opg (c := (a0.state == 1)) (V := .bool (decide (a0.to ≥ 0))) (by first | exact wanted_t rfl rfl rfl | exact wanted_vt rfl rfl rfl) ?_ ?_
  · intro hc Φ hΦ; (repeat (first | rw [vg_of hc] | rw [vg_of (and_l hc)] | rw [vg_of (and_l (and_l hc))] | rw [vg_of (and_l (and_l (and_l hc)))] | rw [vg_and hc])); refine O_bin rfl rfl rfl eqg_int r_geq ?_; exact hΦ
  (try simp only [Act.put, List.setIfInBounds_toArray, List.set_cons_succ, List.set_cons_zero])
  apply seq_op (V := .bool ((a0.state == 1) && (decide (a0.to ≥ 0)))) rfl
  · intro Φ hΦ; refine G_and _ _ _ rfl rfl rfl rfl ?_; exact hΦ
  (try simp only [Act.put, List.setIfInBounds_toArray, List.set_cons_succ, List.set_cons_zero])
  apply seq_op (V := .bool ((a0.state == 1) && (decide (a0.to ≥ 0)))) rfl
  · intro Φ hΦ; refine O_mv rfl rfl ?_; exact hΦ
  (try simp only [Act.put, List.setIfInBounds_toArray, List.set_cons_succ, List.set_cons_zero])
  refine seq_opg (c := ((a0.state == 1) && (decide (a0.to ≥ 0)))) (V := .pointer (some ⟨b2, 3, none⟩)) (by first | exact wanted_t rfl rfl rfl | exact wanted_vt rfl rfl rfl) ?_ ?_
  · intro hc Φ hΦ; refine O_fld rfl Try.underlying30 rfl (Try.sizeOf3 _) rfl ?_; exact hΦ
  (try simp only [Act.put, List.setIfInBounds_toArray, List.set_cons_succ, List.set_cons_zero])
  refine seq_opg (c := ((a0.state == 1) && (decide (a0.to ≥ 0)))) (V := .int .i64 a0.to) (by first | exact wanted_t rfl rfl rfl | exact wanted_vt rfl rfl rfl) ?_ ?_
  · intro hc Φ hΦ; (repeat (first | rw [vg_of hc] | rw [vg_of (and_l hc)] | rw [vg_of (and_l (and_l hc))] | rw [vg_of (and_l (and_l (and_l hc)))] | rw [vg_and hc])); refine L_1 1 _ _ rfl (Try.isAgg3 _) rfl H rfl rfl ?_; exact hΦ
  (try simp only [Act.put, List.setIfInBounds_toArray, List.set_cons_succ, List.set_cons_zero])
  refine seq_opg (c := ((a0.state == 1) && (decide (a0.to ≥ 0)))) (V := .pointer (some ⟨b3, 2, none⟩)) (by first | exact wanted_t rfl rfl rfl | exact wanted_vt rfl rfl rfl) ?_ ?_
  · intro hc Φ hΦ; refine O_fld rfl Try.underlying30 rfl (Try.sizeOf3 _) rfl ?_; exact hΦ
  (try simp only [Act.put, List.setIfInBounds_toArray, List.set_cons_succ, List.set_cons_zero])
  refine seq_opg (c := ((a0.state == 1) && (decide (a0.to ≥ 0)))) (V := .int .i64 a1.from_) (by first | exact wanted_t rfl rfl rfl | exact wanted_vt rfl rfl rfl) ?_ ?_
  · intro hc Φ hΦ; (repeat (first | rw [vg_of hc] | rw [vg_of (and_l hc)] | rw [vg_of (and_l (and_l hc))] | rw [vg_of (and_l (and_l (and_l hc)))] | rw [vg_and hc])); refine L_1 0 _ _ rfl (Try.isAgg3 _) rfl H rfl rfl ?_; exact hΦ
  (try simp only [Act.put, List.setIfInBounds_toArray, List.set_cons_succ, List.set_cons_zero])
  refine seq_opg (c := ((a0.state == 1) && (decide (a0.to ≥ 0)))) (V := .bool (decide (a0.to < a1.from_))) (by first | exact wanted_t rfl rfl rfl | exact wanted_vt rfl rfl rfl) ?_ ?_
  · intro hc Φ hΦ; (repeat (first | rw [vg_of hc] | rw [vg_of (and_l hc)] | rw [vg_of (and_l (and_l hc))] | rw [vg_of (and_l (and_l (and_l hc)))] | rw [vg_and hc])); refine O_bin rfl rfl rfl eqg_int r_lss ?_; exact hΦ
  (try simp only [Act.put, List.setIfInBounds_toArray, List.set_cons_succ, List.set_cons_zero])
  apply seq_op (V := .bool (((a0.state == 1) && (decide (a0.to ≥ 0))) && (decide (a0.to < a1.from_)))) rfl
  · intro Φ hΦ; refine G_and _ _ _ rfl rfl rfl rfl ?_; exact hΦ
  (try simp only [Act.put, List.setIfInBounds_toArray, List.set_cons_succ, List.set_cons_zero])
  apply seq_op (V := .bool (((a0.state == 1) && (decide (a0.to ≥ 0))) && (decide (a0.to < a1.from_)))) rfl
  · intro Φ hΦ; refine O_as rfl rfl ?_; exact hΦ
  (try simp only [Act.put, List.setIfInBounds_toArray, List.set_cons_succ, List.set_cons_zero])
  refine list_end ?_
  refine then_norm ?_
  refine wp_ret ?_
  subst hm
  replace H := H.dropAt 1 rfl; simp only [List.eraseIdx_cons_succ, List.eraseIdx_cons_zero] at H
  replace H := H.dropAt 0 rfl; simp only [List.eraseIdx_cons_succ, List.eraseIdx_cons_zero] at H
  exact ret1 rfl (rv_tmp rfl) rfl ⟨rfl, H⟩
def search_Right_1_f (a0 : Int) (a1 : List Txn) (a2 : Int) : Option Bool := (rdI a1 a2).bind fun u1 => (rdI a1 a0).bind fun u2 => some (search_ahead_f u1 u2)

set_option maxHeartbeats 4000000 in
theorem search_Right_1_w {E : World} {s : SH} {L : List HP} {w : World} {a0 : Int} {a1 : List Txn} {a2 : Int} {A_p1 : Option Addr} {c_p1 : Nat} (h_p1 : kT.Sl s (.slice A_p1 a1.length c_p1) a1) {b_p1 o_p1 : Nat} (hC_p1 : Cells s ⟨b_p1, o_p1, none⟩ [.slice A_p1 a1.length c_p1]) {b_p2 o_p2 : Nat} (hC_p2 : Cells s ⟨b_p2, o_p2, none⟩ [.int .i64 a2]) {R : Bool} (hm : search_Right_1_f a0 a1 a2 = some R) (H : Holds E s (L) w) :
    Calls Try.prog 76 #[.int .i64 a0, .pointer (some ⟨b_p1, o_p1, none⟩), .pointer (some ⟨b_p2, o_p2, none⟩)] w fun e w' => e = .returned (.bool R) ∧ Holds E s (L) w' := by
  unfold search_Right_1_f at hm
  go_enter Try.func76, Try.ntmps76
  refine wp_seq ?_
  refine wp_region_lit ?_
  apply seq_op (V := .bool false) rfl
  · intro Φ hΦ; refine O_as rfl rfl ?_; exact hΦ
  (try simp only [Act.put, List.setIfInBounds_toArray, List.set_cons_succ, List.set_cons_zero])
  refine list_end ?_
  refine then_norm ?_
  refine wp_seq ?_
  obtain ⟨u1, gx1, hm⟩ := bs hm
  obtain ⟨kk1, gk1, gl1, gd1⟩ := rdI_some gx1
  obtain ⟨be1, oe1, A4e1, c4e1, rfl, hCe1, h0e1, h1e1, h2e1, h3e1, h4e1⟩ := kT_el h_p1 gd1
  obtain ⟨u2, gx2, hm⟩ := bs hm
  obtain ⟨kk2, gk2, gl2, gd2⟩ := rdI_some gx2
  obtain ⟨A4e2, c4e2, hCe2, h0e2, h1e2, h2e2, h3e2, h4e2⟩ := kT_el2 h_p1 gd2
  refine wp_draw_obO (k := 9) (sz := 14) (List.replicate 9 9) (fun _ => []) mixed (by simp) rfl (by kernel_rfl) (by kernel_rfl) (by kernel_rfl) H (by simp only [List.take_succ_cons, List.take_zero]; exact rfl) (by simp only [List.drop_succ_cons, List.drop_zero]; exact rfl)
    (fun y => by simp only [ov, Act.put, List.setIfInBounds_toArray, List.set_cons_succ, List.set_cons_zero, Nat.zero_add, Nat.reduceAdd]; exact rfl) ?_
  apply ObO.valw (V := .slice (some ⟨be1, oe1, none⟩) a1.length c_p1)
  · intro x; rfl
  · intro s' w' y Φ R hs H hG hΦ; refine wantG rfl ?_; refine G_s1 _ _ rfl (Try.isAgg22 _) rfl H (hC_p1.mono hs) 0 rfl rfl ?_; exact hΦ _ _ (Sub.refl _) H
  apply ObO.valw (V := .int .i64 a2)
  · intro x; rfl
  · intro s' w' y Φ R hs H hG hΦ; refine wantG rfl ?_; refine G_s1 _ _ rfl (Try.isAgg3 _) rfl H (hC_p2.mono hs) 0 rfl rfl ?_; exact hΦ _ _ (Sub.refl _) H
  apply ObO.valw (V := .pointer (some ⟨be1, oe1 + kk1 * 5, none⟩))
  · intro x; rfl
  · intro s' w' y Φ R hs H hG hΦ; simp only [List.nil_append, List.cons_append] at hG; have e0 : y 0 = _ := dh_get hG 0 rfl (by kernel_rfl); have e1 : y 1 = _ := dh_get hG 1 rfl (by kernel_rfl); simp only [e0, e1]; refine wantG rfl ?_; refine O_ix rfl Try.underlying22 (Try.sizeOf30 _) rfl rfl gk1 gl1 ?_; exact hΦ _ _ (Sub.refl _) H
  apply ObO.valw (V := .agg #[.int .i64 u1.proc, .int .i64 u1.state, .int .i64 u1.from_, .int .i64 u1.to, .slice A4e1 u1.ops.length c4e1])
  · intro x; rfl
  · intro s' w' y Φ R hs H hG hΦ; simp only [List.nil_append, List.cons_append] at hG; have e2 : y 2 = _ := dh_get hG 2 rfl (by kernel_rfl); simp only [e2]; refine wantG rfl ?_; refine G_sN _ _ rfl (Try.isAgg30 _) rfl H (hCe1.mono hs) (Try.sizeOf30 _) ?_; exact hΦ _ _ (Sub.refl _) H
  apply ObO.valw (V := .slice (some ⟨be1, oe1, none⟩) a1.length c_p1)
  · intro x; rfl
  · intro s' w' y Φ R hs H hG hΦ; refine wantG rfl ?_; refine G_s1 _ _ rfl (Try.isAgg22 _) rfl H (hC_p1.mono hs) 0 rfl rfl ?_; exact hΦ _ _ (Sub.refl _) H
  apply ObO.valw (V := .int .i64 a0)
  · intro x; rfl
  · intro s' w' y Φ R hs H hG hΦ; refine wantG rfl ?_; refine O_mv rfl rfl ?_; exact hΦ _ _ (Sub.refl _) H
  apply ObO.valw (V := .pointer (some ⟨be1, oe1 + kk2 * 5, none⟩))
  · intro x; rfl
  · intro s' w' y Φ R hs H hG hΦ; simp only [List.nil_append, List.cons_append] at hG; have e4 : y 4 = _ := dh_get hG 4 rfl (by kernel_rfl); have e5 : y 5 = _ := dh_get hG 5 rfl (by kernel_rfl); simp only [e4, e5]; refine wantG rfl ?_; refine O_ix rfl Try.underlying22 (Try.sizeOf30 _) rfl rfl gk2 gl2 ?_; exact hΦ _ _ (Sub.refl _) H
  apply ObO.valw (V := .agg #[.int .i64 u2.proc, .int .i64 u2.state, .int .i64 u2.from_, .int .i64 u2.to, .slice A4e2 u2.ops.length c4e2])
  · intro x; rfl
  · intro s' w' y Φ R hs H hG hΦ; simp only [List.nil_append, List.cons_append] at hG; have e6 : y 6 = _ := dh_get hG 6 rfl (by kernel_rfl); simp only [e6]; refine wantG rfl ?_; refine G_sN _ _ rfl (Try.isAgg30 _) rfl H (hCe2.mono hs) (Try.sizeOf30 _) ?_; exact hΦ _ _ (Sub.refl _) H
  apply ObO.valw (V := .bool (search_ahead_f u1 u2))
  · intro x; rfl
  · intro s' w' y Φ R hs H hG hΦ; simp only [List.nil_append, List.cons_append] at hG; have e3 : y 3 = _ := dh_get hG 3 rfl (by kernel_rfl); have e7 : y 7 = _ := dh_get hG 7 rfl (by kernel_rfl); simp only [e3, e7]; refine wantG rfl ?_; refine O_call2 rfl Try.func77 rfl rfl rfl rfl ?_; refine (search_ahead_w (a0 := u1) (h_p0_ops := (h4e1.mono hs)) (a1 := u2) (h_p1_ops := (h4e2.mono hs)) (H := H)).mono ?_; rintro e w2 ⟨rfl, H⟩; exact ⟨_, rfl, hΦ _ _ (Sub.refl _) H⟩
  clear H
  intro s3 w3 yy hs3 H hG
  replace H := (show Holds _ _ ([] ++ _) _ from H); rw [List.nil_append] at H
  simp only [List.nil_append, List.cons_append] at hG
  have e0 : yy 0 = _ := gh_get hG 0 rfl
  have e1 : yy 1 = _ := gh_get hG 1 rfl
  have e2 : yy 2 = _ := gh_get hG 2 rfl
  have e3 : yy 3 = _ := gh_get hG 3 rfl
  have e4 : yy 4 = _ := gh_get hG 4 rfl
  have e5 : yy 5 = _ := gh_get hG 5 rfl
  have e6 : yy 6 = _ := gh_get hG 6 rfl
  have e7 : yy 7 = _ := gh_get hG 7 rfl
  have e8 : yy 8 = _ := gh_get hG 8 rfl
  simp only [e0, e1, e2, e3, e4, e5, e6, e7, e8]
  clear hG e0 e1 e2 e3 e4 e5 e6 e7 e8
  replace H := H.forget hs3; clear hs3
  apply seq_op (V := .bool (search_ahead_f u1 u2)) rfl
  · intro Φ hΦ; refine O_as rfl rfl ?_; exact hΦ
  (try simp only [Act.put, List.setIfInBounds_toArray, List.set_cons_succ, List.set_cons_zero])
  refine list_end ?_
  refine then_norm ?_
  refine wp_ret ?_
  have hm := Option.some.inj hm
  subst hm
  exact ret1 rfl (rv_tmp rfl) rfl ⟨rfl, H⟩
def slices_IndexFunc_I_search_Right_1_l2 (a1c0 : List Txn) (a1c1 : Int) : Nat → List Int → Option ((Int ⊕ Unit))
  | k2, []  => some (.inr ())
  | k2, x2 :: r2 => (search_Right_1_f x2 a1c0 a1c1).bind fun u1 => if u1 = true then (some (.inl (k2 : Int))) else (slices_IndexFunc_I_search_Right_1_l2 a1c0 a1c1 (k2 + 1) r2)

def slices_IndexFunc_I_search_Right_1_f (a0 : List Int) (a1c0 : List Txn) (a1c1 : Int) : Option Int := (slices_IndexFunc_I_search_Right_1_l2 a1c0 a1c1 0 a0).bind fun | .inl z2_r => (some z2_r) | .inr () => (some (-1))

set_option maxHeartbeats 4000000 in
theorem slices_IndexFunc_I_search_Right_1_w {E : World} {s : SH} {L : List HP} {w : World} {a0 : List Int} {a1c0 : List Txn} {a1c1 : Int} {A_p0 : Option Addr} {c_p0 : Nat} (h_p0 : kI.Sl s (.slice A_p0 a0.length c_p0) a0) {A_p1c0 : Option Addr} {c_p1c0 : Nat} (h_p1c0 : kT.Sl s (.slice A_p1c0 a1c0.length c_p1c0) a1c0) {b_p1c0 o_p1c0 : Nat} (hC_p1c0 : Cells s ⟨b_p1c0, o_p1c0, none⟩ [.slice A_p1c0 a1c0.length c_p1c0]) {b_p1c1 o_p1c1 : Nat} (hC_p1c1 : Cells s ⟨b_p1c1, o_p1c1, none⟩ [.int .i64 a1c1]) {R : Int} (hm : slices_IndexFunc_I_search_Right_1_f a0 a1c0 a1c1 = some R) (H : Holds E s (L) w) :
    Calls Try.prog 97 #[.slice A_p0 a0.length c_p0, .func (.func 76) #[] #[.pointer (some ⟨b_p1c0, o_p1c0, none⟩), .pointer (some ⟨b_p1c1, o_p1c1, none⟩)]] w fun e w' => e = .returned (.int .i64 R) ∧ Holds E s (L) w' := by
  unfold slices_IndexFunc_I_search_Right_1_f at hm
  go_enter Try.func97, Try.ntmps97
  refine wp_seq ?_
  refine wp_region_lit ?_
  apply seq_op (V := .int .i64 0) rfl
  · intro Φ hΦ; refine O_as rfl rfl ?_; exact hΦ
  (try simp only [Act.put, List.setIfInBounds_toArray, List.set_cons_succ, List.set_cons_zero])
  refine list_end ?_
  refine then_norm ?_
  refine wp_seq ?_
  refine wp_seq ?_
  refine wp_region_lit ?_
  apply seq_op (V := .slice A_p0 a0.length c_p0) rfl
  · intro Φ hΦ; refine O_mv rfl rfl ?_; exact hΦ
  (try simp only [Act.put, List.setIfInBounds_toArray, List.set_cons_succ, List.set_cons_zero])
  apply seq_op (V := .int .i64 (a0.length : Int)) rfl
  · intro Φ hΦ; refine O_len rfl Try.underlying33 rfl ?_; exact hΦ
  (try simp only [Act.put, List.setIfInBounds_toArray, List.set_cons_succ, List.set_cons_zero])
  apply seq_op (V := .int .i64 0) rfl
  · intro Φ hΦ; refine O_mv rfl rfl ?_; exact hΦ
  (try simp only [Act.put, List.setIfInBounds_toArray, List.set_cons_succ, List.set_cons_zero])
  refine list_end ?_
  refine then_norm ?_
  refine wp_block ?_
  obtain ⟨R2, hq2, hm⟩ := bs hm
  have hn2 := Nat.le_trans (len_le (d := kI) h_p0 (by decide)) (by decide : (140737488355328 : Nat) ≤ 9223372036854775807)
  refine wp_loopF [none, none, none, none, some 4, some 5, none, none, some 8, some 9, some 10, some 11, some 12, some 13, some 14, some 15, some 16, some 17, some 18] rfl (by simp) (fun f w => ∃ (k2 : Nat) (r2 : List Int), a0.drop k2 = r2 ∧ f 8 = .int .i64 (k2 : Int) ∧ slices_IndexFunc_I_search_Right_1_l2 a1c0 a1c1 k2 r2 = some R2 ∧ Holds E s (L) w) (fun f w => a0.length - (intOf (f 8)).toNat) ?_ ?_
  · exact ⟨0, a0, rfl, rfl, hq2, H⟩
  · clear H
    intro f w hI
    obtain ⟨k2, r2, hd2, hf8, hq2', H⟩ := hI
    clear hq2; have hq2 := hq2'; clear hq2'
    simp only [ovm, mixM]
    simp only [hf8]; clear hf8
    refine wp_seq ?_
    refine wp_region_lit ?_
    apply seq_op (V := .bool (decide ((k2 : Int) < (a0.length : Int)))) rfl
    · intro Φ hΦ; refine O_bin rfl rfl rfl eqg_int r_lss ?_; exact hΦ
    (try simp only [Act.put, List.setIfInBounds_toArray, List.set_cons_succ, List.set_cons_zero])
    refine list_end ?_
    refine then_norm ?_
    refine wp_seq ?_
    refine wp_cond_split rfl (fun hc => ?_) (fun hc => ?_)
    · have hc1 := hc
      clear hc
      obtain ⟨x2, r2', rfl, hd2', hd2'', hl2⟩ := rng_t hd2 hc1
      rw [slices_IndexFunc_I_search_Right_1_l2] at hq2
      refine wp_skip ?_
      refine then_norm ?_
      refine wp_seq ?_
      refine wp_block ?_
      refine wp_seq ?_
      refine wp_region_lit ?_
      apply seq_op (V := .int .i64 (k2 : Int)) rfl
      · intro Φ hΦ; refine O_mv rfl rfl ?_; exact hΦ
      (try simp only [Act.put, List.setIfInBounds_toArray, List.set_cons_succ, List.set_cons_zero])
      apply seq_op (V := .int .i64 (k2 : Int)) rfl
      · intro Φ hΦ; refine O_as rfl rfl ?_; exact hΦ
      (try simp only [Act.put, List.setIfInBounds_toArray, List.set_cons_succ, List.set_cons_zero])
      refine list_end ?_
      refine then_norm ?_
      refine wp_seq ?_
      obtain ⟨be1, oe1, rfl, hCe1, h0e1⟩ := kI_el h_p0 hd2'
      obtain ⟨u1, gx1, hq2⟩ := bs hq2
      refine wp_region_lit ?_
      apply seq_op (V := .func (.func 76) #[] #[.pointer (some ⟨b_p1c0, o_p1c0, none⟩), .pointer (some ⟨b_p1c1, o_p1c1, none⟩)]) rfl
      · intro Φ hΦ; refine O_mv rfl rfl ?_; exact hΦ
      (try simp only [Act.put, List.setIfInBounds_toArray, List.set_cons_succ, List.set_cons_zero])
      apply seq_op (V := .slice (some ⟨be1, oe1, none⟩) a0.length c_p0) rfl
      · intro Φ hΦ; refine O_mv rfl rfl ?_; exact hΦ
      (try simp only [Act.put, List.setIfInBounds_toArray, List.set_cons_succ, List.set_cons_zero])
      apply seq_op (V := .int .i64 (k2 : Int)) rfl
      · intro Φ hΦ; refine O_mv rfl rfl ?_; exact hΦ
      (try simp only [Act.put, List.setIfInBounds_toArray, List.set_cons_succ, List.set_cons_zero])
      apply seq_op (V := .pointer (some ⟨be1, oe1 + k2 * 1, none⟩)) rfl
      · intro Φ hΦ; refine O_ix rfl Try.underlying33 (Try.sizeOf3 _) rfl rfl rfl hl2 ?_; exact hΦ
      (try simp only [Act.put, List.setIfInBounds_toArray, List.set_cons_succ, List.set_cons_zero])
      apply seq_op (V := .int .i64 x2) rfl
      · intro Φ hΦ; refine G_s1 _ _ rfl (Try.isAgg3 _) rfl H hCe1 0 rfl rfl ?_; exact hΦ
      (try simp only [Act.put, List.setIfInBounds_toArray, List.set_cons_succ, List.set_cons_zero])
      refine seq_call rfl (fun Φ hΦ => by refine O_callv1 (v1 := .int .i64 x2) rfl Try.func76 rfl rfl rfl rfl (by simp only [List.push_toArray, List.append_toArray, List.cons_append, List.nil_append]) hΦ) (search_Right_1_w (a0 := x2) (a1 := a1c0) (hC_p1 := hC_p1c0) (h_p1 := h_p1c0) (a2 := a1c1) (hC_p2 := hC_p1c1) (hm := gx1) (H := H)) ?_
      clear H
      rintro e w1 ⟨rfl, H⟩; refine ⟨_, rfl, ?_⟩
      (try simp only [Act.put, List.setIfInBounds_toArray, List.set_cons_succ, List.set_cons_zero])
      refine list_end ?_
      refine then_norm ?_
      refine wp_cond_split rfl (fun hc => ?_) (fun hc => ?_)
      · have hc2 := hc
        clear hc
        replace hq2 := ifT hc2 hq2
        refine wp_seq ?_
        refine wp_region_lit ?_
        apply seq_op (V := .int .i64 (k2 : Int)) rfl
        · intro Φ hΦ; refine O_mv rfl rfl ?_; exact hΦ
        (try simp only [Act.put, List.setIfInBounds_toArray, List.set_cons_succ, List.set_cons_zero])
        apply seq_op (V := .int .i64 (k2 : Int)) rfl
        · intro Φ hΦ; refine O_as rfl rfl ?_; exact hΦ
        (try simp only [Act.put, List.setIfInBounds_toArray, List.set_cons_succ, List.set_cons_zero])
        refine list_end ?_
        refine then_norm ?_
        refine wp_ret ?_
        refine block_ret ?_
        refine then_ret ?_
        refine then_ret ?_
        refine block_ret ?_
        refine then_ret ?_
        have hq2 := Option.some.inj hq2
        subst hq2
        (try dsimp only at hm)
        have hm := Option.some.inj hm
        subst hm
        exact ret1 rfl (rv_tmp rfl) rfl ⟨rfl, H⟩
      · have hc2 := hc
        clear hc
        replace hq2 := ifF hc2 hq2
        refine wp_skip ?_
        refine block_norm ?_
        refine then_norm ?_
        refine wp_region_lit ?_
        apply seq_op (V := .int .i64 (IntKind.i64.wrap ((k2 : Int) + 1))) rfl
        · intro Φ hΦ; refine O_bin rfl rfl rfl eqg_int r_add ?_; exact hΦ
        (try simp only [Act.put, List.setIfInBounds_toArray, List.set_cons_succ, List.set_cons_zero])
        apply seq_op (V := .int .i64 (IntKind.i64.wrap ((k2 : Int) + 1))) rfl
        · intro Φ hΦ; refine O_mv rfl rfl ?_; exact hΦ
        (try simp only [Act.put, List.setIfInBounds_toArray, List.set_cons_succ, List.set_cons_zero])
        refine list_end ?_
        refine then_norm ?_
        refine ⟨⟨⟨rfl, rfl, rfl, rfl, rfl, rfl, rfl⟩, rfl⟩, ⟨k2 + 1, _, hd2'', wrap_succ hl2 hn2, hq2, H⟩, ?_⟩
        exact meas_succ hl2 hn2
    · have hc1 := hc
      clear hc
      obtain rfl := rng_f hd2 hc1
      rw [slices_IndexFunc_I_search_Right_1_l2] at hq2
      refine wp_exit ?_
      refine then_exit ?_
      refine then_exit ?_
      have hq2 := Option.some.inj hq2
      subst hq2
      (try dsimp only at hm)
      refine block_exit ?_
      refine then_norm ?_
      refine wp_seq ?_
      refine wp_region_lit ?_
      apply seq_op (V := .int .i64 (-1)) rfl
      · intro Φ hΦ; refine O_as rfl rfl ?_; exact hΦ
      (try simp only [Act.put, List.setIfInBounds_toArray, List.set_cons_succ, List.set_cons_zero])
      refine list_end ?_
      refine then_norm ?_
      refine wp_ret ?_
      have hm := Option.some.inj hm
      subst hm
      exact ret1 rfl (rv_tmp rfl) rfl ⟨rfl, H⟩
def slices_ContainsFunc_I_search_Right_1_f (a0 : List Int) (a1c0 : List Txn) (a1c1 : Int) : Option Bool := (slices_IndexFunc_I_search_Right_1_f a0 a1c0 a1c1).bind fun u1 => some (decide (u1 ≥ 0))

set_option maxHeartbeats 4000000 in
theorem slices_ContainsFunc_I_search_Right_1_w {E : World} {s : SH} {L : List HP} {w : World} {a0 : List Int} {a1c0 : List Txn} {a1c1 : Int} {A_p0 : Option Addr} {c_p0 : Nat} (h_p0 : kI.Sl s (.slice A_p0 a0.length c_p0) a0) {A_p1c0 : Option Addr} {c_p1c0 : Nat} (h_p1c0 : kT.Sl s (.slice A_p1c0 a1c0.length c_p1c0) a1c0) {b_p1c0 o_p1c0 : Nat} (hC_p1c0 : Cells s ⟨b_p1c0, o_p1c0, none⟩ [.slice A_p1c0 a1c0.length c_p1c0]) {b_p1c1 o_p1c1 : Nat} (hC_p1c1 : Cells s ⟨b_p1c1, o_p1c1, none⟩ [.int .i64 a1c1]) {R : Bool} (hm : slices_ContainsFunc_I_search_Right_1_f a0 a1c0 a1c1 = some R) (H : Holds E s (L) w) :
    Calls Try.prog 75 #[.slice A_p0 a0.length c_p0, .func (.func 76) #[] #[.pointer (some ⟨b_p1c0, o_p1c0, none⟩), .pointer (some ⟨b_p1c1, o_p1c1, none⟩)]] w fun e w' => e = .returned (.bool R) ∧ Holds E s (L) w' := by
  unfold slices_ContainsFunc_I_search_Right_1_f at hm
  go_enter Try.func75, Try.ntmps75
  refine wp_seq ?_
  refine wp_region_lit ?_
  apply seq_op (V := .bool false) rfl
  · intro Φ hΦ; refine O_as rfl rfl ?_; exact hΦ
  (try simp only [Act.put, List.setIfInBounds_toArray, List.set_cons_succ, List.set_cons_zero])
  refine list_end ?_
  refine then_norm ?_
  refine wp_seq ?_
  obtain ⟨u1, gx1, hm⟩ := bs hm
  refine wp_region_lit ?_
  apply seq_op (V := .slice A_p0 a0.length c_p0) rfl
  · intro Φ hΦ; refine O_mv rfl rfl ?_; exact hΦ
  (try simp only [Act.put, List.setIfInBounds_toArray, List.set_cons_succ, List.set_cons_zero])
  apply seq_op (V := .func (.func 76) #[] #[.pointer (some ⟨b_p1c0, o_p1c0, none⟩), .pointer (some ⟨b_p1c1, o_p1c1, none⟩)]) rfl
  · intro Φ hΦ; refine O_mv rfl rfl ?_; exact hΦ
  (try simp only [Act.put, List.setIfInBounds_toArray, List.set_cons_succ, List.set_cons_zero])
  refine seq_call rfl (fun Φ hΦ => by refine O_call2 rfl Try.func97 rfl rfl rfl rfl hΦ) (slices_IndexFunc_I_search_Right_1_w (a0 := a0) (h_p0 := h_p0) (a1c0 := a1c0) (hC_p1c0 := hC_p1c0) (h_p1c0 := h_p1c0) (a1c1 := a1c1) (hC_p1c1 := hC_p1c1) (hm := gx1) (H := H)) ?_
  clear H
  rintro e w1 ⟨rfl, H⟩; refine ⟨_, rfl, ?_⟩
  (try simp only [Act.put, List.setIfInBounds_toArray, List.set_cons_succ, List.set_cons_zero])
  apply seq_op (V := .bool (decide (u1 ≥ 0))) rfl
  · intro Φ hΦ; refine O_bin rfl rfl rfl eqg_int r_geq ?_; exact hΦ
  (try simp only [Act.put, List.setIfInBounds_toArray, List.set_cons_succ, List.set_cons_zero])
  apply seq_op (V := .bool (decide (u1 ≥ 0))) rfl
  · intro Φ hΦ; refine O_as rfl rfl ?_; exact hΦ
  (try simp only [Act.put, List.setIfInBounds_toArray, List.set_cons_succ, List.set_cons_zero])
  refine list_end ?_
  refine then_norm ?_
  refine wp_ret ?_
  have hm := Option.some.inj hm
  subst hm
  exact ret1 rfl (rv_tmp rfl) rfl ⟨rfl, H⟩
def slices_Index_I_l2 (a1 : Int) : Nat → List Int → (Int ⊕ Unit)
  | k2, []  => .inr ()
  | k2, x2 :: r2 => if (a1 == x2) = true then (.inl (k2 : Int)) else (slices_Index_I_l2 a1 (k2 + 1) r2)

def slices_Index_I_f (a0 : List Int) (a1 : Int) : Int := letF (slices_Index_I_l2 a1 0 a0) fun | .inl z2_r => z2_r | .inr () => (-1)

set_option maxHeartbeats 4000000 in
theorem slices_Index_I_w {E : World} {s : SH} {L : List HP} {w : World} {a0 : List Int} {a1 : Int} {A_p0 : Option Addr} {c_p0 : Nat} (h_p0 : kI.Sl s (.slice A_p0 a0.length c_p0) a0) (H : Holds E s (L) w) :
    Calls Try.prog 98 #[.slice A_p0 a0.length c_p0, .int .i64 a1] w fun e w' => e = .returned (.int .i64 (slices_Index_I_f a0 a1)) ∧ Holds E s (L) w' := by
  obtain ⟨R, hm⟩ : ∃ R, slices_Index_I_f a0 a1 = R := ⟨_, rfl⟩
  (try rw [hm])
  unfold slices_Index_I_f at hm
  go_enter Try.func98, Try.ntmps98
  refine wp_seq ?_
  refine wp_region_lit ?_
  apply seq_op (V := .int .i64 0) rfl
  · intro Φ hΦ; refine O_as rfl rfl ?_; exact hΦ
  (try simp only [Act.put, List.setIfInBounds_toArray, List.set_cons_succ, List.set_cons_zero])
  refine list_end ?_
  refine then_norm ?_
  refine wp_seq ?_
  refine wp_seq ?_
  refine wp_region_lit ?_
  apply seq_op (V := .slice A_p0 a0.length c_p0) rfl
  · intro Φ hΦ; refine O_mv rfl rfl ?_; exact hΦ
  (try simp only [Act.put, List.setIfInBounds_toArray, List.set_cons_succ, List.set_cons_zero])
  apply seq_op (V := .int .i64 (a0.length : Int)) rfl
  · intro Φ hΦ; refine O_len rfl Try.underlying33 rfl ?_; exact hΦ
  (try simp only [Act.put, List.setIfInBounds_toArray, List.set_cons_succ, List.set_cons_zero])
  apply seq_op (V := .int .i64 0) rfl
  · intro Φ hΦ; refine O_mv rfl rfl ?_; exact hΦ
  (try simp only [Act.put, List.setIfInBounds_toArray, List.set_cons_succ, List.set_cons_zero])
  refine list_end ?_
  refine then_norm ?_
  refine wp_block ?_
  obtain ⟨R2, hq2, hm⟩ := lfe hm
  have hn2 := Nat.le_trans (len_le (d := kI) h_p0 (by decide)) (by decide : (140737488355328 : Nat) ≤ 9223372036854775807)
  refine wp_loopF [none, none, none, none, some 4, some 5, none, none, some 8, some 9, some 10, some 11, some 12, some 13, some 14, some 15, some 16, some 17, some 18] rfl (by simp) (fun f w => ∃ (k2 : Nat) (r2 : List Int), a0.drop k2 = r2 ∧ f 8 = .int .i64 (k2 : Int) ∧ slices_Index_I_l2 a1 k2 r2 = R2 ∧ Holds E s (L) w) (fun f w => a0.length - (intOf (f 8)).toNat) ?_ ?_
  · exact ⟨0, a0, rfl, rfl, hq2, H⟩
  · clear H
    intro f w hI
    obtain ⟨k2, r2, hd2, hf8, hq2', H⟩ := hI
    clear hq2; have hq2 := hq2'; clear hq2'
    simp only [ovm, mixM]
    simp only [hf8]; clear hf8
    refine wp_seq ?_
    refine wp_region_lit ?_
    apply seq_op (V := .bool (decide ((k2 : Int) < (a0.length : Int)))) rfl
    · intro Φ hΦ; refine O_bin rfl rfl rfl eqg_int r_lss ?_; exact hΦ
    (try simp only [Act.put, List.setIfInBounds_toArray, List.set_cons_succ, List.set_cons_zero])
    refine list_end ?_
    refine then_norm ?_
    refine wp_seq ?_
    refine wp_cond_split rfl (fun hc => ?_) (fun hc => ?_)
    · have hc1 := hc
      clear hc
      obtain ⟨x2, r2', rfl, hd2', hd2'', hl2⟩ := rng_t hd2 hc1
      rw [slices_Index_I_l2] at hq2
      refine wp_skip ?_
      refine then_norm ?_
      refine wp_seq ?_
      refine wp_block ?_
      refine wp_seq ?_
      refine wp_region_lit ?_
      apply seq_op (V := .int .i64 (k2 : Int)) rfl
      · intro Φ hΦ; refine O_mv rfl rfl ?_; exact hΦ
      (try simp only [Act.put, List.setIfInBounds_toArray, List.set_cons_succ, List.set_cons_zero])
      apply seq_op (V := .int .i64 (k2 : Int)) rfl
      · intro Φ hΦ; refine O_as rfl rfl ?_; exact hΦ
      (try simp only [Act.put, List.setIfInBounds_toArray, List.set_cons_succ, List.set_cons_zero])
      refine list_end ?_
      refine then_norm ?_
      refine wp_seq ?_
      obtain ⟨be1, oe1, rfl, hCe1, h0e1⟩ := kI_el h_p0 hd2'
      refine wp_region_lit ?_
      apply seq_op (V := .int .i64 a1) rfl
      · intro Φ hΦ; refine O_mv rfl rfl ?_; exact hΦ
      (try simp only [Act.put, List.setIfInBounds_toArray, List.set_cons_succ, List.set_cons_zero])
      apply seq_op (V := .slice (some ⟨be1, oe1, none⟩) a0.length c_p0) rfl
      · intro Φ hΦ; refine O_mv rfl rfl ?_; exact hΦ
      (try simp only [Act.put, List.setIfInBounds_toArray, List.set_cons_succ, List.set_cons_zero])
      apply seq_op (V := .int .i64 (k2 : Int)) rfl
      · intro Φ hΦ; refine O_mv rfl rfl ?_; exact hΦ
      (try simp only [Act.put, List.setIfInBounds_toArray, List.set_cons_succ, List.set_cons_zero])
      apply seq_op (V := .pointer (some ⟨be1, oe1 + k2 * 1, none⟩)) rfl
      · intro Φ hΦ; refine O_ix rfl Try.underlying33 (Try.sizeOf3 _) rfl rfl rfl hl2 ?_; exact hΦ
      (try simp only [Act.put, List.setIfInBounds_toArray, List.set_cons_succ, List.set_cons_zero])
      apply seq_op (V := .int .i64 x2) rfl
      · intro Φ hΦ; refine G_s1 _ _ rfl (Try.isAgg3 _) rfl H hCe1 0 rfl rfl ?_; exact hΦ
      (try simp only [Act.put, List.setIfInBounds_toArray, List.set_cons_succ, List.set_cons_zero])
      apply seq_op (V := .bool (a1 == x2)) rfl
      · intro Φ hΦ; refine O_bin rfl rfl rfl eqg_int r_eql ?_; exact hΦ
      (try simp only [Act.put, List.setIfInBounds_toArray, List.set_cons_succ, List.set_cons_zero])
      refine list_end ?_
      refine then_norm ?_
      refine wp_cond_split rfl (fun hc => ?_) (fun hc => ?_)
      · have hc2 := hc
        clear hc
        replace hq2 := ifT hc2 hq2
        refine wp_seq ?_
        refine wp_region_lit ?_
        apply seq_op (V := .int .i64 (k2 : Int)) rfl
        · intro Φ hΦ; refine O_mv rfl rfl ?_; exact hΦ
        (try simp only [Act.put, List.setIfInBounds_toArray, List.set_cons_succ, List.set_cons_zero])
        apply seq_op (V := .int .i64 (k2 : Int)) rfl
        · intro Φ hΦ; refine O_as rfl rfl ?_; exact hΦ
        (try simp only [Act.put, List.setIfInBounds_toArray, List.set_cons_succ, List.set_cons_zero])
        refine list_end ?_
        refine then_norm ?_
        refine wp_ret ?_
        refine block_ret ?_
        refine then_ret ?_
        refine then_ret ?_
        refine block_ret ?_
        refine then_ret ?_
        subst hq2
        (try dsimp only at hm)
        subst hm
        exact ret1 rfl (rv_tmp rfl) rfl ⟨rfl, H⟩
      · have hc2 := hc
        clear hc
        replace hq2 := ifF hc2 hq2
        refine wp_skip ?_
        refine block_norm ?_
        refine then_norm ?_
        refine wp_region_lit ?_
        apply seq_op (V := .int .i64 (IntKind.i64.wrap ((k2 : Int) + 1))) rfl
        · intro Φ hΦ; refine O_bin rfl rfl rfl eqg_int r_add ?_; exact hΦ
        (try simp only [Act.put, List.setIfInBounds_toArray, List.set_cons_succ, List.set_cons_zero])
        apply seq_op (V := .int .i64 (IntKind.i64.wrap ((k2 : Int) + 1))) rfl
        · intro Φ hΦ; refine O_mv rfl rfl ?_; exact hΦ
        (try simp only [Act.put, List.setIfInBounds_toArray, List.set_cons_succ, List.set_cons_zero])
        refine list_end ?_
        refine then_norm ?_
        refine ⟨⟨⟨rfl, rfl, rfl, rfl, rfl, rfl, rfl⟩, rfl⟩, ⟨k2 + 1, _, hd2'', wrap_succ hl2 hn2, hq2, H⟩, ?_⟩
        exact meas_succ hl2 hn2
    · have hc1 := hc
      clear hc
      obtain rfl := rng_f hd2 hc1
      rw [slices_Index_I_l2] at hq2
      refine wp_exit ?_
      refine then_exit ?_
      refine then_exit ?_
      subst hq2
      (try dsimp only at hm)
      refine block_exit ?_
      refine then_norm ?_
      refine wp_seq ?_
      refine wp_region_lit ?_
      apply seq_op (V := .int .i64 (-1)) rfl
      · intro Φ hΦ; refine O_as rfl rfl ?_; exact hΦ
      (try simp only [Act.put, List.setIfInBounds_toArray, List.set_cons_succ, List.set_cons_zero])
      refine list_end ?_
      refine then_norm ?_
      refine wp_ret ?_
      subst hm
      exact ret1 rfl (rv_tmp rfl) rfl ⟨rfl, H⟩
def slices_Contains_I_f (a0 : List Int) (a1 : Int) : Bool := (decide ((slices_Index_I_f a0 a1) ≥ 0))

set_option maxHeartbeats 4000000 in
theorem slices_Contains_I_w {E : World} {s : SH} {L : List HP} {w : World} {a0 : List Int} {a1 : Int} {A_p0 : Option Addr} {c_p0 : Nat} (h_p0 : kI.Sl s (.slice A_p0 a0.length c_p0) a0) (H : Holds E s (L) w) :
    Calls Try.prog 78 #[.slice A_p0 a0.length c_p0, .int .i64 a1] w fun e w' => e = .returned (.bool (slices_Contains_I_f a0 a1)) ∧ Holds E s (L) w' := by
  obtain ⟨R, hm⟩ : ∃ R, slices_Contains_I_f a0 a1 = R := ⟨_, rfl⟩
  (try rw [hm])
  unfold slices_Contains_I_f at hm
  go_enter Try.func78, Try.ntmps78
  refine wp_seq ?_
  refine wp_region_lit ?_
  apply seq_op (V := .bool false) rfl
  · intro Φ hΦ; refine O_as rfl rfl ?_; exact hΦ
  (try simp only [Act.put, List.setIfInBounds_toArray, List.set_cons_succ, List.set_cons_zero])
  refine list_end ?_
  refine then_norm ?_
  refine wp_seq ?_
  refine wp_region_lit ?_
  apply seq_op (V := .slice A_p0 a0.length c_p0) rfl
  · intro Φ hΦ; refine O_mv rfl rfl ?_; exact hΦ
  (try simp only [Act.put, List.setIfInBounds_toArray, List.set_cons_succ, List.set_cons_zero])
  apply seq_op (V := .int .i64 a1) rfl
  · intro Φ hΦ; refine O_mv rfl rfl ?_; exact hΦ
  (try simp only [Act.put, List.setIfInBounds_toArray, List.set_cons_succ, List.set_cons_zero])
  refine seq_call rfl (fun Φ hΦ => by refine O_call2 rfl Try.func98 rfl rfl rfl rfl hΦ) (slices_Index_I_w (a0 := a0) (h_p0 := h_p0) (a1 := a1) (H := H)) ?_
  clear H
  rintro e w1 ⟨rfl, H⟩; refine ⟨_, rfl, ?_⟩
  (try simp only [Act.put, List.setIfInBounds_toArray, List.set_cons_succ, List.set_cons_zero])
  apply seq_op (V := .bool (decide ((slices_Index_I_f a0 a1) ≥ 0))) rfl
  · intro Φ hΦ; refine O_bin rfl rfl rfl eqg_int r_geq ?_; exact hΦ
  (try simp only [Act.put, List.setIfInBounds_toArray, List.set_cons_succ, List.set_cons_zero])
  apply seq_op (V := .bool (decide ((slices_Index_I_f a0 a1) ≥ 0))) rfl
  · intro Φ hΦ; refine O_as rfl rfl ?_; exact hΦ
  (try simp only [Act.put, List.setIfInBounds_toArray, List.set_cons_succ, List.set_cons_zero])
  refine list_end ?_
  refine then_norm ?_
  refine wp_ret ?_
  subst hm
  exact ret1 rfl (rv_tmp rfl) rfl ⟨rfl, H⟩
def search_Right_l4 (a0 : List Txn) (a1 : List Int) : Nat → List Int → Option ((Bool ⊕ Unit))
  | k4, []  => some (.inr ())
  | k4, x4 :: r4 => (rdI a0 x4).bind fun u2 => if (!(search_done_f u2)) = true then (some (.inl false)) else ((sliJ a1 (k4 : Int)).bind fun u3 => (slices_ContainsFunc_I_search_Right_1_f u3 a0 x4).bind fun u4 => if u4 = true then (some (.inl false)) else (search_Right_l4 a0 a1 (k4 + 1) r4))

def search_Right_l10 (a1 : List Int) : Nat → List Txn → (Bool ⊕ Unit)
  | k10, []  => .inr ()
  | k10, x10 :: r10 => if ((x10.state == 1) && (!(slices_Contains_I_f a1 (k10 : Int)))) = true then (.inl false) else (search_Right_l10 a1 (k10 + 1) r10)

def search_Right_f (a0 : List Txn) (a1 : List Int) : Option Bool := (model_Replay_f a0 a1).bind fun u1 => if (!u1) = true then (some false) else ((search_Right_l4 a0 a1 0 a1).bind fun | .inl z4_r => (some z4_r) | .inr () => (letF (search_Right_l10 a1 0 a0) fun | .inl z10_r => (some z10_r) | .inr () => (some true)))

set_option maxHeartbeats 4000000 in
theorem search_Right_w {E : World} {s : SH} {L : List HP} {w : World} {a0 : List Txn} {a1 : List Int} {A_p0 : Option Addr} {c_p0 : Nat} (h_p0 : kT.Sl s (.slice A_p0 a0.length c_p0) a0) {A_p1 : Option Addr} {c_p1 : Nat} (h_p1 : kI.Sl s (.slice A_p1 a1.length c_p1) a1) {R : Bool} (hm : search_Right_f a0 a1 = some R) (H : Holds E s (L) w) :
    Calls Try.prog 44 #[.slice A_p0 a0.length c_p0, .slice A_p1 a1.length c_p1] w fun e w' => e = .returned (.bool R) ∧ Holds E s (L) w' := by
  unfold search_Right_f at hm
  go_enter Try.func44, Try.ntmps44
  refine wp_seq ?_
  refine wp_region_lit ?_
  refine OpG.list rfl ?_; refine B_x 22 _ rfl (v := .slice A_p0 a0.length c_p0) rfl H ?_; clear H; intro b2 w1 H; (try simp only [Value.cells] at H)
  (try simp only [Act.put, List.setIfInBounds_toArray, List.set_cons_succ, List.set_cons_zero])
  apply seq_op (V := .bool false) rfl
  · intro Φ hΦ; refine O_as rfl rfl ?_; exact hΦ
  (try simp only [Act.put, List.setIfInBounds_toArray, List.set_cons_succ, List.set_cons_zero])
  refine list_end ?_
  refine then_norm ?_
  refine wp_seq ?_
  refine wp_seq ?_
  obtain ⟨u1, gx1, hm⟩ := bs hm
  refine wp_region_lit ?_
  apply seq_op (V := .slice A_p0 a0.length c_p0) rfl
  · intro Φ hΦ; refine L_1 0 _ _ rfl (Try.isAgg22 _) rfl H rfl rfl ?_; exact hΦ
  (try simp only [Act.put, List.setIfInBounds_toArray, List.set_cons_succ, List.set_cons_zero])
  apply seq_op (V := .slice A_p1 a1.length c_p1) rfl
  · intro Φ hΦ; refine O_mv rfl rfl ?_; exact hΦ
  (try simp only [Act.put, List.setIfInBounds_toArray, List.set_cons_succ, List.set_cons_zero])
  refine seq_call rfl (fun Φ hΦ => by refine O_call2 rfl Try.func32 rfl rfl rfl rfl hΦ) (model_Replay_w (a0 := a0) (h_p0 := h_p0) (a1 := a1) (h_p1 := h_p1) (hm := gx1) (H := H)) ?_
  clear H
  rintro e w1 ⟨rfl, H⟩; refine ⟨_, rfl, ?_⟩
  (try simp only [Act.put, List.setIfInBounds_toArray, List.set_cons_succ, List.set_cons_zero])
  apply seq_op (V := .bool (!u1)) rfl
  · intro Φ hΦ; refine O_not rfl rfl ?_; exact hΦ
  (try simp only [Act.put, List.setIfInBounds_toArray, List.set_cons_succ, List.set_cons_zero])
  refine list_end ?_
  refine then_norm ?_
  refine wp_cond_split rfl (fun hc => ?_) (fun hc => ?_)
  · have hc1 := hc
    clear hc
    replace hm := ifT hc1 hm
    refine wp_seq ?_
    refine wp_region_lit ?_
    apply seq_op (V := .bool false) rfl
    · intro Φ hΦ; refine O_as rfl rfl ?_; exact hΦ
    (try simp only [Act.put, List.setIfInBounds_toArray, List.set_cons_succ, List.set_cons_zero])
    refine list_end ?_
    refine then_norm ?_
    refine wp_ret ?_
    refine then_ret ?_
    have hm := Option.some.inj hm
    subst hm
    replace H := H.dropAt 0 rfl; simp only [List.eraseIdx_cons_succ, List.eraseIdx_cons_zero] at H
    exact ret1 rfl (rv_tmp rfl) rfl ⟨rfl, H⟩
  · have hc1 := hc
    clear hc
    replace hm := ifF hc1 hm
    refine wp_skip ?_
    refine then_norm ?_
    refine wp_seq ?_
    refine wp_seq ?_
    refine wp_region_lit ?_
    apply seq_op (V := .slice A_p1 a1.length c_p1) rfl
    · intro Φ hΦ; refine O_mv rfl rfl ?_; exact hΦ
    (try simp only [Act.put, List.setIfInBounds_toArray, List.set_cons_succ, List.set_cons_zero])
    apply seq_op (V := .int .i64 (a1.length : Int)) rfl
    · intro Φ hΦ; refine O_len rfl Try.underlying33 rfl ?_; exact hΦ
    (try simp only [Act.put, List.setIfInBounds_toArray, List.set_cons_succ, List.set_cons_zero])
    apply seq_op (V := .int .i64 0) rfl
    · intro Φ hΦ; refine O_mv rfl rfl ?_; exact hΦ
    (try simp only [Act.put, List.setIfInBounds_toArray, List.set_cons_succ, List.set_cons_zero])
    refine list_end ?_
    refine then_norm ?_
    refine wp_block ?_
    obtain ⟨R4, hq4, hm⟩ := bs hm
    have hn4 := Nat.le_trans (len_le (d := kI) h_p1 (by decide)) (by decide : (140737488355328 : Nat) ≤ 9223372036854775807)
    refine wp_loopF [none, none, none, none, some 4, some 5, some 6, none, none, none, none, none, none, none, none, some 15, some 16, some 17, some 18, some 19, some 20, some 21, some 22, some 23, some 24, some 25, some 26, some 27, some 28, some 29, some 30, some 31, some 32, some 33, none, none, none, none, none, none, none, none, none, none, none, none, none, none, none, none, none] rfl (by simp) (fun f w => ∃ (k4 : Nat) (r4 : List Int), a1.drop k4 = r4 ∧ f 15 = .int .i64 (k4 : Int) ∧ search_Right_l4 a0 a1 k4 r4 = some R4 ∧ Holds E s (pt b2 (.cells #[.slice A_p0 a0.length c_p0] 22 (0, 0)) :: L) w) (fun f w => a1.length - (intOf (f 15)).toNat) ?_ ?_
    · exact ⟨0, a1, rfl, rfl, hq4, H⟩
    · clear H
      intro f w hI
      obtain ⟨k4, r4, hd4, hf15, hq4', H⟩ := hI
      clear hq4; have hq4 := hq4'; clear hq4'
      simp only [ovm, mixM]
      simp only [hf15]; clear hf15
      refine wp_seq ?_
      refine wp_region_lit ?_
      apply seq_op (V := .bool (decide ((k4 : Int) < (a1.length : Int)))) rfl
      · intro Φ hΦ; refine O_bin rfl rfl rfl eqg_int r_lss ?_; exact hΦ
      (try simp only [Act.put, List.setIfInBounds_toArray, List.set_cons_succ, List.set_cons_zero])
      refine list_end ?_
      refine then_norm ?_
      refine wp_seq ?_
      refine wp_cond_split rfl (fun hc => ?_) (fun hc => ?_)
      · have hc2 := hc
        clear hc
        obtain ⟨x4, r4', rfl, hd4', hd4'', hl4⟩ := rng_t hd4 hc2
        rw [search_Right_l4] at hq4
        refine wp_skip ?_
        refine then_norm ?_
        refine wp_seq ?_
        refine wp_block ?_
        refine wp_seq ?_
        obtain ⟨be1, oe1, rfl, hCe1, h0e1⟩ := kI_el h_p1 hd4'
        refine wp_region_lit ?_
        apply seq_op (V := .int .i64 (k4 : Int)) rfl
        · intro Φ hΦ; refine O_mv rfl rfl ?_; exact hΦ
        (try simp only [Act.put, List.setIfInBounds_toArray, List.set_cons_succ, List.set_cons_zero])
        apply seq_op (V := .pointer (some ⟨be1, oe1 + k4 * 1, none⟩)) rfl
        · intro Φ hΦ; refine O_ix rfl Try.underlying33 (Try.sizeOf3 _) rfl rfl rfl hl4 ?_; exact hΦ
        (try simp only [Act.put, List.setIfInBounds_toArray, List.set_cons_succ, List.set_cons_zero])
        apply seq_op (V := .int .i64 x4) rfl
        · intro Φ hΦ; refine G_s1 _ _ rfl (Try.isAgg3 _) rfl H hCe1 0 rfl rfl ?_; exact hΦ
        (try simp only [Act.put, List.setIfInBounds_toArray, List.set_cons_succ, List.set_cons_zero])
        refine OpG.list rfl ?_; refine G_alloc 3 rfl (Try.zeroValue3 _) H ?_; clear H; intro b6 w1 H; (try simp only [Value.cells] at H)
        (try simp only [Act.put, List.setIfInBounds_toArray, List.set_cons_succ, List.set_cons_zero])
        apply seq_op (V := .int .i64 (k4 : Int)) rfl
        · intro Φ hΦ; refine O_as rfl rfl ?_; exact hΦ
        (try simp only [Act.put, List.setIfInBounds_toArray, List.set_cons_succ, List.set_cons_zero])
        refine OpG.list rfl ?_; refine S_1 0 _ _ _ rfl (Try.sizeOf3 _) rfl (v := .int .i64 x4) rfl H rfl ?_ ?_ ?_; (focus (first | rfl | (simp [Value.oneCell']; done))); (focus (simp; done)); clear H; intro w1 H; simp only [List.set_cons_succ, List.set_cons_zero] at H
        (try simp only [Act.put, List.setIfInBounds_toArray, List.set_cons_succ, List.set_cons_zero])
        refine list_end ?_
        refine then_norm ?_
        refine wp_seq ?_
        obtain ⟨u2, gx2, hq4⟩ := bs hq4
        obtain ⟨kk1, gk1, gl1, gd1⟩ := rdI_some gx2
        obtain ⟨be2, oe2, A4e2, c4e2, rfl, hCe2, h0e2, h1e2, h2e2, h3e2, h4e2⟩ := kT_el h_p0 gd1
        rcases Bool.eq_false_or_eq_true (!(search_done_f u2)) with hg1 | hg1
        · replace hq4 := ifT hg1 hq4
          refine wp_region_lit ?_
          apply seq_op (V := .slice (some ⟨be2, oe2, none⟩) a0.length c_p0) rfl
          · intro Φ hΦ; refine L_1 1 _ _ rfl (Try.isAgg22 _) rfl H rfl rfl ?_; exact hΦ
          (try simp only [Act.put, List.setIfInBounds_toArray, List.set_cons_succ, List.set_cons_zero])
          apply seq_op (V := .int .i64 x4) rfl
          · intro Φ hΦ; refine L_1 0 _ _ rfl (Try.isAgg3 _) rfl H rfl rfl ?_; exact hΦ
          (try simp only [Act.put, List.setIfInBounds_toArray, List.set_cons_succ, List.set_cons_zero])
          apply seq_op (V := .pointer (some ⟨be2, oe2 + kk1 * 5, none⟩)) rfl
          · intro Φ hΦ; refine O_ix rfl Try.underlying22 (Try.sizeOf30 _) rfl rfl gk1 gl1 ?_; exact hΦ
          (try simp only [Act.put, List.setIfInBounds_toArray, List.set_cons_succ, List.set_cons_zero])
          apply seq_op (V := .agg #[.int .i64 u2.proc, .int .i64 u2.state, .int .i64 u2.from_, .int .i64 u2.to, .slice A4e2 u2.ops.length c4e2]) rfl
          · intro Φ hΦ; refine G_sN _ _ rfl (Try.isAgg30 _) rfl H hCe2 (Try.sizeOf30 _) ?_; exact hΦ
          (try simp only [Act.put, List.setIfInBounds_toArray, List.set_cons_succ, List.set_cons_zero])
          refine seq_call rfl (fun Φ hΦ => by refine O_call1 rfl Try.func74 rfl rfl rfl hΦ) (search_done_w (a0 := u2) (h_p0_ops := h4e2) (H := H)) ?_
          clear H
          rintro e w1 ⟨rfl, H⟩; refine ⟨_, rfl, ?_⟩
          (try simp only [Act.put, List.setIfInBounds_toArray, List.set_cons_succ, List.set_cons_zero])
          apply seq_op (V := .bool (!(search_done_f u2))) rfl
          · intro Φ hΦ; refine O_not rfl rfl ?_; exact hΦ
          (try simp only [Act.put, List.setIfInBounds_toArray, List.set_cons_succ, List.set_cons_zero])
          apply seq_op (V := .bool (!(search_done_f u2))) rfl
          · intro Φ hΦ; refine O_mv rfl rfl ?_; exact hΦ
          (try simp only [Act.put, List.setIfInBounds_toArray, List.set_cons_succ, List.set_cons_zero])
          refine seq_skip ((wanted_f rfl rfl rfl).trans (congrArg not hg1)) ?_
          (try simp only [Act.put, List.setIfInBounds_toArray, List.set_cons_succ, List.set_cons_zero])
          refine seq_skip ((wanted_f rfl rfl rfl).trans (congrArg not hg1)) ?_
          (try simp only [Act.put, List.setIfInBounds_toArray, List.set_cons_succ, List.set_cons_zero])
          refine seq_skip ((wanted_f rfl rfl rfl).trans (congrArg not hg1)) ?_
          (try simp only [Act.put, List.setIfInBounds_toArray, List.set_cons_succ, List.set_cons_zero])
          refine seq_skip ((wanted_f rfl rfl rfl).trans (congrArg not hg1)) ?_
          (try simp only [Act.put, List.setIfInBounds_toArray, List.set_cons_succ, List.set_cons_zero])
          refine seq_skip ((wanted_f rfl rfl rfl).trans (congrArg not hg1)) ?_
          (try simp only [Act.put, List.setIfInBounds_toArray, List.set_cons_succ, List.set_cons_zero])
          apply seq_op (V := .bool true) rfl
          · intro Φ hΦ; refine O_pickT rfl rfl hg1 rfl ?_; exact hΦ
          (try simp only [Act.put, List.setIfInBounds_toArray, List.set_cons_succ, List.set_cons_zero])
          refine list_end ?_
          refine then_norm ?_
          refine wp_cond_true rfl ?_
          refine wp_seq ?_
          refine wp_region_lit ?_
          apply seq_op (V := .bool false) rfl
          · intro Φ hΦ; refine O_as rfl rfl ?_; exact hΦ
          (try simp only [Act.put, List.setIfInBounds_toArray, List.set_cons_succ, List.set_cons_zero])
          refine list_end ?_
          refine then_norm ?_
          refine wp_ret ?_
          refine block_ret ?_
          refine then_ret ?_
          refine then_ret ?_
          refine block_ret ?_
          refine then_ret ?_
          have hq4 := Option.some.inj hq4
          subst hq4
          (try dsimp only at hm)
          have hm := Option.some.inj hm
          subst hm
          replace H := H.dropAt 1 rfl; simp only [List.eraseIdx_cons_succ, List.eraseIdx_cons_zero] at H
          replace H := H.dropAt 0 rfl; simp only [List.eraseIdx_cons_succ, List.eraseIdx_cons_zero] at H
          exact ret1 rfl (rv_tmp rfl) rfl ⟨rfl, H⟩
        · replace hq4 := ifF hg1 hq4
          obtain ⟨u3, gx3, hq4⟩ := bs hq4
          obtain ⟨kq1, hiq1, hkq1, hnq1, hsq1⟩ := slJ_sl h_p1 gx3
          obtain ⟨u4, gx4, hq4⟩ := bs hq4
          refine wp_region_lit ?_
          apply seq_op (V := .slice (some ⟨be2, oe2, none⟩) a0.length c_p0) rfl
          · intro Φ hΦ; refine L_1 1 _ _ rfl (Try.isAgg22 _) rfl H rfl rfl ?_; exact hΦ
          (try simp only [Act.put, List.setIfInBounds_toArray, List.set_cons_succ, List.set_cons_zero])
          apply seq_op (V := .int .i64 x4) rfl
          · intro Φ hΦ; refine L_1 0 _ _ rfl (Try.isAgg3 _) rfl H rfl rfl ?_; exact hΦ
          (try simp only [Act.put, List.setIfInBounds_toArray, List.set_cons_succ, List.set_cons_zero])
          apply seq_op (V := .pointer (some ⟨be2, oe2 + kk1 * 5, none⟩)) rfl
          · intro Φ hΦ; refine O_ix rfl Try.underlying22 (Try.sizeOf30 _) rfl rfl gk1 gl1 ?_; exact hΦ
          (try simp only [Act.put, List.setIfInBounds_toArray, List.set_cons_succ, List.set_cons_zero])
          apply seq_op (V := .agg #[.int .i64 u2.proc, .int .i64 u2.state, .int .i64 u2.from_, .int .i64 u2.to, .slice A4e2 u2.ops.length c4e2]) rfl
          · intro Φ hΦ; refine G_sN _ _ rfl (Try.isAgg30 _) rfl H hCe2 (Try.sizeOf30 _) ?_; exact hΦ
          (try simp only [Act.put, List.setIfInBounds_toArray, List.set_cons_succ, List.set_cons_zero])
          refine seq_call rfl (fun Φ hΦ => by refine O_call1 rfl Try.func74 rfl rfl rfl hΦ) (search_done_w (a0 := u2) (h_p0_ops := h4e2) (H := H)) ?_
          clear H
          rintro e w1 ⟨rfl, H⟩; refine ⟨_, rfl, ?_⟩
          (try simp only [Act.put, List.setIfInBounds_toArray, List.set_cons_succ, List.set_cons_zero])
          apply seq_op (V := .bool (!(search_done_f u2))) rfl
          · intro Φ hΦ; refine O_not rfl rfl ?_; exact hΦ
          (try simp only [Act.put, List.setIfInBounds_toArray, List.set_cons_succ, List.set_cons_zero])
          apply seq_op (V := .bool (!(search_done_f u2))) rfl
          · intro Φ hΦ; refine O_mv rfl rfl ?_; exact hΦ
          (try simp only [Act.put, List.setIfInBounds_toArray, List.set_cons_succ, List.set_cons_zero])
          refine seq_opw (V := .slice (some ⟨be1, oe1, none⟩) a1.length c_p1) ((wanted_f rfl rfl rfl).trans (congrArg not hg1)) ?_ ?_
          · intro Φ hΦ; refine O_mv rfl rfl ?_; exact hΦ
          (try simp only [Act.put, List.setIfInBounds_toArray, List.set_cons_succ, List.set_cons_zero])
          refine seq_opw (V := .int .i64 (k4 : Int)) ((wanted_f rfl rfl rfl).trans (congrArg not hg1)) ?_ ?_
          · intro Φ hΦ; refine O_mv rfl rfl ?_; exact hΦ
          (try simp only [Act.put, List.setIfInBounds_toArray, List.set_cons_succ, List.set_cons_zero])
          refine seq_opw (V := .slice (some ⟨be1, oe1, none⟩) u3.length c_p1) ((wanted_f rfl rfl rfl).trans (congrArg not hg1)) ?_ ?_
          · intro Φ hΦ; refine O_slJ kI_at rfl rfl rfl hiq1 hkq1 hnq1 ?_; exact hΦ
          (try simp only [Act.put, List.setIfInBounds_toArray, List.set_cons_succ, List.set_cons_zero])
          refine seq_opw (V := .func (.func 76) #[] #[.pointer (some ⟨b2, 0, none⟩), .pointer (some ⟨b6, 0, none⟩)]) ((wanted_f rfl rfl rfl).trans (congrArg not hg1)) ?_ ?_
          · intro Φ hΦ; refine O_mkf (vs := #[.pointer (some ⟨b2, 0, none⟩), .pointer (some ⟨b6, 0, none⟩)]) rfl (by (simp only [List.map_toArray, List.map_cons, List.map_nil]) <;> rfl) ?_; exact hΦ
          (try simp only [Act.put, List.setIfInBounds_toArray, List.set_cons_succ, List.set_cons_zero])
          refine seq_opHw (V := .bool u4) H ((wanted_f rfl rfl rfl).trans (congrArg not hg1)) ?_ ?_
          · intro Φ hΦ; refine O_call2 rfl Try.func75 rfl rfl rfl rfl ?_; obtain ⟨sl0, hsl0, hb0, H, bk0, bg0⟩ := lendAt 1 rfl H; simp only [List.eraseIdx_cons_succ, List.eraseIdx_cons_zero, List.cons_append] at H bk0; obtain ⟨sl1, hsl1, hb1, H, bk1, bg1⟩ := lendAt 0 rfl H; simp only [List.eraseIdx_cons_succ, List.eraseIdx_cons_zero, List.cons_append] at H bk1; refine (slices_ContainsFunc_I_search_Right_1_w (a0 := u3) (h_p0 := (hsq1.mono (hsl0.trans hsl1))) (a1c0 := a0) (hC_p1c0 := ((Cells.ofB hb0).mono hsl1)) (h_p1c0 := (h_p0.mono (hsl0.trans hsl1))) (a1c1 := x4) (hC_p1c1 := (Cells.ofB hb1)) (hm := gx4) (H := H)).mono ?_; rintro e w2 ⟨rfl, H⟩; have H := bk1 H; have H := bk0 H; exact ⟨_, rfl, hΦ _ H⟩
          clear H; intro w1 H
          (try simp only [Act.put, List.setIfInBounds_toArray, List.set_cons_succ, List.set_cons_zero])
          apply seq_op (V := .bool u4) rfl
          · intro Φ hΦ; refine O_pickF rfl rfl hg1 rfl ?_; exact hΦ
          (try simp only [Act.put, List.setIfInBounds_toArray, List.set_cons_succ, List.set_cons_zero])
          refine list_end ?_
          refine then_norm ?_
          refine wp_cond_split rfl (fun hc => ?_) (fun hc => ?_)
          · have hc3 := hc
            clear hc
            replace hq4 := ifT hc3 hq4
            refine wp_seq ?_
            refine wp_region_lit ?_
            apply seq_op (V := .bool false) rfl
            · intro Φ hΦ; refine O_as rfl rfl ?_; exact hΦ
            (try simp only [Act.put, List.setIfInBounds_toArray, List.set_cons_succ, List.set_cons_zero])
            refine list_end ?_
            refine then_norm ?_
            refine wp_ret ?_
            refine block_ret ?_
            refine then_ret ?_
            refine then_ret ?_
            refine block_ret ?_
            refine then_ret ?_
            have hq4 := Option.some.inj hq4
            subst hq4
            (try dsimp only at hm)
            have hm := Option.some.inj hm
            subst hm
            replace H := H.dropAt 1 rfl; simp only [List.eraseIdx_cons_succ, List.eraseIdx_cons_zero] at H
            replace H := H.dropAt 0 rfl; simp only [List.eraseIdx_cons_succ, List.eraseIdx_cons_zero] at H
            exact ret1 rfl (rv_tmp rfl) rfl ⟨rfl, H⟩
          · have hc3 := hc
            clear hc
            replace hq4 := ifF hc3 hq4
            refine wp_skip ?_
            refine block_norm ?_
            refine then_norm ?_
            refine wp_region_lit ?_
            apply seq_op (V := .int .i64 (IntKind.i64.wrap ((k4 : Int) + 1))) rfl
            · intro Φ hΦ; refine O_bin rfl rfl rfl eqg_int r_add ?_; exact hΦ
            (try simp only [Act.put, List.setIfInBounds_toArray, List.set_cons_succ, List.set_cons_zero])
            apply seq_op (V := .int .i64 (IntKind.i64.wrap ((k4 : Int) + 1))) rfl
            · intro Φ hΦ; refine O_mv rfl rfl ?_; exact hΦ
            (try simp only [Act.put, List.setIfInBounds_toArray, List.set_cons_succ, List.set_cons_zero])
            refine list_end ?_
            refine then_norm ?_
            replace H := H.drop
            refine ⟨⟨⟨rfl, rfl, rfl, rfl, rfl, rfl, rfl, rfl, rfl, rfl, rfl, rfl, rfl, rfl, rfl, rfl, rfl, rfl, rfl, rfl, rfl, rfl, rfl, rfl, rfl, rfl, rfl, rfl, rfl, rfl⟩, rfl⟩, ⟨k4 + 1, _, hd4'', wrap_succ hl4 hn4, hq4, H⟩, ?_⟩
            exact meas_succ hl4 hn4
      · have hc2 := hc
        clear hc
        obtain rfl := rng_f hd4 hc2
        rw [search_Right_l4] at hq4
        refine wp_exit ?_
        refine then_exit ?_
        refine then_exit ?_
        have hq4 := Option.some.inj hq4
        subst hq4
        (try dsimp only at hm)
        refine block_exit ?_
        refine then_norm ?_
        refine wp_seq ?_
        refine wp_seq ?_
        refine wp_region_lit ?_
        apply seq_op (V := .slice A_p0 a0.length c_p0) rfl
        · intro Φ hΦ; refine L_1 0 _ _ rfl (Try.isAgg22 _) rfl H rfl rfl ?_; exact hΦ
        (try simp only [Act.put, List.setIfInBounds_toArray, List.set_cons_succ, List.set_cons_zero])
        apply seq_op (V := .int .i64 (a0.length : Int)) rfl
        · intro Φ hΦ; refine O_len rfl Try.underlying22 rfl ?_; exact hΦ
        (try simp only [Act.put, List.setIfInBounds_toArray, List.set_cons_succ, List.set_cons_zero])
        apply seq_op (V := .int .i64 0) rfl
        · intro Φ hΦ; refine O_mv rfl rfl ?_; exact hΦ
        (try simp only [Act.put, List.setIfInBounds_toArray, List.set_cons_succ, List.set_cons_zero])
        refine list_end ?_
        refine then_norm ?_
        refine wp_block ?_
        obtain ⟨R10, hq10, hm⟩ := lfe hm
        have hn10 := Nat.le_trans (len_le (d := kT) h_p0 (by decide)) (by decide : (140737488355328 : Nat) ≤ 9223372036854775807)
        refine wp_loopF [none, none, none, none, some 4, none, none, some 7, some 8, none, none, none, none, none, none, none, none, none, none, none, none, none, none, none, none, none, none, none, none, none, none, none, none, none, none, none, some 36, some 37, some 38, some 39, some 40, some 41, some 42, some 43, some 44, some 45, some 46, some 47, some 48, some 49, some 50] rfl (by simp) (fun f w => ∃ (k10 : Nat) (r10 : List Txn), a0.drop k10 = r10 ∧ f 36 = .int .i64 (k10 : Int) ∧ search_Right_l10 a1 k10 r10 = R10 ∧ Holds E s (pt b2 (.cells #[.slice A_p0 a0.length c_p0] 22 (0, 0)) :: L) w) (fun f w => a0.length - (intOf (f 36)).toNat) ?_ ?_
        · exact ⟨0, a0, rfl, rfl, hq10, H⟩
        · clear H
          intro f w hI
          obtain ⟨k10, r10, hd10, hf36, hq10', H⟩ := hI
          clear hq10; have hq10 := hq10'; clear hq10'
          simp only [ovm, mixM]
          simp only [hf36]; clear hf36
          refine wp_seq ?_
          refine wp_region_lit ?_
          apply seq_op (V := .bool (decide ((k10 : Int) < (a0.length : Int)))) rfl
          · intro Φ hΦ; refine O_bin rfl rfl rfl eqg_int r_lss ?_; exact hΦ
          (try simp only [Act.put, List.setIfInBounds_toArray, List.set_cons_succ, List.set_cons_zero])
          refine list_end ?_
          refine then_norm ?_
          refine wp_seq ?_
          refine wp_cond_split rfl (fun hc => ?_) (fun hc => ?_)
          · have hc3 := hc
            clear hc
            obtain ⟨x10, r10', rfl, hd10', hd10'', hl10⟩ := rng_t hd10 hc3
            rw [search_Right_l10] at hq10
            refine wp_skip ?_
            refine then_norm ?_
            refine wp_seq ?_
            refine wp_block ?_
            refine wp_seq ?_
            obtain ⟨be3, oe3, A4e3, c4e3, rfl, hCe3, h0e3, h1e3, h2e3, h3e3, h4e3⟩ := kT_el h_p0 hd10'
            refine wp_region_lit ?_
            apply seq_op (V := .int .i64 (k10 : Int)) rfl
            · intro Φ hΦ; refine O_mv rfl rfl ?_; exact hΦ
            (try simp only [Act.put, List.setIfInBounds_toArray, List.set_cons_succ, List.set_cons_zero])
            apply seq_op (V := .pointer (some ⟨be3, oe3 + k10 * 5, none⟩)) rfl
            · intro Φ hΦ; refine O_ix rfl Try.underlying22 (Try.sizeOf30 _) rfl rfl rfl hl10 ?_; exact hΦ
            (try simp only [Act.put, List.setIfInBounds_toArray, List.set_cons_succ, List.set_cons_zero])
            apply seq_op (V := .agg #[.int .i64 x10.proc, .int .i64 x10.state, .int .i64 x10.from_, .int .i64 x10.to, .slice A4e3 x10.ops.length c4e3]) rfl
            · intro Φ hΦ; refine G_sN _ _ rfl (Try.isAgg30 _) rfl H hCe3 (Try.sizeOf30 _) ?_; exact hΦ
            (try simp only [Act.put, List.setIfInBounds_toArray, List.set_cons_succ, List.set_cons_zero])
            refine OpG.list rfl ?_; refine G_alloc 30 rfl (Try.zeroValue30 _) H ?_; clear H; intro b8 w1 H; (try simp only [Value.cells] at H)
            (try simp only [Act.put, List.setIfInBounds_toArray, List.set_cons_succ, List.set_cons_zero])
            apply seq_op (V := .int .i64 (k10 : Int)) rfl
            · intro Φ hΦ; refine O_as rfl rfl ?_; exact hΦ
            (try simp only [Act.put, List.setIfInBounds_toArray, List.set_cons_succ, List.set_cons_zero])
            refine OpG.list rfl ?_; refine G_setNi 0 (c := [.int .i64 x10.proc, .int .i64 x10.state, .int .i64 x10.from_, .int .i64 x10.to, .slice A4e3 x10.ops.length c4e3]) _ _ _ rfl (Try.sizeOf30 _) rfl rfl (by simp [Value.oneCell']) H rfl rfl ?_; clear H; intro w1 H; simp only [List.set_cons_succ, List.set_cons_zero] at H
            (try simp only [Act.put, List.setIfInBounds_toArray, List.set_cons_succ, List.set_cons_zero])
            refine list_end ?_
            refine then_norm ?_
            refine wp_seq ?_
            refine wp_region_lit ?_
            apply seq_op (V := .pointer (some ⟨b8, 1, none⟩)) rfl
            · intro Φ hΦ; refine O_fld rfl Try.underlying30 rfl (Try.sizeOf3 _) rfl ?_; exact hΦ
            (try simp only [Act.put, List.setIfInBounds_toArray, List.set_cons_succ, List.set_cons_zero])
            apply seq_op (V := .int .i64 x10.state) rfl
            · intro Φ hΦ; refine L_1 0 _ _ rfl (Try.isAgg3 _) rfl H rfl rfl ?_; exact hΦ
            (try simp only [Act.put, List.setIfInBounds_toArray, List.set_cons_succ, List.set_cons_zero])
            apply seq_op (V := .bool (x10.state == 1)) rfl
            · intro Φ hΦ; refine O_bin rfl rfl rfl eqg_int r_eql ?_; exact hΦ
            (try simp only [Act.put, List.setIfInBounds_toArray, List.set_cons_succ, List.set_cons_zero])
            apply seq_op (V := .bool (x10.state == 1)) rfl
            · intro Φ hΦ; refine O_mv rfl rfl ?_; exact hΦ
            (try simp only [Act.put, List.setIfInBounds_toArray, List.set_cons_succ, List.set_cons_zero])
            refine seq_opg (c := (x10.state == 1)) (V := .slice A_p1 a1.length c_p1) (by first | exact wanted_t rfl rfl rfl | exact wanted_vt rfl rfl rfl) ?_ ?_
            · intro hc Φ hΦ; refine O_mv rfl rfl ?_; exact hΦ
            (try simp only [Act.put, List.setIfInBounds_toArray, List.set_cons_succ, List.set_cons_zero])
            refine seq_opg (c := (x10.state == 1)) (V := .int .i64 (k10 : Int)) (by first | exact wanted_t rfl rfl rfl | exact wanted_vt rfl rfl rfl) ?_ ?_
            · intro hc Φ hΦ; refine O_mv rfl rfl ?_; exact hΦ
            (try simp only [Act.put, List.setIfInBounds_toArray, List.set_cons_succ, List.set_cons_zero])
            refine seq_opgH (c := (x10.state == 1)) (V := .bool (slices_Contains_I_f a1 (k10 : Int))) H (by first | exact wanted_t rfl rfl rfl | exact wanted_vt rfl rfl rfl) ?_ ?_
            · intro hc Φ hΦ; (repeat (first | rw [vg_of hc] | rw [vg_of (and_l hc)] | rw [vg_of (and_l (and_l hc))] | rw [vg_of (and_l (and_l (and_l hc)))] | rw [vg_and hc])); refine O_call2 rfl Try.func78 rfl rfl rfl rfl ?_; refine (slices_Contains_I_w (a0 := a1) (h_p0 := h_p1) (a1 := (k10 : Int)) (H := H)).mono ?_; rintro e w2 ⟨rfl, H⟩; exact ⟨_, rfl, hΦ _ H⟩
            clear H; intro w1 H
            (try simp only [Act.put, List.setIfInBounds_toArray, List.set_cons_succ, List.set_cons_zero])
            refine seq_opg (c := (x10.state == 1)) (V := .bool (!(slices_Contains_I_f a1 (k10 : Int)))) (by first | exact wanted_t rfl rfl rfl | exact wanted_vt rfl rfl rfl) ?_ ?_
            · intro hc Φ hΦ; (repeat (first | rw [vg_of hc] | rw [vg_of (and_l hc)] | rw [vg_of (and_l (and_l hc))] | rw [vg_of (and_l (and_l (and_l hc)))] | rw [vg_and hc])); refine O_not rfl rfl ?_; exact hΦ
            (try simp only [Act.put, List.setIfInBounds_toArray, List.set_cons_succ, List.set_cons_zero])
            apply seq_op (V := .bool ((x10.state == 1) && (!(slices_Contains_I_f a1 (k10 : Int))))) rfl
            · intro Φ hΦ; refine G_and _ _ _ rfl rfl rfl rfl ?_; exact hΦ
            (try simp only [Act.put, List.setIfInBounds_toArray, List.set_cons_succ, List.set_cons_zero])
            refine list_end ?_
            refine then_norm ?_
            refine wp_cond_split rfl (fun hc => ?_) (fun hc => ?_)
            · have hc4 := hc
              clear hc
              replace hq10 := ifT hc4 hq10
              refine wp_seq ?_
              refine wp_region_lit ?_
              apply seq_op (V := .bool false) rfl
              · intro Φ hΦ; refine O_as rfl rfl ?_; exact hΦ
              (try simp only [Act.put, List.setIfInBounds_toArray, List.set_cons_succ, List.set_cons_zero])
              refine list_end ?_
              refine then_norm ?_
              refine wp_ret ?_
              refine block_ret ?_
              refine then_ret ?_
              refine then_ret ?_
              refine block_ret ?_
              refine then_ret ?_
              subst hq10
              (try dsimp only at hm)
              have hm := Option.some.inj hm
              subst hm
              replace H := H.dropAt 1 rfl; simp only [List.eraseIdx_cons_succ, List.eraseIdx_cons_zero] at H
              replace H := H.dropAt 0 rfl; simp only [List.eraseIdx_cons_succ, List.eraseIdx_cons_zero] at H
              exact ret1 rfl (rv_tmp rfl) rfl ⟨rfl, H⟩
            · have hc4 := hc
              clear hc
              replace hq10 := ifF hc4 hq10
              refine wp_skip ?_
              refine block_norm ?_
              refine then_norm ?_
              refine wp_region_lit ?_
              apply seq_op (V := .int .i64 (IntKind.i64.wrap ((k10 : Int) + 1))) rfl
              · intro Φ hΦ; refine O_bin rfl rfl rfl eqg_int r_add ?_; exact hΦ
              (try simp only [Act.put, List.setIfInBounds_toArray, List.set_cons_succ, List.set_cons_zero])
              apply seq_op (V := .int .i64 (IntKind.i64.wrap ((k10 : Int) + 1))) rfl
              · intro Φ hΦ; refine O_mv rfl rfl ?_; exact hΦ
              (try simp only [Act.put, List.setIfInBounds_toArray, List.set_cons_succ, List.set_cons_zero])
              refine list_end ?_
              refine then_norm ?_
              replace H := H.drop
              refine ⟨⟨⟨rfl, rfl, rfl, rfl, rfl, rfl, rfl, rfl, rfl, rfl, rfl, rfl, rfl, rfl, rfl, rfl, rfl, rfl, rfl, rfl, rfl, rfl, rfl, rfl, rfl, rfl, rfl, rfl, rfl, rfl, rfl, rfl, rfl, rfl⟩, rfl⟩, ⟨k10 + 1, _, hd10'', wrap_succ hl10 hn10, hq10, H⟩, ?_⟩
              exact meas_succ hl10 hn10
          · have hc3 := hc
            clear hc
            obtain rfl := rng_f hd10 hc3
            rw [search_Right_l10] at hq10
            refine wp_exit ?_
            refine then_exit ?_
            refine then_exit ?_
            subst hq10
            (try dsimp only at hm)
            refine block_exit ?_
            refine then_norm ?_
            refine wp_seq ?_
            refine wp_region_lit ?_
            apply seq_op (V := .bool true) rfl
            · intro Φ hΦ; refine O_as rfl rfl ?_; exact hΦ
            (try simp only [Act.put, List.setIfInBounds_toArray, List.set_cons_succ, List.set_cons_zero])
            refine list_end ?_
            refine then_norm ?_
            refine wp_ret ?_
            have hm := Option.some.inj hm
            subst hm
            replace H := H.dropAt 0 rfl; simp only [List.eraseIdx_cons_succ, List.eraseIdx_cons_zero] at H
            exact ret1 rfl (rv_tmp rfl) rfl ⟨rfl, H⟩
def assayerref16_State_List_l3 (a1 : ByteArray) : Nat → List Op' → (List Int) → Option (((List Int)))
  | k3, [] , y3_5 => some y3_5
  | k3, x3 :: r3, y3_5 => if ((x3.kind == 1) && (x3.key.toList == a1.toList)) = true then ((app 8 y3_5 x3.value).bind fun u1 => assayerref16_State_List_l3 a1 (k3 + 1) r3 u1) else (assayerref16_State_List_l3 a1 (k3 + 1) r3 y3_5)

def assayerref16_State_List_f (a0 : St16) (a1 : ByteArray) : Option ((List Int)) := (assayerref16_State_List_l3 a1 0 a0.l []).bind fun z3_5 => some z3_5

set_option maxHeartbeats 4000000 in
theorem assayerref16_State_List_w {E : World} {s : SH} {L : List HP} {w : World} {a0 : St16} {a1 : ByteArray} {A_p0_l : Option Addr} {c_p0_l : Nat} (h_p0_l : kOp.Sl s (.slice A_p0_l a0.l.length c_p0_l) a0.l) {b_p0 o_p0 : Nat} (hC_p0 : Cells s ⟨b_p0, o_p0, none⟩ [.slice A_p0_l a0.l.length c_p0_l]) {R : (List Int)} (hm : assayerref16_State_List_f a0 a1 = some R) (H : Holds E s (L) w) :
    Calls Try.prog 43 #[.pointer (some ⟨b_p0, o_p0, none⟩), .string a1] w fun e w' => ∃ A0 c0, e = .returned (.slice A0 R.length c0) ∧ Holds E s ((kI.sh s).Osl (.slice A0 R.length c0) R :: L) w' := by
  unfold assayerref16_State_List_f at hm
  go_enter Try.func43, Try.ntmps43
  refine wp_seq ?_
  refine wp_region_lit ?_
  apply seq_op (V := .slice none 0 0) rfl
  · intro Φ hΦ; refine O_as rfl rfl ?_; exact hΦ
  (try simp only [Act.put, List.setIfInBounds_toArray, List.set_cons_succ, List.set_cons_zero])
  refine list_end ?_
  refine then_norm ?_
  refine wp_seq ?_
  refine wp_region_lit ?_
  apply seq_op (V := .slice none 0 0) rfl
  · intro Φ hΦ; refine O_as rfl rfl ?_; exact hΦ
  (try simp only [Act.put, List.setIfInBounds_toArray, List.set_cons_succ, List.set_cons_zero])
  refine list_end ?_
  refine then_norm ?_
  refine wp_seq ?_
  refine wp_seq ?_
  refine wp_region_lit ?_
  apply seq_op (V := .pointer (some ⟨b_p0, o_p0, none⟩)) rfl
  · intro Φ hΦ; refine O_mv rfl rfl ?_; exact hΦ
  (try simp only [Act.put, List.setIfInBounds_toArray, List.set_cons_succ, List.set_cons_zero])
  apply seq_op (V := .pointer (some ⟨b_p0, o_p0, none⟩)) rfl
  · intro Φ hΦ; refine O_nil rfl rfl ?_; exact hΦ
  (try simp only [Act.put, List.setIfInBounds_toArray, List.set_cons_succ, List.set_cons_zero])
  apply seq_op (V := .pointer (some ⟨b_p0, o_p0, none⟩)) rfl
  · intro Φ hΦ; refine O_fld rfl Try.underlying61 rfl (Try.sizeOf28 _) rfl ?_; exact hΦ
  (try simp only [Act.put, List.setIfInBounds_toArray, List.set_cons_succ, List.set_cons_zero])
  apply seq_op (V := .slice A_p0_l a0.l.length c_p0_l) rfl
  · intro Φ hΦ; refine G_s1 _ _ rfl (Try.isAgg28 _) rfl H hC_p0 0 rfl rfl ?_; exact hΦ
  (try simp only [Act.put, List.setIfInBounds_toArray, List.set_cons_succ, List.set_cons_zero])
  apply seq_op (V := .int .i64 (a0.l.length : Int)) rfl
  · intro Φ hΦ; refine O_len rfl Try.underlying28 rfl ?_; exact hΦ
  (try simp only [Act.put, List.setIfInBounds_toArray, List.set_cons_succ, List.set_cons_zero])
  apply seq_op (V := .int .i64 0) rfl
  · intro Φ hΦ; refine O_mv rfl rfl ?_; exact hΦ
  (try simp only [Act.put, List.setIfInBounds_toArray, List.set_cons_succ, List.set_cons_zero])
  refine list_end ?_
  refine then_norm ?_
  refine wp_block ?_
  replace H := Kin.Osl.nil (d := kI.sh s) H
  obtain ⟨R3, hq3, hm⟩ := bs hm
  have hn3 := Nat.le_trans (len_le (d := kOp) h_p0_l (by decide)) (by decide : (140737488355328 : Nat) ≤ 9223372036854775807)
  refine wp_loopF [none, none, none, none, none, some 5, none, some 7, none, none, none, none, none, some 13, some 14, some 15, some 16, some 17, some 18, some 19, some 20, some 21, some 22, some 23, some 24, some 25, some 26, some 27, some 28, some 29, some 30, some 31, none] rfl (by simp) (fun f w => ∃ (k3 : Nat) (r3 : List Op') (y3_5 : List Int) (A_y3_5 : Option Addr) (c_y3_5 : Nat), a0.l.drop k3 = r3 ∧ f 13 = .int .i64 (k3 : Int) ∧ f 5 = .slice A_y3_5 y3_5.length c_y3_5 ∧ assayerref16_State_List_l3 a1 k3 r3 y3_5 = some R3 ∧ Holds E s ((kI.sh s).Osl (.slice A_y3_5 y3_5.length c_y3_5) y3_5 :: L) w) (fun f w => a0.l.length - (intOf (f 13)).toNat) ?_ ?_
  · exact ⟨0, a0.l, [], none, 0, rfl, rfl, rfl, hq3, H⟩
  · clear H
    intro f w hI
    obtain ⟨k3, r3, y3_5, A_y3_5, c_y3_5, hd3, hf13, hf5, hq3', H⟩ := hI
    clear hq3; have hq3 := hq3'; clear hq3'
    simp only [ovm, mixM]
    simp only [hf13, hf5]; clear hf13 hf5
    refine wp_seq ?_
    refine wp_region_lit ?_
    apply seq_op (V := .bool (decide ((k3 : Int) < (a0.l.length : Int)))) rfl
    · intro Φ hΦ; refine O_bin rfl rfl rfl eqg_int r_lss ?_; exact hΦ
    (try simp only [Act.put, List.setIfInBounds_toArray, List.set_cons_succ, List.set_cons_zero])
    refine list_end ?_
    refine then_norm ?_
    refine wp_seq ?_
    refine wp_cond_split rfl (fun hc => ?_) (fun hc => ?_)
    · have hc1 := hc
      clear hc
      obtain ⟨x3, r3', rfl, hd3', hd3'', hl3⟩ := rng_t hd3 hc1
      rw [assayerref16_State_List_l3] at hq3
      refine wp_skip ?_
      refine then_norm ?_
      refine wp_seq ?_
      refine wp_block ?_
      refine wp_seq ?_
      obtain ⟨be1, oe1, A3e1, c3e1, rfl, hCe1, h0e1, h1e1, h2e1, h3e1⟩ := kOp_el h_p0_l hd3'
      refine wp_region_lit ?_
      apply seq_op (V := .pointer (some ⟨be1, oe1 + k3 * 6, none⟩)) rfl
      · intro Φ hΦ; refine O_ix rfl Try.underlying28 (Try.sizeOf35 _) rfl rfl rfl hl3 ?_; exact hΦ
      (try simp only [Act.put, List.setIfInBounds_toArray, List.set_cons_succ, List.set_cons_zero])
      apply seq_op (V := .agg #[.int .i64 x3.kind, .string x3.key, .int .i64 x3.value, .slice A3e1 x3.list.length c3e1, .bool x3.has, .bool x3.isNil]) rfl
      · intro Φ hΦ; refine G_sN _ _ rfl (Try.isAgg35 _) rfl H hCe1 (Try.sizeOf35 _) ?_; exact hΦ
      (try simp only [Act.put, List.setIfInBounds_toArray, List.set_cons_succ, List.set_cons_zero])
      refine OpG.list rfl ?_; refine G_alloc 35 rfl (Try.zeroValue35 _) H ?_; clear H; intro b7 w1 H; (try simp only [Value.cells] at H)
      (try simp only [Act.put, List.setIfInBounds_toArray, List.set_cons_succ, List.set_cons_zero])
      refine OpG.list rfl ?_; refine G_setNi 0 (c := [.int .i64 x3.kind, .string x3.key, .int .i64 x3.value, .slice A3e1 x3.list.length c3e1, .bool x3.has, .bool x3.isNil]) _ _ _ rfl (Try.sizeOf35 _) rfl rfl (by simp [Value.oneCell']) H rfl rfl ?_; clear H; intro w1 H; simp only [List.set_cons_succ, List.set_cons_zero] at H
      (try simp only [Act.put, List.setIfInBounds_toArray, List.set_cons_succ, List.set_cons_zero])
      refine list_end ?_
      refine then_norm ?_
      refine wp_seq ?_
      refine wp_region_lit ?_
      apply seq_op (V := .pointer (some ⟨b7, 0, none⟩)) rfl
      · intro Φ hΦ; refine O_fld rfl Try.underlying35 rfl (Try.sizeOf3 _) rfl ?_; exact hΦ
      (try simp only [Act.put, List.setIfInBounds_toArray, List.set_cons_succ, List.set_cons_zero])
      apply seq_op (V := .int .i64 x3.kind) rfl
      · intro Φ hΦ; refine L_1 0 _ _ rfl (Try.isAgg3 _) rfl H rfl rfl ?_; exact hΦ
      (try simp only [Act.put, List.setIfInBounds_toArray, List.set_cons_succ, List.set_cons_zero])
      apply seq_op (V := .bool (x3.kind == 1)) rfl
      · intro Φ hΦ; refine O_bin rfl rfl rfl eqg_int r_eql ?_; exact hΦ
      (try simp only [Act.put, List.setIfInBounds_toArray, List.set_cons_succ, List.set_cons_zero])
      apply seq_op (V := .bool (x3.kind == 1)) rfl
      · intro Φ hΦ; refine O_mv rfl rfl ?_; exact hΦ
      (try simp only [Act.put, List.setIfInBounds_toArray, List.set_cons_succ, List.set_cons_zero])
      refine seq_opg (c := (x3.kind == 1)) (V := .pointer (some ⟨b7, 1, none⟩)) (by first | exact wanted_t rfl rfl rfl | exact wanted_vt rfl rfl rfl) ?_ ?_
      · intro hc Φ hΦ; refine O_fld rfl Try.underlying35 rfl (Try.sizeOf9 _) rfl ?_; exact hΦ
      (try simp only [Act.put, List.setIfInBounds_toArray, List.set_cons_succ, List.set_cons_zero])
      refine seq_opg (c := (x3.kind == 1)) (V := .string x3.key) (by first | exact wanted_t rfl rfl rfl | exact wanted_vt rfl rfl rfl) ?_ ?_
      · intro hc Φ hΦ; (repeat (first | rw [vg_of hc] | rw [vg_of (and_l hc)] | rw [vg_of (and_l (and_l hc))] | rw [vg_of (and_l (and_l (and_l hc)))] | rw [vg_and hc])); refine L_1 0 _ _ rfl (Try.isAgg9 _) rfl H rfl rfl ?_; exact hΦ
      (try simp only [Act.put, List.setIfInBounds_toArray, List.set_cons_succ, List.set_cons_zero])
      refine seq_opg (c := (x3.kind == 1)) (V := .string a1) (by first | exact wanted_t rfl rfl rfl | exact wanted_vt rfl rfl rfl) ?_ ?_
      · intro hc Φ hΦ; refine O_mv rfl rfl ?_; exact hΦ
      (try simp only [Act.put, List.setIfInBounds_toArray, List.set_cons_succ, List.set_cons_zero])
      refine seq_opg (c := (x3.kind == 1)) (V := .bool (x3.key.toList == a1.toList)) (by first | exact wanted_t rfl rfl rfl | exact wanted_vt rfl rfl rfl) ?_ ?_
      · intro hc Φ hΦ; (repeat (first | rw [vg_of hc] | rw [vg_of (and_l hc)] | rw [vg_of (and_l (and_l hc))] | rw [vg_of (and_l (and_l (and_l hc)))] | rw [vg_and hc])); refine O_bin rfl rfl rfl eqg_str r_seq ?_; exact hΦ
      (try simp only [Act.put, List.setIfInBounds_toArray, List.set_cons_succ, List.set_cons_zero])
      apply seq_op (V := .bool ((x3.kind == 1) && (x3.key.toList == a1.toList))) rfl
      · intro Φ hΦ; refine G_and _ _ _ rfl rfl rfl rfl ?_; exact hΦ
      (try simp only [Act.put, List.setIfInBounds_toArray, List.set_cons_succ, List.set_cons_zero])
      refine list_end ?_
      refine then_norm ?_
      refine wp_cond_split rfl (fun hc => ?_) (fun hc => ?_)
      · have hc2 := hc
        clear hc
        replace hq3 := ifT hc2 hq3
        obtain ⟨u1, gx1, hq3⟩ := bs hq3
        obtain ⟨hroomgx1, egx1⟩ := app_some gx1
        refine wp_region_lit ?_
        apply seq_op (V := .slice A_y3_5 y3_5.length c_y3_5) rfl
        · intro Φ hΦ; refine O_mv rfl rfl ?_; exact hΦ
        (try simp only [Act.put, List.setIfInBounds_toArray, List.set_cons_succ, List.set_cons_zero])
        apply seq_op (V := .pointer (some ⟨b7, 2, none⟩)) rfl
        · intro Φ hΦ; refine O_fld rfl Try.underlying35 rfl (Try.sizeOf3 _) rfl ?_; exact hΦ
        (try simp only [Act.put, List.setIfInBounds_toArray, List.set_cons_succ, List.set_cons_zero])
        apply seq_op (V := .int .i64 x3.value) rfl
        · intro Φ hΦ; refine L_1 0 _ _ rfl (Try.isAgg3 _) rfl H rfl rfl ?_; exact hΦ
        (try simp only [Act.put, List.setIfInBounds_toArray, List.set_cons_succ, List.set_cons_zero])
        refine OpG.list rfl ?_; refine SL_1 rfl (v := .int .i64 x3.value) rfl Try.underlying33 Try.sizeOf3 Try.zeroValue3 rfl rfl (by decide) (by decide) H ?_; clear H; intro b29 w1 H; (try simp only [Value.cells] at H)
        (try simp only [Act.put, List.setIfInBounds_toArray, List.set_cons_succ, List.set_cons_zero])
        refine OpG.list rfl ?_; refine AP_1 (p := x3.value) 1 kI_at _ _ rfl (kI_mk' (s := s) (x := x3.value) h2e1) H rfl rfl rfl hroomgx1 ?_; clear H; intro v1 w1 H; (try simp only [List.set_cons_succ, List.set_cons_zero] at H)
        rw [← egx1] at H
        obtain ⟨Av1, cv1, rfl, -⟩ := (H.front 1 rfl).len
        (try simp only [Act.put, List.setIfInBounds_toArray, List.set_cons_succ, List.set_cons_zero])
        apply seq_op (V := .slice Av1 u1.length cv1) rfl
        · intro Φ hΦ; refine O_as rfl rfl ?_; exact hΦ
        (try simp only [Act.put, List.setIfInBounds_toArray, List.set_cons_succ, List.set_cons_zero])
        refine list_end ?_
        refine block_norm ?_
        refine then_norm ?_
        refine wp_region_lit ?_
        apply seq_op (V := .int .i64 (IntKind.i64.wrap ((k3 : Int) + 1))) rfl
        · intro Φ hΦ; refine O_bin rfl rfl rfl eqg_int r_add ?_; exact hΦ
        (try simp only [Act.put, List.setIfInBounds_toArray, List.set_cons_succ, List.set_cons_zero])
        apply seq_op (V := .int .i64 (IntKind.i64.wrap ((k3 : Int) + 1))) rfl
        · intro Φ hΦ; refine O_mv rfl rfl ?_; exact hΦ
        (try simp only [Act.put, List.setIfInBounds_toArray, List.set_cons_succ, List.set_cons_zero])
        refine list_end ?_
        refine then_norm ?_
        replace H := H.drop
        refine ⟨⟨⟨rfl, rfl, rfl, rfl, rfl, rfl, rfl, rfl, rfl, rfl, rfl, rfl, rfl⟩, rfl⟩, ⟨k3 + 1, _, u1, Av1, cv1, hd3'', wrap_succ hl3 hn3, rfl, hq3, H⟩, ?_⟩
        exact meas_succ hl3 hn3
      · have hc2 := hc
        clear hc
        replace hq3 := ifF hc2 hq3
        refine wp_skip ?_
        refine block_norm ?_
        refine then_norm ?_
        refine wp_region_lit ?_
        apply seq_op (V := .int .i64 (IntKind.i64.wrap ((k3 : Int) + 1))) rfl
        · intro Φ hΦ; refine O_bin rfl rfl rfl eqg_int r_add ?_; exact hΦ
        (try simp only [Act.put, List.setIfInBounds_toArray, List.set_cons_succ, List.set_cons_zero])
        apply seq_op (V := .int .i64 (IntKind.i64.wrap ((k3 : Int) + 1))) rfl
        · intro Φ hΦ; refine O_mv rfl rfl ?_; exact hΦ
        (try simp only [Act.put, List.setIfInBounds_toArray, List.set_cons_succ, List.set_cons_zero])
        refine list_end ?_
        refine then_norm ?_
        replace H := H.drop
        refine ⟨⟨⟨rfl, rfl, rfl, rfl, rfl, rfl, rfl, rfl, rfl, rfl, rfl, rfl, rfl⟩, rfl⟩, ⟨k3 + 1, _, y3_5, A_y3_5, c_y3_5, hd3'', wrap_succ hl3 hn3, rfl, hq3, H⟩, ?_⟩
        exact meas_succ hl3 hn3
    · have hc1 := hc
      clear hc
      obtain rfl := rng_f hd3 hc1
      rw [assayerref16_State_List_l3] at hq3
      refine wp_exit ?_
      refine then_exit ?_
      refine then_exit ?_
      have hq3 := Option.some.inj hq3
      subst hq3
      (try dsimp only at hm)
      refine block_exit ?_
      refine then_norm ?_
      refine wp_seq ?_
      refine wp_region_lit ?_
      apply seq_op (V := .slice A_y3_5 y3_5.length c_y3_5) rfl
      · intro Φ hΦ; refine O_mv rfl rfl ?_; exact hΦ
      (try simp only [Act.put, List.setIfInBounds_toArray, List.set_cons_succ, List.set_cons_zero])
      apply seq_op (V := .slice A_y3_5 y3_5.length c_y3_5) rfl
      · intro Φ hΦ; refine O_as rfl rfl ?_; exact hΦ
      (try simp only [Act.put, List.setIfInBounds_toArray, List.set_cons_succ, List.set_cons_zero])
      refine list_end ?_
      refine then_norm ?_
      refine wp_ret ?_
      have hm := Option.some.inj hm
      subst hm
      exact ret1 rfl (rv_tmp rfl) rfl ⟨A_y3_5, c_y3_5, rfl, H⟩
def assayerref02_SameList_l4 (a1 : List Int) : Nat → List Int → Option ((Bool ⊕ Unit))
  | k4, []  => some (.inr ())
  | k4, x4 :: r4 => (rdI a1 (k4 : Int)).bind fun u1 => if (x4 != u1) = true then (some (.inl false)) else (assayerref02_SameList_l4 a1 (k4 + 1) r4)

def assayerref02_SameList_f (a0 : List Int) (a1 : List Int) : Option Bool := if ((a0.length : Int) != (a1.length : Int)) = true then (some false) else ((assayerref02_SameList_l4 a1 0 a0).bind fun | .inl z4_r => (some z4_r) | .inr () => (some true))

set_option maxHeartbeats 4000000 in
theorem assayerref02_SameList_w {E : World} {s : SH} {L : List HP} {w : World} {a0 : List Int} {a1 : List Int} {A_p0 : Option Addr} {c_p0 : Nat} (h_p0 : kI.Sl s (.slice A_p0 a0.length c_p0) a0) {A_p1 : Option Addr} {c_p1 : Nat} (h_p1 : kI.Sl s (.slice A_p1 a1.length c_p1) a1) {R : Bool} (hm : assayerref02_SameList_f a0 a1 = some R) (H : Holds E s (L) w) :
    Calls Try.prog 96 #[.slice A_p0 a0.length c_p0, .slice A_p1 a1.length c_p1] w fun e w' => e = .returned (.bool R) ∧ Holds E s (L) w' := by
  unfold assayerref02_SameList_f at hm
  go_enter Try.func96, Try.ntmps96
  refine wp_seq ?_
  refine wp_region_lit ?_
  apply seq_op (V := .bool false) rfl
  · intro Φ hΦ; refine O_as rfl rfl ?_; exact hΦ
  (try simp only [Act.put, List.setIfInBounds_toArray, List.set_cons_succ, List.set_cons_zero])
  refine list_end ?_
  refine then_norm ?_
  refine wp_seq ?_
  refine wp_seq ?_
  refine wp_region_lit ?_
  apply seq_op (V := .slice A_p0 a0.length c_p0) rfl
  · intro Φ hΦ; refine O_mv rfl rfl ?_; exact hΦ
  (try simp only [Act.put, List.setIfInBounds_toArray, List.set_cons_succ, List.set_cons_zero])
  apply seq_op (V := .int .i64 (a0.length : Int)) rfl
  · intro Φ hΦ; refine O_len rfl Try.underlying33 rfl ?_; exact hΦ
  (try simp only [Act.put, List.setIfInBounds_toArray, List.set_cons_succ, List.set_cons_zero])
  apply seq_op (V := .slice A_p1 a1.length c_p1) rfl
  · intro Φ hΦ; refine O_mv rfl rfl ?_; exact hΦ
  (try simp only [Act.put, List.setIfInBounds_toArray, List.set_cons_succ, List.set_cons_zero])
  apply seq_op (V := .int .i64 (a1.length : Int)) rfl
  · intro Φ hΦ; refine O_len rfl Try.underlying33 rfl ?_; exact hΦ
  (try simp only [Act.put, List.setIfInBounds_toArray, List.set_cons_succ, List.set_cons_zero])
  apply seq_op (V := .bool ((a0.length : Int) != (a1.length : Int))) rfl
  · intro Φ hΦ; refine O_bin rfl rfl rfl eqg_int r_neq ?_; exact hΦ
  (try simp only [Act.put, List.setIfInBounds_toArray, List.set_cons_succ, List.set_cons_zero])
  refine list_end ?_
  refine then_norm ?_
  refine wp_cond_split rfl (fun hc => ?_) (fun hc => ?_)
  · have hc1 := hc
    clear hc
    replace hm := ifT hc1 hm
    refine wp_seq ?_
    refine wp_region_lit ?_
    apply seq_op (V := .bool false) rfl
    · intro Φ hΦ; refine O_as rfl rfl ?_; exact hΦ
    (try simp only [Act.put, List.setIfInBounds_toArray, List.set_cons_succ, List.set_cons_zero])
    refine list_end ?_
    refine then_norm ?_
    refine wp_ret ?_
    refine then_ret ?_
    have hm := Option.some.inj hm
    subst hm
    exact ret1 rfl (rv_tmp rfl) rfl ⟨rfl, H⟩
  · have hc1 := hc
    clear hc
    replace hm := ifF hc1 hm
    refine wp_skip ?_
    refine then_norm ?_
    refine wp_seq ?_
    refine wp_seq ?_
    refine wp_region_lit ?_
    apply seq_op (V := .slice A_p0 a0.length c_p0) rfl
    · intro Φ hΦ; refine O_mv rfl rfl ?_; exact hΦ
    (try simp only [Act.put, List.setIfInBounds_toArray, List.set_cons_succ, List.set_cons_zero])
    apply seq_op (V := .int .i64 (a0.length : Int)) rfl
    · intro Φ hΦ; refine O_len rfl Try.underlying33 rfl ?_; exact hΦ
    (try simp only [Act.put, List.setIfInBounds_toArray, List.set_cons_succ, List.set_cons_zero])
    apply seq_op (V := .int .i64 0) rfl
    · intro Φ hΦ; refine O_mv rfl rfl ?_; exact hΦ
    (try simp only [Act.put, List.setIfInBounds_toArray, List.set_cons_succ, List.set_cons_zero])
    refine list_end ?_
    refine then_norm ?_
    refine wp_block ?_
    obtain ⟨R4, hq4, hm⟩ := bs hm
    have hn4 := Nat.le_trans (len_le (d := kI) h_p0 (by decide)) (by decide : (140737488355328 : Nat) ≤ 9223372036854775807)
    refine wp_loopF [none, none, none, none, some 4, some 5, none, none, none, none, none, none, none, some 13, some 14, some 15, some 16, some 17, some 18, some 19, some 20, some 21, some 22, some 23, some 24, some 25] rfl (by simp) (fun f w => ∃ (k4 : Nat) (r4 : List Int), a0.drop k4 = r4 ∧ f 13 = .int .i64 (k4 : Int) ∧ assayerref02_SameList_l4 a1 k4 r4 = some R4 ∧ Holds E s (L) w) (fun f w => a0.length - (intOf (f 13)).toNat) ?_ ?_
    · exact ⟨0, a0, rfl, rfl, hq4, H⟩
    · clear H
      intro f w hI
      obtain ⟨k4, r4, hd4, hf13, hq4', H⟩ := hI
      clear hq4; have hq4 := hq4'; clear hq4'
      simp only [ovm, mixM]
      simp only [hf13]; clear hf13
      refine wp_seq ?_
      refine wp_region_lit ?_
      apply seq_op (V := .bool (decide ((k4 : Int) < (a0.length : Int)))) rfl
      · intro Φ hΦ; refine O_bin rfl rfl rfl eqg_int r_lss ?_; exact hΦ
      (try simp only [Act.put, List.setIfInBounds_toArray, List.set_cons_succ, List.set_cons_zero])
      refine list_end ?_
      refine then_norm ?_
      refine wp_seq ?_
      refine wp_cond_split rfl (fun hc => ?_) (fun hc => ?_)
      · have hc2 := hc
        clear hc
        obtain ⟨x4, r4', rfl, hd4', hd4'', hl4⟩ := rng_t hd4 hc2
        rw [assayerref02_SameList_l4] at hq4
        refine wp_skip ?_
        refine then_norm ?_
        refine wp_seq ?_
        refine wp_block ?_
        refine wp_seq ?_
        refine wp_region_lit ?_
        apply seq_op (V := .int .i64 (k4 : Int)) rfl
        · intro Φ hΦ; refine O_mv rfl rfl ?_; exact hΦ
        (try simp only [Act.put, List.setIfInBounds_toArray, List.set_cons_succ, List.set_cons_zero])
        apply seq_op (V := .int .i64 (k4 : Int)) rfl
        · intro Φ hΦ; refine O_as rfl rfl ?_; exact hΦ
        (try simp only [Act.put, List.setIfInBounds_toArray, List.set_cons_succ, List.set_cons_zero])
        refine list_end ?_
        refine then_norm ?_
        refine wp_seq ?_
        obtain ⟨be1, oe1, rfl, hCe1, h0e1⟩ := kI_el h_p0 hd4'
        obtain ⟨u1, gx1, hq4⟩ := bs hq4
        obtain ⟨kk1, gk1, gl1, gd1⟩ := rdI_some gx1
        obtain ⟨be2, oe2, rfl, hCe2, h0e2⟩ := kI_el h_p1 gd1
        refine wp_draw_obO (k := 9) (sz := 26) (List.replicate 9 9) (fun _ => []) mixed (by simp) rfl (by kernel_rfl) (by kernel_rfl) (by kernel_rfl) H (by simp only [List.take_succ_cons, List.take_zero]; exact rfl) (by simp only [List.drop_succ_cons, List.drop_zero]; exact rfl)
          (fun y => by simp only [ov, Act.put, List.setIfInBounds_toArray, List.set_cons_succ, List.set_cons_zero, Nat.zero_add, Nat.reduceAdd]; exact rfl) ?_
        apply ObO.valw (V := .slice (some ⟨be1, oe1, none⟩) a0.length c_p0)
        · intro x; rfl
        · intro s' w' y Φ R hs H hG hΦ; refine wantG rfl ?_; refine O_mv rfl rfl ?_; exact hΦ _ _ (Sub.refl _) H
        apply ObO.valw (V := .int .i64 (k4 : Int))
        · intro x; rfl
        · intro s' w' y Φ R hs H hG hΦ; refine wantG rfl ?_; refine O_mv rfl rfl ?_; exact hΦ _ _ (Sub.refl _) H
        apply ObO.valw (V := .pointer (some ⟨be1, oe1 + k4 * 1, none⟩))
        · intro x; rfl
        · intro s' w' y Φ R hs H hG hΦ; simp only [List.nil_append, List.cons_append] at hG; have e0 : y 0 = _ := dh_get hG 0 rfl (by kernel_rfl); have e1 : y 1 = _ := dh_get hG 1 rfl (by kernel_rfl); simp only [e0, e1]; refine wantG rfl ?_; refine O_ix rfl Try.underlying33 (Try.sizeOf3 _) rfl rfl rfl hl4 ?_; exact hΦ _ _ (Sub.refl _) H
        apply ObO.valw (V := .int .i64 x4)
        · intro x; rfl
        · intro s' w' y Φ R hs H hG hΦ; simp only [List.nil_append, List.cons_append] at hG; have e2 : y 2 = _ := dh_get hG 2 rfl (by kernel_rfl); simp only [e2]; refine wantG rfl ?_; refine G_s1 _ _ rfl (Try.isAgg3 _) rfl H (hCe1.mono hs) 0 rfl rfl ?_; exact hΦ _ _ (Sub.refl _) H
        apply ObO.valw (V := .slice (some ⟨be2, oe2, none⟩) a1.length c_p1)
        · intro x; rfl
        · intro s' w' y Φ R hs H hG hΦ; refine wantG rfl ?_; refine O_mv rfl rfl ?_; exact hΦ _ _ (Sub.refl _) H
        apply ObO.valw (V := .int .i64 (k4 : Int))
        · intro x; rfl
        · intro s' w' y Φ R hs H hG hΦ; refine wantG rfl ?_; refine O_mv rfl rfl ?_; exact hΦ _ _ (Sub.refl _) H
        apply ObO.valw (V := .pointer (some ⟨be2, oe2 + kk1 * 1, none⟩))
        · intro x; rfl
        · intro s' w' y Φ R hs H hG hΦ; simp only [List.nil_append, List.cons_append] at hG; have e4 : y 4 = _ := dh_get hG 4 rfl (by kernel_rfl); have e5 : y 5 = _ := dh_get hG 5 rfl (by kernel_rfl); simp only [e4, e5]; refine wantG rfl ?_; refine O_ix rfl Try.underlying33 (Try.sizeOf3 _) rfl rfl gk1 gl1 ?_; exact hΦ _ _ (Sub.refl _) H
        apply ObO.valw (V := .int .i64 u1)
        · intro x; rfl
        · intro s' w' y Φ R hs H hG hΦ; simp only [List.nil_append, List.cons_append] at hG; have e6 : y 6 = _ := dh_get hG 6 rfl (by kernel_rfl); simp only [e6]; refine wantG rfl ?_; refine G_s1 _ _ rfl (Try.isAgg3 _) rfl H (hCe2.mono hs) 0 rfl rfl ?_; exact hΦ _ _ (Sub.refl _) H
        apply ObO.valw (V := .bool (x4 != u1))
        · intro x; rfl
        · intro s' w' y Φ R hs H hG hΦ; simp only [List.nil_append, List.cons_append] at hG; have e3 : y 3 = _ := dh_get hG 3 rfl (by kernel_rfl); have e7 : y 7 = _ := dh_get hG 7 rfl (by kernel_rfl); simp only [e3, e7]; refine wantG rfl ?_; refine O_bin rfl rfl rfl eqg_int r_neq ?_; exact hΦ _ _ (Sub.refl _) H
        clear H
        intro s3 w3 yy hs3 H hG
        replace H := (show Holds _ _ ([] ++ _) _ from H); rw [List.nil_append] at H
        simp only [List.nil_append, List.cons_append] at hG
        have e0 : yy 0 = _ := gh_get hG 0 rfl
        have e1 : yy 1 = _ := gh_get hG 1 rfl
        have e2 : yy 2 = _ := gh_get hG 2 rfl
        have e3 : yy 3 = _ := gh_get hG 3 rfl
        have e4 : yy 4 = _ := gh_get hG 4 rfl
        have e5 : yy 5 = _ := gh_get hG 5 rfl
        have e6 : yy 6 = _ := gh_get hG 6 rfl
        have e7 : yy 7 = _ := gh_get hG 7 rfl
        have e8 : yy 8 = _ := gh_get hG 8 rfl
        simp only [e0, e1, e2, e3, e4, e5, e6, e7, e8]
        clear hG e0 e1 e2 e3 e4 e5 e6 e7 e8
        replace H := H.forget hs3; clear hs3
        refine list_end ?_
        refine then_norm ?_
        refine wp_cond_split rfl (fun hc => ?_) (fun hc => ?_)
        · have hc3 := hc
          clear hc
          replace hq4 := ifT hc3 hq4
          refine wp_seq ?_
          refine wp_region_lit ?_
          apply seq_op (V := .bool false) rfl
          · intro Φ hΦ; refine O_as rfl rfl ?_; exact hΦ
          (try simp only [Act.put, List.setIfInBounds_toArray, List.set_cons_succ, List.set_cons_zero])
          refine list_end ?_
          refine then_norm ?_
          refine wp_ret ?_
          refine block_ret ?_
          refine then_ret ?_
          refine then_ret ?_
          refine block_ret ?_
          refine then_ret ?_
          have hq4 := Option.some.inj hq4
          subst hq4
          (try dsimp only at hm)
          have hm := Option.some.inj hm
          subst hm
          exact ret1 rfl (rv_tmp rfl) rfl ⟨rfl, H⟩
        · have hc3 := hc
          clear hc
          replace hq4 := ifF hc3 hq4
          refine wp_skip ?_
          refine block_norm ?_
          refine then_norm ?_
          refine wp_region_lit ?_
          apply seq_op (V := .int .i64 (IntKind.i64.wrap ((k4 : Int) + 1))) rfl
          · intro Φ hΦ; refine O_bin rfl rfl rfl eqg_int r_add ?_; exact hΦ
          (try simp only [Act.put, List.setIfInBounds_toArray, List.set_cons_succ, List.set_cons_zero])
          apply seq_op (V := .int .i64 (IntKind.i64.wrap ((k4 : Int) + 1))) rfl
          · intro Φ hΦ; refine O_mv rfl rfl ?_; exact hΦ
          (try simp only [Act.put, List.setIfInBounds_toArray, List.set_cons_succ, List.set_cons_zero])
          refine list_end ?_
          refine then_norm ?_
          refine ⟨⟨⟨rfl, rfl, rfl, rfl, rfl, rfl, rfl, rfl, rfl, rfl, rfl, rfl⟩, rfl⟩, ⟨k4 + 1, _, hd4'', wrap_succ hl4 hn4, hq4, H⟩, ?_⟩
          exact meas_succ hl4 hn4
      · have hc2 := hc
        clear hc
        obtain rfl := rng_f hd4 hc2
        rw [assayerref02_SameList_l4] at hq4
        refine wp_exit ?_
        refine then_exit ?_
        refine then_exit ?_
        have hq4 := Option.some.inj hq4
        subst hq4
        (try dsimp only at hm)
        refine block_exit ?_
        refine then_norm ?_
        refine wp_seq ?_
        refine wp_region_lit ?_
        apply seq_op (V := .bool true) rfl
        · intro Φ hΦ; refine O_as rfl rfl ?_; exact hΦ
        (try simp only [Act.put, List.setIfInBounds_toArray, List.set_cons_succ, List.set_cons_zero])
        refine list_end ?_
        refine then_norm ?_
        refine wp_ret ?_
        have hm := Option.some.inj hm
        subst hm
        exact ret1 rfl (rv_tmp rfl) rfl ⟨rfl, H⟩
def assayerref16_State_Value_l2 (a0 : St16) (a1 : ByteArray) : Nat → Int → Option (((Int × Bool) ⊕ Unit))
  | 0, _ => none
  | r2 + 1, y2_6 => if (decide (y2_6 ≥ 0)) = true then ((rdI a0.l y2_6).bind fun u1 => if ((u1.kind == 3) && (u1.key.toList == a1.toList)) = true then (some (.inl (u1.value, true))) else (assayerref16_State_Value_l2 a0 a1 r2 (IntKind.i64.wrap (y2_6 - 1)))) else (some (.inr ()))

def assayerref16_State_Value_f (fuel : Nat) (a0 : St16) (a1 : ByteArray) : Option (Int × Bool) := (assayerref16_State_Value_l2 a0 a1 fuel (IntKind.i64.wrap ((a0.l.length : Int) - 1))).bind fun | .inl z2_r => (some z2_r) | .inr () => (some (0, false))

set_option maxHeartbeats 4000000 in
theorem assayerref16_State_Value_w {E : World} {s : SH} {L : List HP} {w : World} {fuel : Nat} {a0 : St16} {a1 : ByteArray} {A_p0_l : Option Addr} {c_p0_l : Nat} (h_p0_l : kOp.Sl s (.slice A_p0_l a0.l.length c_p0_l) a0.l) {b_p0 o_p0 : Nat} (hC_p0 : Cells s ⟨b_p0, o_p0, none⟩ [.slice A_p0_l a0.l.length c_p0_l]) {R : Int × Bool} (hm : assayerref16_State_Value_f fuel a0 a1 = some R) (H : Holds E s (L) w) :
    Calls Try.prog 41 #[.pointer (some ⟨b_p0, o_p0, none⟩), .string a1] w fun e w' => e = .returned (.tuple #[.int .i64 R.1, .bool R.2]) ∧ Holds E s (L) w' := by
  unfold assayerref16_State_Value_f at hm
  go_enter Try.func41, Try.ntmps41
  refine wp_seq ?_
  refine wp_region_lit ?_
  apply seq_op (V := .int .i64 0) rfl
  · intro Φ hΦ; refine O_as rfl rfl ?_; exact hΦ
  (try simp only [Act.put, List.setIfInBounds_toArray, List.set_cons_succ, List.set_cons_zero])
  apply seq_op (V := .bool false) rfl
  · intro Φ hΦ; refine O_as rfl rfl ?_; exact hΦ
  (try simp only [Act.put, List.setIfInBounds_toArray, List.set_cons_succ, List.set_cons_zero])
  refine list_end ?_
  refine then_norm ?_
  refine wp_seq ?_
  refine wp_seq ?_
  refine wp_region_lit ?_
  apply seq_op (V := .pointer (some ⟨b_p0, o_p0, none⟩)) rfl
  · intro Φ hΦ; refine O_mv rfl rfl ?_; exact hΦ
  (try simp only [Act.put, List.setIfInBounds_toArray, List.set_cons_succ, List.set_cons_zero])
  apply seq_op (V := .pointer (some ⟨b_p0, o_p0, none⟩)) rfl
  · intro Φ hΦ; refine O_nil rfl rfl ?_; exact hΦ
  (try simp only [Act.put, List.setIfInBounds_toArray, List.set_cons_succ, List.set_cons_zero])
  apply seq_op (V := .pointer (some ⟨b_p0, o_p0, none⟩)) rfl
  · intro Φ hΦ; refine O_fld rfl Try.underlying61 rfl (Try.sizeOf28 _) rfl ?_; exact hΦ
  (try simp only [Act.put, List.setIfInBounds_toArray, List.set_cons_succ, List.set_cons_zero])
  apply seq_op (V := .slice A_p0_l a0.l.length c_p0_l) rfl
  · intro Φ hΦ; refine G_s1 _ _ rfl (Try.isAgg28 _) rfl H hC_p0 0 rfl rfl ?_; exact hΦ
  (try simp only [Act.put, List.setIfInBounds_toArray, List.set_cons_succ, List.set_cons_zero])
  apply seq_op (V := .int .i64 (a0.l.length : Int)) rfl
  · intro Φ hΦ; refine O_len rfl Try.underlying28 rfl ?_; exact hΦ
  (try simp only [Act.put, List.setIfInBounds_toArray, List.set_cons_succ, List.set_cons_zero])
  apply seq_op (V := .int .i64 (IntKind.i64.wrap ((a0.l.length : Int) - 1))) rfl
  · intro Φ hΦ; refine O_bin rfl rfl rfl eqg_int r_sub ?_; exact hΦ
  (try simp only [Act.put, List.setIfInBounds_toArray, List.set_cons_succ, List.set_cons_zero])
  apply seq_op (V := .int .i64 (IntKind.i64.wrap ((a0.l.length : Int) - 1))) rfl
  · intro Φ hΦ; refine O_as rfl rfl ?_; exact hΦ
  (try simp only [Act.put, List.setIfInBounds_toArray, List.set_cons_succ, List.set_cons_zero])
  refine list_end ?_
  refine then_norm ?_
  refine wp_block ?_
  obtain ⟨R2, hq2, hm⟩ := bs hm
  refine wp_loopN [none, none, none, none, some 4, some 5, some 6, none, none, none, none, none, none, some 13, some 14, some 15, some 16, some 17, some 18, some 19, some 20, some 21, some 22, some 23, some 24, some 25, some 26, some 27, some 28, some 29, some 30, some 31, some 32, some 33, some 34, some 35, some 36, some 37, some 38, some 39, some 40, some 41, some 42, some 43, some 44, some 45] rfl (by simp) (fun r2 f w => ∃ (y2_6 : Int), f 6 = .int .i64 y2_6 ∧ Kin.inI64 y2_6 ∧ assayerref16_State_Value_l2 a0 a1 r2 y2_6 = some R2 ∧ Holds E s (L) w) ?_ ?_
  · exact ⟨_, (IntKind.i64.wrap ((a0.l.length : Int) - 1)), rfl, (i64_i _), hq2, H⟩
  · clear H
    intro r2 f w hI
    obtain ⟨y2_6, hf6, hr_y2_6, hq2', H⟩ := hI
    clear hq2; have hq2 := hq2'; clear hq2'
    simp only [ovm, mixM]
    simp only [hf6]; clear hf6
    cases r2 with
    | zero => cases hq2
    | succ r2 =>
      rw [assayerref16_State_Value_l2] at hq2
      refine wp_seq ?_
      refine wp_seq ?_
      refine wp_region_lit ?_
      apply seq_op (V := .int .i64 y2_6) rfl
      · intro Φ hΦ; refine O_mv rfl rfl ?_; exact hΦ
      (try simp only [Act.put, List.setIfInBounds_toArray, List.set_cons_succ, List.set_cons_zero])
      apply seq_op (V := .bool (decide (y2_6 ≥ 0))) rfl
      · intro Φ hΦ; refine O_bin rfl rfl rfl eqg_int r_geq ?_; exact hΦ
      (try simp only [Act.put, List.setIfInBounds_toArray, List.set_cons_succ, List.set_cons_zero])
      refine list_end ?_
      refine then_norm ?_
      refine wp_cond_split rfl (fun hc => ?_) (fun hc => ?_)
      · have hc1 := hc
        clear hc
        replace hq2 := ifT hc1 hq2
        refine wp_skip ?_
        refine then_norm ?_
        refine wp_seq ?_
        refine wp_block ?_
        refine wp_seq ?_
        obtain ⟨u1, gx1, hq2⟩ := bs hq2
        obtain ⟨kk1, gk1, gl1, gd1⟩ := rdI_some gx1
        obtain ⟨be1, oe1, A3e1, c3e1, rfl, hCe1, h0e1, h1e1, h2e1, h3e1⟩ := kOp_el h_p0_l gd1
        refine wp_region_lit ?_
        apply seq_op (V := .pointer (some ⟨b_p0, o_p0, none⟩)) rfl
        · intro Φ hΦ; refine O_mv rfl rfl ?_; exact hΦ
        (try simp only [Act.put, List.setIfInBounds_toArray, List.set_cons_succ, List.set_cons_zero])
        apply seq_op (V := .pointer (some ⟨b_p0, o_p0, none⟩)) rfl
        · intro Φ hΦ; refine O_nil rfl rfl ?_; exact hΦ
        (try simp only [Act.put, List.setIfInBounds_toArray, List.set_cons_succ, List.set_cons_zero])
        apply seq_op (V := .pointer (some ⟨b_p0, o_p0, none⟩)) rfl
        · intro Φ hΦ; refine O_fld rfl Try.underlying61 rfl (Try.sizeOf28 _) rfl ?_; exact hΦ
        (try simp only [Act.put, List.setIfInBounds_toArray, List.set_cons_succ, List.set_cons_zero])
        apply seq_op (V := .slice (some ⟨be1, oe1, none⟩) a0.l.length c_p0_l) rfl
        · intro Φ hΦ; refine G_s1 _ _ rfl (Try.isAgg28 _) rfl H hC_p0 0 rfl rfl ?_; exact hΦ
        (try simp only [Act.put, List.setIfInBounds_toArray, List.set_cons_succ, List.set_cons_zero])
        apply seq_op (V := .int .i64 y2_6) rfl
        · intro Φ hΦ; refine O_mv rfl rfl ?_; exact hΦ
        (try simp only [Act.put, List.setIfInBounds_toArray, List.set_cons_succ, List.set_cons_zero])
        apply seq_op (V := .pointer (some ⟨be1, oe1 + kk1 * 6, none⟩)) rfl
        · intro Φ hΦ; refine O_ix rfl Try.underlying28 (Try.sizeOf35 _) rfl rfl gk1 gl1 ?_; exact hΦ
        (try simp only [Act.put, List.setIfInBounds_toArray, List.set_cons_succ, List.set_cons_zero])
        apply seq_op (V := .pointer (some ⟨be1, oe1 + kk1 * 6, none⟩)) rfl
        · intro Φ hΦ; refine O_fld rfl Try.underlying35 rfl (Try.sizeOf3 _) rfl ?_; exact hΦ
        (try simp only [Act.put, List.setIfInBounds_toArray, List.set_cons_succ, List.set_cons_zero])
        apply seq_op (V := .int .i64 u1.kind) rfl
        · intro Φ hΦ; refine G_s1 _ _ rfl (Try.isAgg3 _) rfl H hCe1 0 rfl rfl ?_; exact hΦ
        (try simp only [Act.put, List.setIfInBounds_toArray, List.set_cons_succ, List.set_cons_zero])
        apply seq_op (V := .bool (u1.kind == 3)) rfl
        · intro Φ hΦ; refine O_bin rfl rfl rfl eqg_int r_eql ?_; exact hΦ
        (try simp only [Act.put, List.setIfInBounds_toArray, List.set_cons_succ, List.set_cons_zero])
        apply seq_op (V := .bool (u1.kind == 3)) rfl
        · intro Φ hΦ; refine O_mv rfl rfl ?_; exact hΦ
        (try simp only [Act.put, List.setIfInBounds_toArray, List.set_cons_succ, List.set_cons_zero])
        refine seq_opg (c := (u1.kind == 3)) (V := .pointer (some ⟨b_p0, o_p0, none⟩)) (by first | exact wanted_t rfl rfl rfl | exact wanted_vt rfl rfl rfl) ?_ ?_
        · intro hc Φ hΦ; refine O_mv rfl rfl ?_; exact hΦ
        (try simp only [Act.put, List.setIfInBounds_toArray, List.set_cons_succ, List.set_cons_zero])
        refine seq_opg (c := (u1.kind == 3)) (V := .pointer (some ⟨b_p0, o_p0, none⟩)) (by first | exact wanted_t rfl rfl rfl | exact wanted_vt rfl rfl rfl) ?_ ?_
        · intro hc Φ hΦ; (repeat (first | rw [vg_of hc] | rw [vg_of (and_l hc)] | rw [vg_of (and_l (and_l hc))] | rw [vg_of (and_l (and_l (and_l hc)))] | rw [vg_and hc])); refine O_nil rfl rfl ?_; exact hΦ
        (try simp only [Act.put, List.setIfInBounds_toArray, List.set_cons_succ, List.set_cons_zero])
        refine seq_opg (c := (u1.kind == 3)) (V := .pointer (some ⟨b_p0, o_p0, none⟩)) (by first | exact wanted_t rfl rfl rfl | exact wanted_vt rfl rfl rfl) ?_ ?_
        · intro hc Φ hΦ; (repeat (first | rw [vg_of hc] | rw [vg_of (and_l hc)] | rw [vg_of (and_l (and_l hc))] | rw [vg_of (and_l (and_l (and_l hc)))] | rw [vg_and hc])); refine O_fld rfl Try.underlying61 rfl (Try.sizeOf28 _) rfl ?_; exact hΦ
        (try simp only [Act.put, List.setIfInBounds_toArray, List.set_cons_succ, List.set_cons_zero])
        refine seq_opg (c := (u1.kind == 3)) (V := .slice (some ⟨be1, oe1, none⟩) a0.l.length c_p0_l) (by first | exact wanted_t rfl rfl rfl | exact wanted_vt rfl rfl rfl) ?_ ?_
        · intro hc Φ hΦ; (repeat (first | rw [vg_of hc] | rw [vg_of (and_l hc)] | rw [vg_of (and_l (and_l hc))] | rw [vg_of (and_l (and_l (and_l hc)))] | rw [vg_and hc])); refine G_s1 _ _ rfl (Try.isAgg28 _) rfl H hC_p0 0 rfl rfl ?_; exact hΦ
        (try simp only [Act.put, List.setIfInBounds_toArray, List.set_cons_succ, List.set_cons_zero])
        refine seq_opg (c := (u1.kind == 3)) (V := .int .i64 y2_6) (by first | exact wanted_t rfl rfl rfl | exact wanted_vt rfl rfl rfl) ?_ ?_
        · intro hc Φ hΦ; refine O_mv rfl rfl ?_; exact hΦ
        (try simp only [Act.put, List.setIfInBounds_toArray, List.set_cons_succ, List.set_cons_zero])
        refine seq_opg (c := (u1.kind == 3)) (V := .pointer (some ⟨be1, oe1 + kk1 * 6, none⟩)) (by first | exact wanted_t rfl rfl rfl | exact wanted_vt rfl rfl rfl) ?_ ?_
        · intro hc Φ hΦ; (repeat (first | rw [vg_of hc] | rw [vg_of (and_l hc)] | rw [vg_of (and_l (and_l hc))] | rw [vg_of (and_l (and_l (and_l hc)))] | rw [vg_and hc])); refine O_ix rfl Try.underlying28 (Try.sizeOf35 _) rfl rfl gk1 gl1 ?_; exact hΦ
        (try simp only [Act.put, List.setIfInBounds_toArray, List.set_cons_succ, List.set_cons_zero])
        refine seq_opg (c := (u1.kind == 3)) (V := .pointer (some ⟨be1, oe1 + kk1 * 6 + 1, none⟩)) (by first | exact wanted_t rfl rfl rfl | exact wanted_vt rfl rfl rfl) ?_ ?_
        · intro hc Φ hΦ; (repeat (first | rw [vg_of hc] | rw [vg_of (and_l hc)] | rw [vg_of (and_l (and_l hc))] | rw [vg_of (and_l (and_l (and_l hc)))] | rw [vg_and hc])); refine O_fld rfl Try.underlying35 rfl (Try.sizeOf9 _) rfl ?_; exact hΦ
        (try simp only [Act.put, List.setIfInBounds_toArray, List.set_cons_succ, List.set_cons_zero])
        refine seq_opg (c := (u1.kind == 3)) (V := .string u1.key) (by first | exact wanted_t rfl rfl rfl | exact wanted_vt rfl rfl rfl) ?_ ?_
        · intro hc Φ hΦ; (repeat (first | rw [vg_of hc] | rw [vg_of (and_l hc)] | rw [vg_of (and_l (and_l hc))] | rw [vg_of (and_l (and_l (and_l hc)))] | rw [vg_and hc])); refine G_s1 _ _ rfl (Try.isAgg9 _) rfl H hCe1 1 rfl rfl ?_; exact hΦ
        (try simp only [Act.put, List.setIfInBounds_toArray, List.set_cons_succ, List.set_cons_zero])
        refine seq_opg (c := (u1.kind == 3)) (V := .string a1) (by first | exact wanted_t rfl rfl rfl | exact wanted_vt rfl rfl rfl) ?_ ?_
        · intro hc Φ hΦ; refine O_mv rfl rfl ?_; exact hΦ
        (try simp only [Act.put, List.setIfInBounds_toArray, List.set_cons_succ, List.set_cons_zero])
        refine seq_opg (c := (u1.kind == 3)) (V := .bool (u1.key.toList == a1.toList)) (by first | exact wanted_t rfl rfl rfl | exact wanted_vt rfl rfl rfl) ?_ ?_
        · intro hc Φ hΦ; (repeat (first | rw [vg_of hc] | rw [vg_of (and_l hc)] | rw [vg_of (and_l (and_l hc))] | rw [vg_of (and_l (and_l (and_l hc)))] | rw [vg_and hc])); refine O_bin rfl rfl rfl eqg_str r_seq ?_; exact hΦ
        (try simp only [Act.put, List.setIfInBounds_toArray, List.set_cons_succ, List.set_cons_zero])
        apply seq_op (V := .bool ((u1.kind == 3) && (u1.key.toList == a1.toList))) rfl
        · intro Φ hΦ; refine G_and _ _ _ rfl rfl rfl rfl ?_; exact hΦ
        (try simp only [Act.put, List.setIfInBounds_toArray, List.set_cons_succ, List.set_cons_zero])
        refine list_end ?_
        refine then_norm ?_
        refine wp_cond_split rfl (fun hc => ?_) (fun hc => ?_)
        · have hc2 := hc
          clear hc
          replace hq2 := ifT hc2 hq2
          refine wp_seq ?_
          refine wp_region_lit ?_
          apply seq_op (V := .pointer (some ⟨b_p0, o_p0, none⟩)) rfl
          · intro Φ hΦ; refine O_mv rfl rfl ?_; exact hΦ
          (try simp only [Act.put, List.setIfInBounds_toArray, List.set_cons_succ, List.set_cons_zero])
          apply seq_op (V := .pointer (some ⟨b_p0, o_p0, none⟩)) rfl
          · intro Φ hΦ; refine O_nil rfl rfl ?_; exact hΦ
          (try simp only [Act.put, List.setIfInBounds_toArray, List.set_cons_succ, List.set_cons_zero])
          apply seq_op (V := .pointer (some ⟨b_p0, o_p0, none⟩)) rfl
          · intro Φ hΦ; refine O_fld rfl Try.underlying61 rfl (Try.sizeOf28 _) rfl ?_; exact hΦ
          (try simp only [Act.put, List.setIfInBounds_toArray, List.set_cons_succ, List.set_cons_zero])
          apply seq_op (V := .slice (some ⟨be1, oe1, none⟩) a0.l.length c_p0_l) rfl
          · intro Φ hΦ; refine G_s1 _ _ rfl (Try.isAgg28 _) rfl H hC_p0 0 rfl rfl ?_; exact hΦ
          (try simp only [Act.put, List.setIfInBounds_toArray, List.set_cons_succ, List.set_cons_zero])
          apply seq_op (V := .int .i64 y2_6) rfl
          · intro Φ hΦ; refine O_mv rfl rfl ?_; exact hΦ
          (try simp only [Act.put, List.setIfInBounds_toArray, List.set_cons_succ, List.set_cons_zero])
          apply seq_op (V := .pointer (some ⟨be1, oe1 + kk1 * 6, none⟩)) rfl
          · intro Φ hΦ; refine O_ix rfl Try.underlying28 (Try.sizeOf35 _) rfl rfl gk1 gl1 ?_; exact hΦ
          (try simp only [Act.put, List.setIfInBounds_toArray, List.set_cons_succ, List.set_cons_zero])
          apply seq_op (V := .pointer (some ⟨be1, oe1 + kk1 * 6 + 2, none⟩)) rfl
          · intro Φ hΦ; refine O_fld rfl Try.underlying35 rfl (Try.sizeOf3 _) rfl ?_; exact hΦ
          (try simp only [Act.put, List.setIfInBounds_toArray, List.set_cons_succ, List.set_cons_zero])
          apply seq_op (V := .int .i64 u1.value) rfl
          · intro Φ hΦ; refine G_s1 _ _ rfl (Try.isAgg3 _) rfl H hCe1 2 rfl rfl ?_; exact hΦ
          (try simp only [Act.put, List.setIfInBounds_toArray, List.set_cons_succ, List.set_cons_zero])
          apply seq_op (V := .int .i64 u1.value) rfl
          · intro Φ hΦ; refine O_as rfl rfl ?_; exact hΦ
          (try simp only [Act.put, List.setIfInBounds_toArray, List.set_cons_succ, List.set_cons_zero])
          apply seq_op (V := .bool true) rfl
          · intro Φ hΦ; refine O_as rfl rfl ?_; exact hΦ
          (try simp only [Act.put, List.setIfInBounds_toArray, List.set_cons_succ, List.set_cons_zero])
          refine list_end ?_
          refine then_norm ?_
          refine wp_ret ?_
          refine block_ret ?_
          refine then_ret ?_
          refine then_ret ?_
          refine block_ret ?_
          refine then_ret ?_
          have hq2 := Option.some.inj hq2
          subst hq2
          (try dsimp only at hm)
          have hm := Option.some.inj hm
          subst hm
          exact ret2 rfl (rv_tmp rfl) (rv_tmp rfl) rfl ⟨rfl, H⟩
        · have hc2 := hc
          clear hc
          replace hq2 := ifF hc2 hq2
          refine wp_skip ?_
          refine block_norm ?_
          refine then_norm ?_
          refine wp_region_lit ?_
          apply seq_op (V := .int .i64 y2_6) rfl
          · intro Φ hΦ; refine O_mv rfl rfl ?_; exact hΦ
          (try simp only [Act.put, List.setIfInBounds_toArray, List.set_cons_succ, List.set_cons_zero])
          apply seq_op (V := .int .i64 (IntKind.i64.wrap (y2_6 - 1))) rfl
          · intro Φ hΦ; refine O_bin rfl rfl rfl eqg_int r_sub ?_; exact hΦ
          (try simp only [Act.put, List.setIfInBounds_toArray, List.set_cons_succ, List.set_cons_zero])
          apply seq_op (V := .int .i64 (IntKind.i64.wrap (y2_6 - 1))) rfl
          · intro Φ hΦ; refine O_as rfl rfl ?_; exact hΦ
          (try simp only [Act.put, List.setIfInBounds_toArray, List.set_cons_succ, List.set_cons_zero])
          refine list_end ?_
          refine then_norm ?_
          exact ⟨⟨⟨rfl, rfl, rfl, rfl, rfl, rfl, rfl, rfl, rfl, rfl, rfl⟩, rfl⟩, r2, Nat.lt_succ_self _, ⟨(IntKind.i64.wrap (y2_6 - 1)), rfl, (i64_i _), hq2, H⟩⟩
      · have hc1 := hc
        clear hc
        replace hq2 := ifF hc1 hq2
        refine wp_exit ?_
        refine then_exit ?_
        refine then_exit ?_
        have hq2 := Option.some.inj hq2
        subst hq2
        (try dsimp only at hm)
        refine block_exit ?_
        refine then_norm ?_
        refine wp_seq ?_
        refine wp_region_lit ?_
        apply seq_op (V := .int .i64 0) rfl
        · intro Φ hΦ; refine O_as rfl rfl ?_; exact hΦ
        (try simp only [Act.put, List.setIfInBounds_toArray, List.set_cons_succ, List.set_cons_zero])
        apply seq_op (V := .bool false) rfl
        · intro Φ hΦ; refine O_as rfl rfl ?_; exact hΦ
        (try simp only [Act.put, List.setIfInBounds_toArray, List.set_cons_succ, List.set_cons_zero])
        refine list_end ?_
        refine then_norm ?_
        refine wp_ret ?_
        have hm := Option.some.inj hm
        subst hm
        exact ret2 rfl (rv_tmp rfl) (rv_tmp rfl) rfl ⟨rfl, H⟩
def assayerref16_State_right_f (fuel : Nat) (a0 : St16) (a1 : Op') : Option Bool := if (!a1.has) = true then (some true) else (if (a1.kind == 2) = true then ((assayerref16_State_List_f a0 a1.key).bind fun u1 => (assayerref02_SameList_f a1.list u1).bind fun u2 => some u2) else (if (a1.kind == 4) = true then ((assayerref16_State_Value_f fuel a0 a1.key).bind fun u3 => some ((!(u3.2 == a1.isNil)) && (a1.isNil || (u3.1 == a1.value)))) else (some true)))

set_option maxHeartbeats 4000000 in
theorem assayerref16_State_right_w {E : World} {s : SH} {L : List HP} {w : World} {fuel : Nat} {a0 : St16} {a1 : Op'} {A_p0_l : Option Addr} {c_p0_l : Nat} (h_p0_l : kOp.Sl s (.slice A_p0_l a0.l.length c_p0_l) a0.l) {b_p0 o_p0 : Nat} (hC_p0 : Cells s ⟨b_p0, o_p0, none⟩ [.slice A_p0_l a0.l.length c_p0_l]) {A_p1_list : Option Addr} {c_p1_list : Nat} (h_p1_list : kI.Sl s (.slice A_p1_list a1.list.length c_p1_list) a1.list) {R : Bool} (hm : assayerref16_State_right_f fuel a0 a1 = some R) (H : Holds E s (L) w) :
    Calls Try.prog 71 #[.pointer (some ⟨b_p0, o_p0, none⟩), .agg #[.int .i64 a1.kind, .string a1.key, .int .i64 a1.value, .slice A_p1_list a1.list.length c_p1_list, .bool a1.has, .bool a1.isNil]] w fun e w' => e = .returned (.bool R) ∧ Holds E s (L) w' := by
  unfold assayerref16_State_right_f at hm
  go_enter Try.func71, Try.ntmps71
  refine wp_seq ?_
  refine wp_region_lit ?_
  refine OpG.list rfl ?_; refine B_x 35 _ rfl (v := .agg #[.int .i64 a1.kind, .string a1.key, .int .i64 a1.value, .slice A_p1_list a1.list.length c_p1_list, .bool a1.has, .bool a1.isNil]) rfl H ?_; clear H; intro b3 w1 H; (try simp only [Value.cells] at H)
  (try simp only [Act.put, List.setIfInBounds_toArray, List.set_cons_succ, List.set_cons_zero])
  apply seq_op (V := .bool false) rfl
  · intro Φ hΦ; refine O_as rfl rfl ?_; exact hΦ
  (try simp only [Act.put, List.setIfInBounds_toArray, List.set_cons_succ, List.set_cons_zero])
  refine list_end ?_
  refine then_norm ?_
  refine wp_seq ?_
  refine wp_block ?_
  refine wp_seq ?_
  refine wp_region_lit ?_
  apply seq_op (V := .pointer (some ⟨b3, 4, none⟩)) rfl
  · intro Φ hΦ; refine O_fld rfl Try.underlying35 rfl (Try.sizeOf4 _) rfl ?_; exact hΦ
  (try simp only [Act.put, List.setIfInBounds_toArray, List.set_cons_succ, List.set_cons_zero])
  apply seq_op (V := .bool a1.has) rfl
  · intro Φ hΦ; refine L_1 0 _ _ rfl (Try.isAgg4 _) rfl H rfl rfl ?_; exact hΦ
  (try simp only [Act.put, List.setIfInBounds_toArray, List.set_cons_succ, List.set_cons_zero])
  apply seq_op (V := .bool (!a1.has)) rfl
  · intro Φ hΦ; refine O_not rfl rfl ?_; exact hΦ
  (try simp only [Act.put, List.setIfInBounds_toArray, List.set_cons_succ, List.set_cons_zero])
  apply seq_op (V := .bool (!a1.has)) rfl
  · intro Φ hΦ; refine O_as rfl rfl ?_; exact hΦ
  (try simp only [Act.put, List.setIfInBounds_toArray, List.set_cons_succ, List.set_cons_zero])
  refine list_end ?_
  refine then_norm ?_
  refine wp_cond_split rfl (fun hc => ?_) (fun hc => ?_)
  · have hc1 := hc
    clear hc
    replace hm := ifT hc1 hm
    refine wp_skip ?_
    refine block_norm ?_
    refine then_norm ?_
    refine wp_seq ?_
    refine wp_region_lit ?_
    apply seq_op (V := .bool true) rfl
    · intro Φ hΦ; refine O_as rfl rfl ?_; exact hΦ
    (try simp only [Act.put, List.setIfInBounds_toArray, List.set_cons_succ, List.set_cons_zero])
    refine list_end ?_
    refine then_norm ?_
    refine wp_ret ?_
    have hm := Option.some.inj hm
    subst hm
    replace H := H.dropAt 0 rfl; simp only [List.eraseIdx_cons_succ, List.eraseIdx_cons_zero] at H
    exact ret1 rfl (rv_tmp rfl) rfl ⟨rfl, H⟩
  · have hc1 := hc
    clear hc
    replace hm := ifF hc1 hm
    refine wp_seq ?_
    refine wp_region_lit ?_
    apply seq_op (V := .pointer (some ⟨b3, 0, none⟩)) rfl
    · intro Φ hΦ; refine O_fld rfl Try.underlying35 rfl (Try.sizeOf3 _) rfl ?_; exact hΦ
    (try simp only [Act.put, List.setIfInBounds_toArray, List.set_cons_succ, List.set_cons_zero])
    apply seq_op (V := .int .i64 a1.kind) rfl
    · intro Φ hΦ; refine L_1 0 _ _ rfl (Try.isAgg3 _) rfl H rfl rfl ?_; exact hΦ
    (try simp only [Act.put, List.setIfInBounds_toArray, List.set_cons_succ, List.set_cons_zero])
    apply seq_op (V := .bool (a1.kind == 2)) rfl
    · intro Φ hΦ; refine O_bin rfl rfl rfl eqg_int r_eql ?_; exact hΦ
    (try simp only [Act.put, List.setIfInBounds_toArray, List.set_cons_succ, List.set_cons_zero])
    apply seq_op (V := .bool (a1.kind == 2)) rfl
    · intro Φ hΦ; refine O_as rfl rfl ?_; exact hΦ
    (try simp only [Act.put, List.setIfInBounds_toArray, List.set_cons_succ, List.set_cons_zero])
    refine list_end ?_
    refine then_norm ?_
    refine wp_cond_split rfl (fun hc => ?_) (fun hc => ?_)
    · have hc2 := hc
      clear hc
      replace hm := ifT hc2 hm
      refine wp_seq ?_
      obtain ⟨u1, gx1, hm⟩ := bs hm
      obtain ⟨u2, gx2, hm⟩ := bs hm
      refine wp_draw_C (k := 7) (sz := 47) [5, 6] [.pointer (some ⟨b3, 3, none⟩), .slice A_p1_list a1.list.length c_p1_list, .pointer (some ⟨b_p0, o_p0, none⟩), .pointer (some ⟨b3, 1, none⟩), .string a1.key, undef, undef] [pt b3 (.cells #[.int .i64 a1.kind, .string a1.key, .int .i64 a1.value, .slice A_p1_list a1.list.length c_p1_list, .bool a1.has, .bool a1.isNil] 35 (0, 0))] [fun w x => ∃ (sc : SH) (Ar10 : Option Addr) (cr10 : Nat), Sub s sc ∧ kI.Sl sc (.slice Ar10 u1.length cr10) u1 ∧ x 5 = .slice Ar10 u1.length cr10 ∧ Holds E sc (pt b3 (.cells #[.int .i64 a1.kind, .string a1.key, .int .i64 a1.value, .slice A_p1_list a1.list.length c_p1_list, .bool a1.has, .bool a1.isNil] 35 (0, 0)) :: L) w, fun w x => ∃ (sc : SH) (Ar10 : Option Addr) (cr10 : Nat), Sub s sc ∧ kI.Sl sc (.slice Ar10 u1.length cr10) u1 ∧ x 5 = .slice Ar10 u1.length cr10 ∧ x 6 = .bool u2 ∧ Holds E sc (pt b3 (.cells #[.int .i64 a1.kind, .string a1.key, .int .i64 a1.value, .slice A_p1_list a1.list.length c_p1_list, .bool a1.has, .bool a1.isNil] 35 (0, 0)) :: L) w] mixed (by simp) rfl (by kernel_rfl) (by kernel_rfl) (by kernel_rfl) (by simp) rfl H (by simp only [List.take_succ_cons, List.take_zero]; exact rfl) (by simp only [List.drop_succ_cons, List.drop_zero]; exact rfl)
        (fun x => by simp only [ov, Act.put, List.setIfInBounds_toArray, List.set_cons_succ, List.set_cons_zero, Nat.zero_add, Nat.reduceAdd]; exact rfl) ?_ ?_ ?_ ?_
      · refine ⟨?_, ?_, ?_, trivial⟩
        · intro w x hS; have H : Holds E s (pt b3 (.cells #[.int .i64 a1.kind, .string a1.key, .int .i64 a1.value, .slice A_p1_list a1.list.length c_p1_list, .bool a1.has, .bool a1.isNil] 35 (0, 0)) :: L) w := hS; exact ⟨_, _, Sub.refl _, H⟩
        · intro w x hS; obtain ⟨sc, Ar10, cr10, hsc, hf1, e5, H⟩ := hS; exact ⟨_, _, hsc, H⟩
        · intro w x hS; obtain ⟨sc, Ar10, cr10, hsc, hf1, e5, e6, H⟩ := hS; exact ⟨_, _, hsc, H⟩
      · refine ⟨?_, ?_, ?_, ?_, ?_, ?_, ?_, trivial⟩
        · refine .inr ?_; intro s' R w' x Φ hs H hx hΦ; refine wantG rfl ?_; refine O_fld rfl Try.underlying35 rfl (Try.sizeOf33 _) rfl ?_; exact hΦ
        · refine .inr ?_; intro s' R w' x Φ hs H hx hΦ; have e0 : x 0 = .pointer (some ⟨b3, 3, none⟩) := hx 0 (by decide) (by decide); simp only [e0]; refine wantG rfl ?_; refine L_1 0 _ _ rfl (Try.isAgg33 _) rfl H rfl rfl ?_; exact hΦ
        · refine .inr ?_; intro s' R w' x Φ hs H hx hΦ; refine wantG rfl ?_; refine O_mv rfl rfl ?_; exact hΦ
        · refine .inr ?_; intro s' R w' x Φ hs H hx hΦ; refine wantG rfl ?_; refine O_fld rfl Try.underlying35 rfl (Try.sizeOf9 _) rfl ?_; exact hΦ
        · refine .inr ?_; intro s' R w' x Φ hs H hx hΦ; have e3 : x 3 = .pointer (some ⟨b3, 1, none⟩) := hx 3 (by decide) (by decide); simp only [e3]; refine wantG rfl ?_; refine L_1 0 _ _ rfl (Try.isAgg9 _) rfl H rfl rfl ?_; exact hΦ
        · exact .inl (by decide)
        · exact .inl (by decide)
      · refine ⟨?_, ?_, trivial⟩
        · intro o ho; obtain rfl := Option.some.inj ho; intro w' x Φ hS hx hΦ
          have H : Holds E s (pt b3 (.cells #[.int .i64 a1.kind, .string a1.key, .int .i64 a1.value, .slice A_p1_list a1.list.length c_p1_list, .bool a1.has, .bool a1.isNil] 35 (0, 0)) :: L) w' := hS; clear hS
          have hsc := Sub.refl s
          have e2 : x 2 = .pointer (some ⟨b_p0, o_p0, none⟩) := hx 2 (by decide) (by decide)
          have e4 : x 4 = .string a1.key := hx 4 (by decide) (by decide)
          simp only [e2, e4]
          refine wantG rfl ?_
          refine O_call2 rfl Try.func43 rfl rfl rfl rfl ?_; refine (assayerref16_State_List_w (a0 := a0) (hC_p0 := hC_p0) (h_p0_l := h_p0_l) (a1 := a1.key) (hm := gx1) (H := H)).mono ?_
          clear H
          rintro e w1 ⟨Ar10, cr10, rfl, H⟩; refine ⟨_, rfl, ?_⟩
          skip
          obtain ⟨s1, hs', H, hf1⟩ := Kin.Osl.fr H; replace hf1 := hf1.unsh hs'
          replace h_p0_l := h_p0_l.mono hs'
          replace hC_p0 := hC_p0.mono hs'
          replace h_p1_list := h_p1_list.mono hs'
          replace hsc := hsc.trans hs'
          exact hΦ _ _ ⟨s1, Ar10, cr10, hsc, hf1, updV_same, H⟩
        · intro o ho; obtain rfl := Option.some.inj ho; intro w' x Φ hS hx hΦ
          obtain ⟨sc, Ar10, cr10, hsc, hf1, e5, H⟩ := hS
          replace h_p0_l := h_p0_l.mono hsc
          replace hC_p0 := hC_p0.mono hsc
          replace h_p1_list := h_p1_list.mono hsc
          have e1 : x 1 = .slice A_p1_list a1.list.length c_p1_list := hx 1 (by decide) (by decide)
          simp only [e1, e5]
          refine wantG rfl ?_
          refine O_call2 rfl Try.func96 rfl rfl rfl rfl ?_; refine (assayerref02_SameList_w (a0 := a1.list) (h_p0 := h_p1_list) (a1 := u1) (h_p1 := hf1) (hm := gx2) (H := H)).mono ?_
          clear H
          rintro e w1 ⟨rfl, H⟩; refine ⟨_, rfl, ?_⟩
          exact hΦ _ _ ⟨sc, Ar10, cr10, hsc, hf1, (updV_ne (by decide)).trans e5, updV_same, H⟩
      · clear H
        intro w' x hS hx
        obtain ⟨sc, Ar10, cr10, hsc, hf1, e5, e6, H⟩ := hS
        replace h_p0_l := h_p0_l.mono hsc
        replace hC_p0 := hC_p0.mono hsc
        replace h_p1_list := h_p1_list.mono hsc
        have hS := hsc
        have e0 : x 0 = .pointer (some ⟨b3, 3, none⟩) := hx 0 (by decide) (by decide)
        have e1 : x 1 = .slice A_p1_list a1.list.length c_p1_list := hx 1 (by decide) (by decide)
        have e2 : x 2 = .pointer (some ⟨b_p0, o_p0, none⟩) := hx 2 (by decide) (by decide)
        have e3 : x 3 = .pointer (some ⟨b3, 1, none⟩) := hx 3 (by decide) (by decide)
        have e4 : x 4 = .string a1.key := hx 4 (by decide) (by decide)
        simp only [e0, e1, e2, e3, e4, e5, e6]
        clear hx
        apply seq_op (V := .bool u2) rfl
        · intro Φ hΦ; refine O_as rfl rfl ?_; exact hΦ
        (try simp only [Act.put, List.setIfInBounds_toArray, List.set_cons_succ, List.set_cons_zero])
        refine list_end ?_
        refine then_norm ?_
        refine wp_ret ?_
        refine block_ret ?_
        refine then_ret ?_
        have hm := Option.some.inj hm
        subst hm
        replace H := H.dropAt 0 rfl; simp only [List.eraseIdx_cons_succ, List.eraseIdx_cons_zero] at H
        replace H := H.forget hS
        exact ret1 rfl (rv_tmp rfl) rfl ⟨rfl, H⟩
    · have hc2 := hc
      clear hc
      replace hm := ifF hc2 hm
      refine wp_seq ?_
      refine wp_region_lit ?_
      apply seq_op (V := .pointer (some ⟨b3, 0, none⟩)) rfl
      · intro Φ hΦ; refine O_fld rfl Try.underlying35 rfl (Try.sizeOf3 _) rfl ?_; exact hΦ
      (try simp only [Act.put, List.setIfInBounds_toArray, List.set_cons_succ, List.set_cons_zero])
      apply seq_op (V := .int .i64 a1.kind) rfl
      · intro Φ hΦ; refine L_1 0 _ _ rfl (Try.isAgg3 _) rfl H rfl rfl ?_; exact hΦ
      (try simp only [Act.put, List.setIfInBounds_toArray, List.set_cons_succ, List.set_cons_zero])
      apply seq_op (V := .bool (a1.kind == 4)) rfl
      · intro Φ hΦ; refine O_bin rfl rfl rfl eqg_int r_eql ?_; exact hΦ
      (try simp only [Act.put, List.setIfInBounds_toArray, List.set_cons_succ, List.set_cons_zero])
      apply seq_op (V := .bool (a1.kind == 4)) rfl
      · intro Φ hΦ; refine O_as rfl rfl ?_; exact hΦ
      (try simp only [Act.put, List.setIfInBounds_toArray, List.set_cons_succ, List.set_cons_zero])
      refine list_end ?_
      refine then_norm ?_
      refine wp_cond_split rfl (fun hc => ?_) (fun hc => ?_)
      · have hc3 := hc
        clear hc
        replace hm := ifT hc3 hm
        refine wp_seq ?_
        obtain ⟨u3, gx3, hm⟩ := bs hm
        refine wp_region_lit ?_
        apply seq_op (V := .pointer (some ⟨b_p0, o_p0, none⟩)) rfl
        · intro Φ hΦ; refine O_mv rfl rfl ?_; exact hΦ
        (try simp only [Act.put, List.setIfInBounds_toArray, List.set_cons_succ, List.set_cons_zero])
        apply seq_op (V := .pointer (some ⟨b3, 1, none⟩)) rfl
        · intro Φ hΦ; refine O_fld rfl Try.underlying35 rfl (Try.sizeOf9 _) rfl ?_; exact hΦ
        (try simp only [Act.put, List.setIfInBounds_toArray, List.set_cons_succ, List.set_cons_zero])
        apply seq_op (V := .string a1.key) rfl
        · intro Φ hΦ; refine L_1 0 _ _ rfl (Try.isAgg9 _) rfl H rfl rfl ?_; exact hΦ
        (try simp only [Act.put, List.setIfInBounds_toArray, List.set_cons_succ, List.set_cons_zero])
        refine seq_call rfl (fun Φ hΦ => by refine O_call2 rfl Try.func41 rfl rfl rfl rfl hΦ) (assayerref16_State_Value_w (fuel := fuel) (a0 := a0) (hC_p0 := hC_p0) (h_p0_l := h_p0_l) (a1 := a1.key) (hm := gx3) (H := H)) ?_
        clear H
        rintro e w1 ⟨rfl, H⟩; refine ⟨_, rfl, ?_⟩
        (try simp only [Act.put, List.setIfInBounds_toArray, List.set_cons_succ, List.set_cons_zero])
        apply seq_op (V := .tuple #[.int .i64 u3.1, .bool u3.2]) rfl
        · intro Φ hΦ; refine O_mv rfl rfl ?_; exact hΦ
        (try simp only [Act.put, List.setIfInBounds_toArray, List.set_cons_succ, List.set_cons_zero])
        apply seq_op (V := .int .i64 u3.1) rfl
        · intro Φ hΦ; refine O_ext rfl rfl rfl ?_; exact hΦ
        (try simp only [Act.put, List.setIfInBounds_toArray, List.set_cons_succ, List.set_cons_zero])
        apply seq_op (V := .bool u3.2) rfl
        · intro Φ hΦ; refine O_ext rfl rfl rfl ?_; exact hΦ
        (try simp only [Act.put, List.setIfInBounds_toArray, List.set_cons_succ, List.set_cons_zero])
        apply seq_op (V := .int .i64 u3.1) rfl
        · intro Φ hΦ; refine O_as rfl rfl ?_; exact hΦ
        (try simp only [Act.put, List.setIfInBounds_toArray, List.set_cons_succ, List.set_cons_zero])
        apply seq_op (V := .bool u3.2) rfl
        · intro Φ hΦ; refine O_as rfl rfl ?_; exact hΦ
        (try simp only [Act.put, List.setIfInBounds_toArray, List.set_cons_succ, List.set_cons_zero])
        refine list_end ?_
        refine then_norm ?_
        refine wp_seq ?_
        refine wp_region_lit ?_
        apply seq_op (V := .bool u3.2) rfl
        · intro Φ hΦ; refine O_mv rfl rfl ?_; exact hΦ
        (try simp only [Act.put, List.setIfInBounds_toArray, List.set_cons_succ, List.set_cons_zero])
        apply seq_op (V := .pointer (some ⟨b3, 5, none⟩)) rfl
        · intro Φ hΦ; refine O_fld rfl Try.underlying35 rfl (Try.sizeOf4 _) rfl ?_; exact hΦ
        (try simp only [Act.put, List.setIfInBounds_toArray, List.set_cons_succ, List.set_cons_zero])
        apply seq_op (V := .bool a1.isNil) rfl
        · intro Φ hΦ; refine L_1 0 _ _ rfl (Try.isAgg4 _) rfl H rfl rfl ?_; exact hΦ
        (try simp only [Act.put, List.setIfInBounds_toArray, List.set_cons_succ, List.set_cons_zero])
        apply seq_op (V := .bool (!(u3.2 == a1.isNil))) rfl
        · intro Φ hΦ; refine O_bin rfl rfl rfl eqg_bool (r_bne Try.underlying4) ?_; exact hΦ
        (try simp only [Act.put, List.setIfInBounds_toArray, List.set_cons_succ, List.set_cons_zero])
        apply seq_op (V := .bool (!(u3.2 == a1.isNil))) rfl
        · intro Φ hΦ; refine O_mv rfl rfl ?_; exact hΦ
        (try simp only [Act.put, List.setIfInBounds_toArray, List.set_cons_succ, List.set_cons_zero])
        refine seq_opg (c := (!(u3.2 == a1.isNil))) (V := .pointer (some ⟨b3, 5, none⟩)) (by first | exact wanted_t rfl rfl rfl | exact wanted_vt rfl rfl rfl) ?_ ?_
        · intro hc Φ hΦ; refine O_fld rfl Try.underlying35 rfl (Try.sizeOf4 _) rfl ?_; exact hΦ
        (try simp only [Act.put, List.setIfInBounds_toArray, List.set_cons_succ, List.set_cons_zero])
        refine seq_opg (c := (!(u3.2 == a1.isNil))) (V := .bool a1.isNil) (by first | exact wanted_t rfl rfl rfl | exact wanted_vt rfl rfl rfl) ?_ ?_
        · intro hc Φ hΦ; (repeat (first | rw [vg_of hc] | rw [vg_of (and_l hc)] | rw [vg_of (and_l (and_l hc))] | rw [vg_of (and_l (and_l (and_l hc)))] | rw [vg_and hc])); refine L_1 0 _ _ rfl (Try.isAgg4 _) rfl H rfl rfl ?_; exact hΦ
        (try simp only [Act.put, List.setIfInBounds_toArray, List.set_cons_succ, List.set_cons_zero])
        refine seq_opg (c := (!(u3.2 == a1.isNil))) (V := .bool a1.isNil) (by first | exact wanted_t rfl rfl rfl | exact wanted_vt rfl rfl rfl) ?_ ?_
        · intro hc Φ hΦ; (repeat (first | rw [vg_of hc] | rw [vg_of (and_l hc)] | rw [vg_of (and_l (and_l hc))] | rw [vg_of (and_l (and_l (and_l hc)))] | rw [vg_and hc])); refine O_mv rfl rfl ?_; exact hΦ
        (try simp only [Act.put, List.setIfInBounds_toArray, List.set_cons_succ, List.set_cons_zero])
        refine seq_opg (c := ((!(u3.2 == a1.isNil)) && !a1.isNil)) (V := .int .i64 u3.1) (by first | exact wanted_f rfl rfl rfl | exact wanted_vf rfl rfl rfl) ?_ ?_
        · intro hc Φ hΦ; refine O_mv rfl rfl ?_; exact hΦ
        (try simp only [Act.put, List.setIfInBounds_toArray, List.set_cons_succ, List.set_cons_zero])
        refine seq_opg (c := ((!(u3.2 == a1.isNil)) && !a1.isNil)) (V := .pointer (some ⟨b3, 2, none⟩)) (by first | exact wanted_f rfl rfl rfl | exact wanted_vf rfl rfl rfl) ?_ ?_
        · intro hc Φ hΦ; refine O_fld rfl Try.underlying35 rfl (Try.sizeOf3 _) rfl ?_; exact hΦ
        (try simp only [Act.put, List.setIfInBounds_toArray, List.set_cons_succ, List.set_cons_zero])
        refine seq_opg (c := ((!(u3.2 == a1.isNil)) && !a1.isNil)) (V := .int .i64 a1.value) (by first | exact wanted_f rfl rfl rfl | exact wanted_vf rfl rfl rfl) ?_ ?_
        · intro hc Φ hΦ; (repeat (first | rw [vg_of hc] | rw [vg_of (and_l hc)] | rw [vg_of (and_l (and_l hc))] | rw [vg_of (and_l (and_l (and_l hc)))] | rw [vg_and hc])); refine L_1 0 _ _ rfl (Try.isAgg3 _) rfl H rfl rfl ?_; exact hΦ
        (try simp only [Act.put, List.setIfInBounds_toArray, List.set_cons_succ, List.set_cons_zero])
        refine seq_opg (c := ((!(u3.2 == a1.isNil)) && !a1.isNil)) (V := .bool (u3.1 == a1.value)) (by first | exact wanted_f rfl rfl rfl | exact wanted_vf rfl rfl rfl) ?_ ?_
        · intro hc Φ hΦ; (repeat (first | rw [vg_of hc] | rw [vg_of (and_l hc)] | rw [vg_of (and_l (and_l hc))] | rw [vg_of (and_l (and_l (and_l hc)))] | rw [vg_and hc])); refine O_bin rfl rfl rfl eqg_int r_eql ?_; exact hΦ
        (try simp only [Act.put, List.setIfInBounds_toArray, List.set_cons_succ, List.set_cons_zero])
        refine seq_opg (c := (!(u3.2 == a1.isNil))) (V := .bool (a1.isNil || (u3.1 == a1.value))) (by first | exact wanted_t rfl rfl rfl | exact wanted_vt rfl rfl rfl) ?_ ?_
        · intro hc Φ hΦ; (repeat (first | rw [vg_of hc] | rw [vg_of (and_l hc)] | rw [vg_of (and_l (and_l hc))] | rw [vg_of (and_l (and_l (and_l hc)))] | rw [vg_and hc])); refine G_or _ _ _ rfl rfl rfl rfl ?_; exact hΦ
        (try simp only [Act.put, List.setIfInBounds_toArray, List.set_cons_succ, List.set_cons_zero])
        apply seq_op (V := .bool ((!(u3.2 == a1.isNil)) && (a1.isNil || (u3.1 == a1.value)))) rfl
        · intro Φ hΦ; refine G_and _ _ _ rfl rfl rfl rfl ?_; exact hΦ
        (try simp only [Act.put, List.setIfInBounds_toArray, List.set_cons_succ, List.set_cons_zero])
        apply seq_op (V := .bool ((!(u3.2 == a1.isNil)) && (a1.isNil || (u3.1 == a1.value)))) rfl
        · intro Φ hΦ; refine O_as rfl rfl ?_; exact hΦ
        (try simp only [Act.put, List.setIfInBounds_toArray, List.set_cons_succ, List.set_cons_zero])
        refine list_end ?_
        refine then_norm ?_
        refine wp_ret ?_
        refine block_ret ?_
        refine then_ret ?_
        have hm := Option.some.inj hm
        subst hm
        replace H := H.dropAt 0 rfl; simp only [List.eraseIdx_cons_succ, List.eraseIdx_cons_zero] at H
        exact ret1 rfl (rv_tmp rfl) rfl ⟨rfl, H⟩
      · have hc3 := hc
        clear hc
        replace hm := ifF hc3 hm
        refine wp_skip ?_
        refine block_norm ?_
        refine then_norm ?_
        refine wp_seq ?_
        refine wp_region_lit ?_
        apply seq_op (V := .bool true) rfl
        · intro Φ hΦ; refine O_as rfl rfl ?_; exact hΦ
        (try simp only [Act.put, List.setIfInBounds_toArray, List.set_cons_succ, List.set_cons_zero])
        refine list_end ?_
        refine then_norm ?_
        refine wp_ret ?_
        have hm := Option.some.inj hm
        subst hm
        replace H := H.dropAt 0 rfl; simp only [List.eraseIdx_cons_succ, List.eraseIdx_cons_zero] at H
        exact ret1 rfl (rv_tmp rfl) rfl ⟨rfl, H⟩
def assayerref16_State_Apply_l3 (fuel : Nat) (a2 : Bool) (a0 : St16) : Nat → List Op' → (List Op') → Option (((Bool × St16) ⊕ ((List Op'))))
  | k3, [] , y3_c0_0 => some (.inr y3_c0_0)
  | k3, x3 :: r3, y3_c0_0 => if (!a2) = true then ((assayerref16_State_right_f fuel (⟨y3_c0_0⟩ : St16) x3).bind fun u2 => if (!u2) = true then (some (.inl (false, a0))) else (if ((x3.kind == 1) || (x3.kind == 3)) = true then ((app 64 y3_c0_0 x3).bind fun u3 => assayerref16_State_Apply_l3 fuel a2 a0 (k3 + 1) r3 u3) else (assayerref16_State_Apply_l3 fuel a2 a0 (k3 + 1) r3 y3_c0_0))) else (if ((x3.kind == 1) || (x3.kind == 3)) = true then ((app 64 y3_c0_0 x3).bind fun u2 => assayerref16_State_Apply_l3 fuel a2 a0 (k3 + 1) r3 u2) else (assayerref16_State_Apply_l3 fuel a2 a0 (k3 + 1) r3 y3_c0_0))

def assayerref16_State_Apply_f (fuel : Nat) (a0 : St16) (a1 : List Op') (a2 : Bool) : Option (Bool × St16) := (appL 64 [] a0.l).bind fun u1 => (assayerref16_State_Apply_l3 fuel a2 a0 0 a1 u1).bind fun | .inl z3_r => (some z3_r) | .inr z3_c0_0 => (some (true, (⟨z3_c0_0⟩ : St16)))

set_option maxHeartbeats 4000000 in
theorem assayerref16_State_Apply_w {E : World} {s : SH} {L : List HP} {w : World} {fuel : Nat} {a0 : St16} {a1 : List Op'} {a2 : Bool} {b_p0 : Nat} {A_p0_l : Option Addr} {c_p0_l : Nat} {A_p1 : Option Addr} {c_p1 : Nat} (h_p1 : kOp.Sl s (.slice A_p1 a1.length c_p1) a1) {R : Bool × St16} (hm : assayerref16_State_Apply_f fuel a0 a1 a2 = some R) (H : Holds E s (pt b_p0 (.cells #[.slice A_p0_l a0.l.length c_p0_l] 61 (0, 0)) :: (kOp.sh s).Osl (.slice A_p0_l a0.l.length c_p0_l) a0.l :: L) w) :
    Calls Try.prog 38 #[.pointer (some ⟨b_p0, 0, none⟩), .slice A_p1 a1.length c_p1, .bool a2] w fun e w' => ∃ Ao0_l co0_l, e = .returned (.bool R.1) ∧ Holds E s (pt b_p0 (.cells #[.slice Ao0_l R.2.l.length co0_l] 61 (0, 0)) :: (kOp.sh s).Osl (.slice Ao0_l R.2.l.length co0_l) R.2.l :: L) w' := by
  unfold assayerref16_State_Apply_f at hm
  go_enter Try.func38, Try.ntmps38
  refine wp_seq ?_
  refine wp_region_lit ?_
  apply seq_op (V := .bool false) rfl
  · intro Φ hΦ; refine O_as rfl rfl ?_; exact hΦ
  (try simp only [Act.put, List.setIfInBounds_toArray, List.set_cons_succ, List.set_cons_zero])
  refine list_end ?_
  refine then_norm ?_
  refine wp_seq ?_
  obtain ⟨u1, gx1, hm⟩ := bs hm
  obtain ⟨hroomgx1, egx1⟩ := appL_some gx1
  refine wp_region_lit ?_
  refine OpG.list rfl ?_; refine G_slice0 (d := kOp.sh s) rfl Try.underlying28 Try.sizeOf35 H ?_; clear H; intro v1 w1 H; obtain ⟨Av1, cv1, rfl, -⟩ := H.len
  (try simp only [Act.put, List.setIfInBounds_toArray, List.set_cons_succ, List.set_cons_zero])
  apply seq_op (V := .pointer (some ⟨b_p0, 0, none⟩)) rfl
  · intro Φ hΦ; refine O_mv rfl rfl ?_; exact hΦ
  (try simp only [Act.put, List.setIfInBounds_toArray, List.set_cons_succ, List.set_cons_zero])
  apply seq_op (V := .pointer (some ⟨b_p0, 0, none⟩)) rfl
  · intro Φ hΦ; refine O_nil rfl rfl ?_; exact hΦ
  (try simp only [Act.put, List.setIfInBounds_toArray, List.set_cons_succ, List.set_cons_zero])
  apply seq_op (V := .pointer (some ⟨b_p0, 0, none⟩)) rfl
  · intro Φ hΦ; refine O_fld rfl Try.underlying61 rfl (Try.sizeOf28 _) rfl ?_; exact hΦ
  (try simp only [Act.put, List.setIfInBounds_toArray, List.set_cons_succ, List.set_cons_zero])
  apply seq_op (V := .slice A_p0_l a0.l.length c_p0_l) rfl
  · intro Φ hΦ; refine L_1 1 _ _ rfl (Try.isAgg28 _) rfl H rfl rfl ?_; exact hΦ
  (try simp only [Act.put, List.setIfInBounds_toArray, List.set_cons_succ, List.set_cons_zero])
  replace H := H.front 2 rfl; simp only [List.eraseIdx_cons_succ, List.eraseIdx_cons_zero] at H
  replace H := H.front 1 rfl; simp only [List.eraseIdx_cons_succ, List.eraseIdx_cons_zero] at H
  refine OpG.list rfl ?_; refine G_appendO kOp_at _ _ rfl H rfl rfl hroomgx1 ?_; clear H; intro v2 w1 H; rw [← egx1] at H; obtain ⟨Av2, cv2, rfl, -⟩ := H.len
  (try simp only [Act.put, List.setIfInBounds_toArray, List.set_cons_succ, List.set_cons_zero])
  apply seq_op (V := .agg #[.slice Av2 u1.length cv2]) rfl
  · intro Φ hΦ; refine O_bld (cs := [.slice Av2 u1.length cv2]) rfl (by kernel_rfl) ?_; exact hΦ
  (try simp only [Act.put, List.setIfInBounds_toArray, List.set_cons_succ, List.set_cons_zero])
  refine OpG.list rfl ?_; refine B_x 61 _ rfl (v := .agg #[.slice Av2 u1.length cv2]) rfl H ?_; clear H; intro b17 w1 H; (try simp only [Value.cells] at H)
  (try simp only [Act.put, List.setIfInBounds_toArray, List.set_cons_succ, List.set_cons_zero])
  apply seq_op (V := .pointer (some ⟨b17, 0, none⟩)) rfl
  · intro Φ hΦ; refine O_as rfl rfl ?_; exact hΦ
  (try simp only [Act.put, List.setIfInBounds_toArray, List.set_cons_succ, List.set_cons_zero])
  refine list_end ?_
  refine then_norm ?_
  refine wp_seq ?_
  refine wp_seq ?_
  refine wp_region_lit ?_
  apply seq_op (V := .slice A_p1 a1.length c_p1) rfl
  · intro Φ hΦ; refine O_mv rfl rfl ?_; exact hΦ
  (try simp only [Act.put, List.setIfInBounds_toArray, List.set_cons_succ, List.set_cons_zero])
  apply seq_op (V := .int .i64 (a1.length : Int)) rfl
  · intro Φ hΦ; refine O_len rfl Try.underlying28 rfl ?_; exact hΦ
  (try simp only [Act.put, List.setIfInBounds_toArray, List.set_cons_succ, List.set_cons_zero])
  apply seq_op (V := .int .i64 0) rfl
  · intro Φ hΦ; refine O_mv rfl rfl ?_; exact hΦ
  (try simp only [Act.put, List.setIfInBounds_toArray, List.set_cons_succ, List.set_cons_zero])
  refine list_end ?_
  refine then_norm ?_
  refine wp_block ?_
  obtain ⟨R3, hq3, hm⟩ := bs hm
  have hn3 := Nat.le_trans (len_le (d := kOp) h_p1 (by decide)) (by decide : (140737488355328 : Nat) ≤ 9223372036854775807)
  refine wp_loopF [none, none, none, none, none, none, some 6, none, none, some 9, none, none, none, none, none, none, none, none, none, none, some 20, some 21, some 22, some 23, some 24, some 25, some 26, some 27, some 28, some 29, some 30, some 31, some 32, some 33, some 34, some 35, some 36, some 37, some 38, some 39, some 40, some 41, some 42, some 43, some 44, some 45, some 46, some 47, some 48, some 49, some 50, none, none, none, none, none, none, none] rfl (by simp) (fun f w => ∃ (k3 : Nat) (r3 : List Op') (y3_c0_0 : List Op') (A_y3_c0_0 : Option Addr) (c_y3_c0_0 : Nat), a1.drop k3 = r3 ∧ f 20 = .int .i64 (k3 : Int) ∧ assayerref16_State_Apply_l3 fuel a2 a0 k3 r3 y3_c0_0 = some R3 ∧ Holds E s (pt b17 (.cells #[.slice A_y3_c0_0 y3_c0_0.length c_y3_c0_0] 61 (0, 0)) :: (kOp.sh s).Osl (.slice A_y3_c0_0 y3_c0_0.length c_y3_c0_0) y3_c0_0 :: (kOp.sh s).Osl (.slice A_p0_l a0.l.length c_p0_l) a0.l :: pt b_p0 (.cells #[.slice A_p0_l a0.l.length c_p0_l] 61 (0, 0)) :: L) w) (fun f w => a1.length - (intOf (f 20)).toNat) ?_ ?_
  · exact ⟨0, a1, u1, Av2, cv2, rfl, rfl, hq3, H⟩
  · clear H
    intro f w hI
    obtain ⟨k3, r3, y3_c0_0, A_y3_c0_0, c_y3_c0_0, hd3, hf20, hq3', H⟩ := hI
    clear hq3; have hq3 := hq3'; clear hq3'
    simp only [ovm, mixM]
    simp only [hf20]; clear hf20
    refine wp_seq ?_
    refine wp_region_lit ?_
    apply seq_op (V := .bool (decide ((k3 : Int) < (a1.length : Int)))) rfl
    · intro Φ hΦ; refine O_bin rfl rfl rfl eqg_int r_lss ?_; exact hΦ
    (try simp only [Act.put, List.setIfInBounds_toArray, List.set_cons_succ, List.set_cons_zero])
    refine list_end ?_
    refine then_norm ?_
    refine wp_seq ?_
    refine wp_cond_split rfl (fun hc => ?_) (fun hc => ?_)
    · have hc1 := hc
      clear hc
      obtain ⟨x3, r3', rfl, hd3', hd3'', hl3⟩ := rng_t hd3 hc1
      rw [assayerref16_State_Apply_l3] at hq3
      refine wp_skip ?_
      refine then_norm ?_
      refine wp_seq ?_
      refine wp_block ?_
      refine wp_seq ?_
      obtain ⟨be1, oe1, A3e1, c3e1, rfl, hCe1, h0e1, h1e1, h2e1, h3e1⟩ := kOp_el h_p1 hd3'
      refine wp_region_lit ?_
      apply seq_op (V := .pointer (some ⟨be1, oe1 + k3 * 6, none⟩)) rfl
      · intro Φ hΦ; refine O_ix rfl Try.underlying28 (Try.sizeOf35 _) rfl rfl rfl hl3 ?_; exact hΦ
      (try simp only [Act.put, List.setIfInBounds_toArray, List.set_cons_succ, List.set_cons_zero])
      apply seq_op (V := .agg #[.int .i64 x3.kind, .string x3.key, .int .i64 x3.value, .slice A3e1 x3.list.length c3e1, .bool x3.has, .bool x3.isNil]) rfl
      · intro Φ hΦ; refine G_sN _ _ rfl (Try.isAgg35 _) rfl H hCe1 (Try.sizeOf35 _) ?_; exact hΦ
      (try simp only [Act.put, List.setIfInBounds_toArray, List.set_cons_succ, List.set_cons_zero])
      refine OpG.list rfl ?_; refine G_alloc 35 rfl (Try.zeroValue35 _) H ?_; clear H; intro b9 w1 H; (try simp only [Value.cells] at H)
      (try simp only [Act.put, List.setIfInBounds_toArray, List.set_cons_succ, List.set_cons_zero])
      refine OpG.list rfl ?_; refine G_setNi 0 (c := [.int .i64 x3.kind, .string x3.key, .int .i64 x3.value, .slice A3e1 x3.list.length c3e1, .bool x3.has, .bool x3.isNil]) _ _ _ rfl (Try.sizeOf35 _) rfl rfl (by simp [Value.oneCell']) H rfl rfl ?_; clear H; intro w1 H; simp only [List.set_cons_succ, List.set_cons_zero] at H
      (try simp only [Act.put, List.setIfInBounds_toArray, List.set_cons_succ, List.set_cons_zero])
      refine list_end ?_
      refine then_norm ?_
      refine wp_seq ?_
      refine wp_seq ?_
      rcases Bool.eq_false_or_eq_true (!a2) with hg1 | hg1
      · replace hq3 := ifT hg1 hq3
        obtain ⟨u2, gx2, hq3⟩ := bs hq3
        refine wp_region_lit ?_
        apply seq_op (V := .bool a2) rfl
        · intro Φ hΦ; refine O_mv rfl rfl ?_; exact hΦ
        (try simp only [Act.put, List.setIfInBounds_toArray, List.set_cons_succ, List.set_cons_zero])
        apply seq_op (V := .bool (!a2)) rfl
        · intro Φ hΦ; refine O_not rfl rfl ?_; exact hΦ
        (try simp only [Act.put, List.setIfInBounds_toArray, List.set_cons_succ, List.set_cons_zero])
        apply seq_op (V := .bool (!a2)) rfl
        · intro Φ hΦ; refine O_mv rfl rfl ?_; exact hΦ
        (try simp only [Act.put, List.setIfInBounds_toArray, List.set_cons_succ, List.set_cons_zero])
        refine seq_opw (V := .pointer (some ⟨b17, 0, none⟩)) ((wanted_t rfl rfl rfl).trans hg1) ?_ ?_
        · intro Φ hΦ; refine O_mv rfl rfl ?_; exact hΦ
        (try simp only [Act.put, List.setIfInBounds_toArray, List.set_cons_succ, List.set_cons_zero])
        refine seq_opw (V := .agg #[.int .i64 x3.kind, .string x3.key, .int .i64 x3.value, .slice A3e1 x3.list.length c3e1, .bool x3.has, .bool x3.isNil]) ((wanted_t rfl rfl rfl).trans hg1) ?_ ?_
        · intro Φ hΦ; refine G_pNi 0 _ _ rfl (Try.isAgg35 _) rfl H rfl (Try.sizeOf35 _) ?_; exact hΦ
        (try simp only [Act.put, List.setIfInBounds_toArray, List.set_cons_succ, List.set_cons_zero])
        refine seq_opHw (V := .bool u2) H ((wanted_t rfl rfl rfl).trans hg1) ?_ ?_
        · intro Φ hΦ; refine O_call2 rfl Try.func71 rfl rfl rfl rfl ?_; obtain ⟨sl0, hsl0, hb0, H, bk0, bg0⟩ := lendAt 1 rfl H; simp only [List.eraseIdx_cons_succ, List.eraseIdx_cons_zero, List.cons_append] at H bk0; obtain ⟨sl1, hsl1, hb1, H, bk1, bg1⟩ := lendOsl 1 rfl hsl0 H; simp only [List.eraseIdx_cons_succ, List.eraseIdx_cons_zero, List.cons_append] at H bk1; refine (assayerref16_State_right_w (fuel := fuel) (a0 := (⟨y3_c0_0⟩ : St16)) (hC_p0 := ((Cells.ofB hb0).mono hsl1)) (h_p0_l := hb1) (a1 := x3) (h_p1_list := (h3e1.mono (hsl0.trans hsl1))) (hm := gx2) (H := H)).mono ?_; rintro e w2 ⟨rfl, H⟩; have H := bk1 H; have H := bk0 H; exact ⟨_, rfl, hΦ _ H⟩
        clear H; intro w1 H
        (try simp only [Act.put, List.setIfInBounds_toArray, List.set_cons_succ, List.set_cons_zero])
        refine seq_opw (V := .bool (!u2)) ((wanted_t rfl rfl rfl).trans hg1) ?_ ?_
        · intro Φ hΦ; refine O_not rfl rfl ?_; exact hΦ
        (try simp only [Act.put, List.setIfInBounds_toArray, List.set_cons_succ, List.set_cons_zero])
        apply seq_op (V := .bool (!u2)) rfl
        · intro Φ hΦ; refine O_pickT rfl rfl hg1 rfl ?_; exact hΦ
        (try simp only [Act.put, List.setIfInBounds_toArray, List.set_cons_succ, List.set_cons_zero])
        refine list_end ?_
        refine then_norm ?_
        refine wp_cond_split rfl (fun hc => ?_) (fun hc => ?_)
        · have hc2 := hc
          clear hc
          replace hq3 := ifT hc2 hq3
          refine wp_seq ?_
          refine wp_region_lit ?_
          apply seq_op (V := .bool false) rfl
          · intro Φ hΦ; refine O_as rfl rfl ?_; exact hΦ
          (try simp only [Act.put, List.setIfInBounds_toArray, List.set_cons_succ, List.set_cons_zero])
          refine list_end ?_
          refine then_norm ?_
          refine wp_ret ?_
          refine then_ret ?_
          refine block_ret ?_
          refine then_ret ?_
          refine then_ret ?_
          refine block_ret ?_
          refine then_ret ?_
          have hq3 := Option.some.inj hq3
          subst hq3
          (try dsimp only at hm)
          have hm := Option.some.inj hm
          subst hm
          replace H := H.front 3 rfl; simp only [List.eraseIdx_cons_succ, List.eraseIdx_cons_zero] at H
          replace H := H.front 4 rfl; simp only [List.eraseIdx_cons_succ, List.eraseIdx_cons_zero] at H
          replace H := H.dropAt 4 rfl; simp only [List.eraseIdx_cons_succ, List.eraseIdx_cons_zero] at H
          replace H := H.dropAt 3 rfl; simp only [List.eraseIdx_cons_succ, List.eraseIdx_cons_zero] at H
          replace H := H.dropAt 2 rfl; simp only [List.eraseIdx_cons_succ, List.eraseIdx_cons_zero] at H
          exact ret1 rfl (rv_tmp rfl) rfl ⟨A_p0_l, c_p0_l, rfl, H⟩
        · have hc2 := hc
          clear hc
          replace hq3 := ifF hc2 hq3
          refine wp_skip ?_
          refine then_norm ?_
          refine wp_seq ?_
          refine wp_region_lit ?_
          apply seq_op (V := .pointer (some ⟨b9, 0, none⟩)) rfl
          · intro Φ hΦ; refine O_fld rfl Try.underlying35 rfl (Try.sizeOf3 _) rfl ?_; exact hΦ
          (try simp only [Act.put, List.setIfInBounds_toArray, List.set_cons_succ, List.set_cons_zero])
          apply seq_op (V := .int .i64 x3.kind) rfl
          · intro Φ hΦ; refine L_1 0 _ _ rfl (Try.isAgg3 _) rfl H rfl rfl ?_; exact hΦ
          (try simp only [Act.put, List.setIfInBounds_toArray, List.set_cons_succ, List.set_cons_zero])
          apply seq_op (V := .bool (x3.kind == 1)) rfl
          · intro Φ hΦ; refine O_bin rfl rfl rfl eqg_int r_eql ?_; exact hΦ
          (try simp only [Act.put, List.setIfInBounds_toArray, List.set_cons_succ, List.set_cons_zero])
          apply seq_op (V := .bool (x3.kind == 1)) rfl
          · intro Φ hΦ; refine O_mv rfl rfl ?_; exact hΦ
          (try simp only [Act.put, List.setIfInBounds_toArray, List.set_cons_succ, List.set_cons_zero])
          refine seq_opg (c := (!(x3.kind == 1))) (V := .pointer (some ⟨b9, 0, none⟩)) (by first | exact wanted_f rfl rfl rfl | exact wanted_vf rfl rfl rfl) ?_ ?_
          · intro hc Φ hΦ; refine O_fld rfl Try.underlying35 rfl (Try.sizeOf3 _) rfl ?_; exact hΦ
          (try simp only [Act.put, List.setIfInBounds_toArray, List.set_cons_succ, List.set_cons_zero])
          refine seq_opg (c := (!(x3.kind == 1))) (V := .int .i64 x3.kind) (by first | exact wanted_f rfl rfl rfl | exact wanted_vf rfl rfl rfl) ?_ ?_
          · intro hc Φ hΦ; (repeat (first | rw [vg_of hc] | rw [vg_of (and_l hc)] | rw [vg_of (and_l (and_l hc))] | rw [vg_of (and_l (and_l (and_l hc)))] | rw [vg_and hc])); refine L_1 0 _ _ rfl (Try.isAgg3 _) rfl H rfl rfl ?_; exact hΦ
          (try simp only [Act.put, List.setIfInBounds_toArray, List.set_cons_succ, List.set_cons_zero])
          refine seq_opg (c := (!(x3.kind == 1))) (V := .bool (x3.kind == 3)) (by first | exact wanted_f rfl rfl rfl | exact wanted_vf rfl rfl rfl) ?_ ?_
          · intro hc Φ hΦ; (repeat (first | rw [vg_of hc] | rw [vg_of (and_l hc)] | rw [vg_of (and_l (and_l hc))] | rw [vg_of (and_l (and_l (and_l hc)))] | rw [vg_and hc])); refine O_bin rfl rfl rfl eqg_int r_eql ?_; exact hΦ
          (try simp only [Act.put, List.setIfInBounds_toArray, List.set_cons_succ, List.set_cons_zero])
          apply seq_op (V := .bool ((x3.kind == 1) || (x3.kind == 3))) rfl
          · intro Φ hΦ; refine G_or _ _ _ rfl rfl rfl rfl ?_; exact hΦ
          (try simp only [Act.put, List.setIfInBounds_toArray, List.set_cons_succ, List.set_cons_zero])
          refine list_end ?_
          refine then_norm ?_
          refine wp_cond_split rfl (fun hc => ?_) (fun hc => ?_)
          · have hc3 := hc
            clear hc
            replace hq3 := ifT hc3 hq3
            obtain ⟨u3, gx3, hq3⟩ := bs hq3
            obtain ⟨hroomgx3, egx3⟩ := app_some gx3
            refine wp_draw_C (k := 8) (sz := 58) [6, 7] [.pointer (some ⟨b17, 0, none⟩), .pointer (some ⟨b17, 0, none⟩), .pointer (some ⟨b17, 0, none⟩), .pointer (some ⟨b17, 0, none⟩), .slice A_y3_c0_0 y3_c0_0.length c_y3_c0_0, .agg #[.int .i64 x3.kind, .string x3.key, .int .i64 x3.value, .slice A3e1 x3.list.length c3e1, .bool x3.has, .bool x3.isNil], undef, undef] [pt b9 (.cells #[.int .i64 x3.kind, .string x3.key, .int .i64 x3.value, .slice A3e1 x3.list.length c3e1, .bool x3.has, .bool x3.isNil] 35 (0, 0)), pt b17 (.cells #[.slice A_y3_c0_0 y3_c0_0.length c_y3_c0_0] 61 (0, 0))] [fun w x => ∃ (b46 : Nat), x 6 = .slice (some ⟨b46, 0, none⟩) 1 1 ∧ Holds E s (pt b46 (.cells #[.int .i64 x3.kind, .string x3.key, .int .i64 x3.value, .slice A3e1 x3.list.length c3e1, .bool x3.has, .bool x3.isNil] 35 (0, 0)) :: pt b9 (.cells #[.int .i64 x3.kind, .string x3.key, .int .i64 x3.value, .slice A3e1 x3.list.length c3e1, .bool x3.has, .bool x3.isNil] 35 (0, 0)) :: pt b17 (.cells #[.slice A_y3_c0_0 y3_c0_0.length c_y3_c0_0] 61 (0, 0)) :: (kOp.sh s).Osl (.slice A_y3_c0_0 y3_c0_0.length c_y3_c0_0) y3_c0_0 :: (kOp.sh s).Osl (.slice A_p0_l a0.l.length c_p0_l) a0.l :: pt b_p0 (.cells #[.slice A_p0_l a0.l.length c_p0_l] 61 (0, 0)) :: L) w, fun w x => ∃ (b46 : Nat) (Av3 : Option Addr) (cv3 : Nat), x 6 = .slice (some ⟨b46, 0, none⟩) 1 1 ∧ x 7 = .slice Av3 u3.length cv3 ∧ Holds E s (pt b9 (.cells #[.int .i64 x3.kind, .string x3.key, .int .i64 x3.value, .slice A3e1 x3.list.length c3e1, .bool x3.has, .bool x3.isNil] 35 (0, 0)) :: pt b17 (.cells #[.slice A_y3_c0_0 y3_c0_0.length c_y3_c0_0] 61 (0, 0)) :: (kOp.sh s).Osl (.slice Av3 u3.length cv3) u3 :: (kOp.sh s).Osl (.slice A_p0_l a0.l.length c_p0_l) a0.l :: pt b_p0 (.cells #[.slice A_p0_l a0.l.length c_p0_l] 61 (0, 0)) :: L) w] mixed (by simp) rfl (by kernel_rfl) (by kernel_rfl) (by kernel_rfl) (by simp) rfl H (by simp only [List.take_succ_cons, List.take_zero]; exact rfl) (by simp only [List.drop_succ_cons, List.drop_zero]; exact rfl)
              (fun x => by simp only [ov, Act.put, List.setIfInBounds_toArray, List.set_cons_succ, List.set_cons_zero, Nat.zero_add, Nat.reduceAdd]; exact rfl) ?_ ?_ ?_ ?_
            · refine ⟨?_, ?_, ?_, trivial⟩
              · intro w x hS; have H : Holds E s (pt b9 (.cells #[.int .i64 x3.kind, .string x3.key, .int .i64 x3.value, .slice A3e1 x3.list.length c3e1, .bool x3.has, .bool x3.isNil] 35 (0, 0)) :: pt b17 (.cells #[.slice A_y3_c0_0 y3_c0_0.length c_y3_c0_0] 61 (0, 0)) :: (kOp.sh s).Osl (.slice A_y3_c0_0 y3_c0_0.length c_y3_c0_0) y3_c0_0 :: (kOp.sh s).Osl (.slice A_p0_l a0.l.length c_p0_l) a0.l :: pt b_p0 (.cells #[.slice A_p0_l a0.l.length c_p0_l] 61 (0, 0)) :: L) w := hS; replace H := H.front 1 rfl; simp only [List.eraseIdx_cons_succ, List.eraseIdx_cons_zero] at H; replace H := H.front 1 rfl; simp only [List.eraseIdx_cons_succ, List.eraseIdx_cons_zero] at H; exact ⟨_, _, Sub.refl _, H⟩
              · intro w x hS; obtain ⟨b46, e6, H⟩ := hS; replace H := H.front 2 rfl; simp only [List.eraseIdx_cons_succ, List.eraseIdx_cons_zero] at H; replace H := H.front 2 rfl; simp only [List.eraseIdx_cons_succ, List.eraseIdx_cons_zero] at H; exact ⟨_, _, Sub.refl _, H⟩
              · intro w x hS; obtain ⟨b46, Av3, cv3, e6, e7, H⟩ := hS; replace H := H.front 1 rfl; simp only [List.eraseIdx_cons_succ, List.eraseIdx_cons_zero] at H; replace H := H.front 1 rfl; simp only [List.eraseIdx_cons_succ, List.eraseIdx_cons_zero] at H; exact ⟨_, _, Sub.refl _, H⟩
            · refine ⟨?_, ?_, ?_, ?_, ?_, ?_, ?_, ?_, trivial⟩
              · refine .inr ?_; intro s' R w' x Φ hs H hx hΦ; refine wantG rfl ?_; refine O_mv rfl rfl ?_; exact hΦ
              · refine .inr ?_; intro s' R w' x Φ hs H hx hΦ; refine wantG rfl ?_; refine O_mv rfl rfl ?_; exact hΦ
              · refine .inr ?_; intro s' R w' x Φ hs H hx hΦ; have e1 : x 1 = .pointer (some ⟨b17, 0, none⟩) := hx 1 (by decide) (by decide); simp only [e1]; refine wantG rfl ?_; refine O_nil rfl rfl ?_; exact hΦ
              · refine .inr ?_; intro s' R w' x Φ hs H hx hΦ; have e2 : x 2 = .pointer (some ⟨b17, 0, none⟩) := hx 2 (by decide) (by decide); simp only [e2]; refine wantG rfl ?_; refine O_fld rfl Try.underlying61 rfl (Try.sizeOf28 _) rfl ?_; exact hΦ
              · refine .inr ?_; intro s' R w' x Φ hs H hx hΦ; have e3 : x 3 = .pointer (some ⟨b17, 0, none⟩) := hx 3 (by decide) (by decide); simp only [e3]; refine wantG rfl ?_; refine L_1 1 _ _ rfl (Try.isAgg28 _) rfl H rfl rfl ?_; exact hΦ
              · refine .inr ?_; intro s' R w' x Φ hs H hx hΦ; refine wantG rfl ?_; refine G_pNi 0 _ _ rfl (Try.isAgg35 _) rfl H rfl (Try.sizeOf35 _) ?_; exact hΦ
              · exact .inl (by decide)
              · exact .inl (by decide)
            · refine ⟨?_, ?_, trivial⟩
              · intro o ho; obtain rfl := Option.some.inj ho; intro w' x Φ hS hx hΦ
                have H : Holds E s (pt b9 (.cells #[.int .i64 x3.kind, .string x3.key, .int .i64 x3.value, .slice A3e1 x3.list.length c3e1, .bool x3.has, .bool x3.isNil] 35 (0, 0)) :: pt b17 (.cells #[.slice A_y3_c0_0 y3_c0_0.length c_y3_c0_0] 61 (0, 0)) :: (kOp.sh s).Osl (.slice A_y3_c0_0 y3_c0_0.length c_y3_c0_0) y3_c0_0 :: (kOp.sh s).Osl (.slice A_p0_l a0.l.length c_p0_l) a0.l :: pt b_p0 (.cells #[.slice A_p0_l a0.l.length c_p0_l] 61 (0, 0)) :: L) w' := hS; clear hS
                have e5 : x 5 = .agg #[.int .i64 x3.kind, .string x3.key, .int .i64 x3.value, .slice A3e1 x3.list.length c3e1, .bool x3.has, .bool x3.isNil] := hx 5 (by decide) (by decide)
                simp only [e5]
                refine wantG rfl ?_
                refine SL_1 rfl (v := .agg #[.int .i64 x3.kind, .string x3.key, .int .i64 x3.value, .slice A3e1 x3.list.length c3e1, .bool x3.has, .bool x3.isNil]) rfl Try.underlying28 Try.sizeOf35 Try.zeroValue35 rfl rfl (by decide) (by decide) H ?_; clear H; intro b46 w1 H; (try simp only [Value.cells] at H)
                exact hΦ _ _ ⟨b46, updV_same, H⟩
              · intro o ho; obtain rfl := Option.some.inj ho; intro w' x Φ hS hx hΦ
                obtain ⟨b46, e6, H⟩ := hS
                have e4 : x 4 = .slice A_y3_c0_0 y3_c0_0.length c_y3_c0_0 := hx 4 (by decide) (by decide)
                simp only [e4, e6]
                refine wantG rfl ?_
                refine AP_1 (p := x3) 2 kOp_at _ _ rfl (kOp_mk' (s := s) (x := x3) h0e1 h1e1 h2e1 h3e1) H rfl rfl rfl hroomgx3 ?_; clear H; intro v3 w1 H; (try simp only [List.set_cons_succ, List.set_cons_zero] at H)
                rw [← egx3] at H
                obtain ⟨Av3, cv3, rfl, -⟩ := (H.front 2 rfl).len
                exact hΦ _ _ ⟨b46, Av3, cv3, (updV_ne (by decide)).trans e6, updV_same, H⟩
            · clear H
              intro w' x hS hx
              obtain ⟨b46, Av3, cv3, e6, e7, H⟩ := hS
              have e0 : x 0 = .pointer (some ⟨b17, 0, none⟩) := hx 0 (by decide) (by decide)
              have e1 : x 1 = .pointer (some ⟨b17, 0, none⟩) := hx 1 (by decide) (by decide)
              have e2 : x 2 = .pointer (some ⟨b17, 0, none⟩) := hx 2 (by decide) (by decide)
              have e3 : x 3 = .pointer (some ⟨b17, 0, none⟩) := hx 3 (by decide) (by decide)
              have e4 : x 4 = .slice A_y3_c0_0 y3_c0_0.length c_y3_c0_0 := hx 4 (by decide) (by decide)
              have e5 : x 5 = .agg #[.int .i64 x3.kind, .string x3.key, .int .i64 x3.value, .slice A3e1 x3.list.length c3e1, .bool x3.has, .bool x3.isNil] := hx 5 (by decide) (by decide)
              simp only [e0, e1, e2, e3, e4, e5, e6, e7]
              clear hx
              apply seq_op (V := .pointer (some ⟨b17, 0, none⟩)) rfl
              · intro Φ hΦ; refine O_nil rfl rfl ?_; exact hΦ
              (try simp only [Act.put, List.setIfInBounds_toArray, List.set_cons_succ, List.set_cons_zero])
              apply seq_op (V := .pointer (some ⟨b17, 0, none⟩)) rfl
              · intro Φ hΦ; refine O_fld rfl Try.underlying61 rfl (Try.sizeOf28 _) rfl ?_; exact hΦ
              (try simp only [Act.put, List.setIfInBounds_toArray, List.set_cons_succ, List.set_cons_zero])
              refine OpG.list rfl ?_; refine S_1 1 _ _ _ rfl (Try.sizeOf28 _) rfl (v := .slice Av3 u3.length cv3) rfl H rfl ?_ ?_ ?_; (focus (first | rfl | (simp [Value.oneCell']; done))); (focus (simp; done)); clear H; intro w1 H; simp only [List.set_cons_succ, List.set_cons_zero] at H
              (try simp only [Act.put, List.setIfInBounds_toArray, List.set_cons_succ, List.set_cons_zero])
              refine list_end ?_
              refine block_norm ?_
              refine then_norm ?_
              refine wp_region_lit ?_
              apply seq_op (V := .int .i64 (IntKind.i64.wrap ((k3 : Int) + 1))) rfl
              · intro Φ hΦ; refine O_bin rfl rfl rfl eqg_int r_add ?_; exact hΦ
              (try simp only [Act.put, List.setIfInBounds_toArray, List.set_cons_succ, List.set_cons_zero])
              apply seq_op (V := .int .i64 (IntKind.i64.wrap ((k3 : Int) + 1))) rfl
              · intro Φ hΦ; refine O_mv rfl rfl ?_; exact hΦ
              (try simp only [Act.put, List.setIfInBounds_toArray, List.set_cons_succ, List.set_cons_zero])
              refine list_end ?_
              refine then_norm ?_
              replace H := H.drop
              refine ⟨⟨⟨rfl, rfl, rfl, rfl, rfl, rfl, rfl, rfl, rfl, rfl, rfl, rfl, rfl, rfl, rfl, rfl, rfl, rfl, rfl, rfl, rfl, rfl, rfl, rfl, rfl, rfl⟩, rfl⟩, ⟨k3 + 1, _, u3, Av3, cv3, hd3'', wrap_succ hl3 hn3, hq3, H⟩, ?_⟩
              exact meas_succ hl3 hn3
          · have hc3 := hc
            clear hc
            replace hq3 := ifF hc3 hq3
            refine wp_skip ?_
            refine block_norm ?_
            refine then_norm ?_
            refine wp_region_lit ?_
            apply seq_op (V := .int .i64 (IntKind.i64.wrap ((k3 : Int) + 1))) rfl
            · intro Φ hΦ; refine O_bin rfl rfl rfl eqg_int r_add ?_; exact hΦ
            (try simp only [Act.put, List.setIfInBounds_toArray, List.set_cons_succ, List.set_cons_zero])
            apply seq_op (V := .int .i64 (IntKind.i64.wrap ((k3 : Int) + 1))) rfl
            · intro Φ hΦ; refine O_mv rfl rfl ?_; exact hΦ
            (try simp only [Act.put, List.setIfInBounds_toArray, List.set_cons_succ, List.set_cons_zero])
            refine list_end ?_
            refine then_norm ?_
            replace H := H.drop
            refine ⟨⟨⟨rfl, rfl, rfl, rfl, rfl, rfl, rfl, rfl, rfl, rfl, rfl, rfl, rfl, rfl, rfl, rfl, rfl, rfl, rfl, rfl, rfl, rfl, rfl, rfl, rfl, rfl⟩, rfl⟩, ⟨k3 + 1, _, y3_c0_0, A_y3_c0_0, c_y3_c0_0, hd3'', wrap_succ hl3 hn3, hq3, H⟩, ?_⟩
            exact meas_succ hl3 hn3
      · replace hq3 := ifF hg1 hq3
        refine wp_region_lit ?_
        apply seq_op (V := .bool a2) rfl
        · intro Φ hΦ; refine O_mv rfl rfl ?_; exact hΦ
        (try simp only [Act.put, List.setIfInBounds_toArray, List.set_cons_succ, List.set_cons_zero])
        apply seq_op (V := .bool (!a2)) rfl
        · intro Φ hΦ; refine O_not rfl rfl ?_; exact hΦ
        (try simp only [Act.put, List.setIfInBounds_toArray, List.set_cons_succ, List.set_cons_zero])
        apply seq_op (V := .bool (!a2)) rfl
        · intro Φ hΦ; refine O_mv rfl rfl ?_; exact hΦ
        (try simp only [Act.put, List.setIfInBounds_toArray, List.set_cons_succ, List.set_cons_zero])
        refine seq_skip ((wanted_t rfl rfl rfl).trans hg1) ?_
        (try simp only [Act.put, List.setIfInBounds_toArray, List.set_cons_succ, List.set_cons_zero])
        refine seq_skip ((wanted_t rfl rfl rfl).trans hg1) ?_
        (try simp only [Act.put, List.setIfInBounds_toArray, List.set_cons_succ, List.set_cons_zero])
        refine seq_skip ((wanted_t rfl rfl rfl).trans hg1) ?_
        (try simp only [Act.put, List.setIfInBounds_toArray, List.set_cons_succ, List.set_cons_zero])
        refine seq_skip ((wanted_t rfl rfl rfl).trans hg1) ?_
        (try simp only [Act.put, List.setIfInBounds_toArray, List.set_cons_succ, List.set_cons_zero])
        apply seq_op (V := .bool false) rfl
        · intro Φ hΦ; refine O_pickF rfl rfl hg1 rfl ?_; exact hΦ
        (try simp only [Act.put, List.setIfInBounds_toArray, List.set_cons_succ, List.set_cons_zero])
        refine list_end ?_
        refine then_norm ?_
        refine wp_cond_false rfl ?_
        refine wp_skip ?_
        refine then_norm ?_
        refine wp_seq ?_
        refine wp_region_lit ?_
        apply seq_op (V := .pointer (some ⟨b9, 0, none⟩)) rfl
        · intro Φ hΦ; refine O_fld rfl Try.underlying35 rfl (Try.sizeOf3 _) rfl ?_; exact hΦ
        (try simp only [Act.put, List.setIfInBounds_toArray, List.set_cons_succ, List.set_cons_zero])
        apply seq_op (V := .int .i64 x3.kind) rfl
        · intro Φ hΦ; refine L_1 0 _ _ rfl (Try.isAgg3 _) rfl H rfl rfl ?_; exact hΦ
        (try simp only [Act.put, List.setIfInBounds_toArray, List.set_cons_succ, List.set_cons_zero])
        apply seq_op (V := .bool (x3.kind == 1)) rfl
        · intro Φ hΦ; refine O_bin rfl rfl rfl eqg_int r_eql ?_; exact hΦ
        (try simp only [Act.put, List.setIfInBounds_toArray, List.set_cons_succ, List.set_cons_zero])
        apply seq_op (V := .bool (x3.kind == 1)) rfl
        · intro Φ hΦ; refine O_mv rfl rfl ?_; exact hΦ
        (try simp only [Act.put, List.setIfInBounds_toArray, List.set_cons_succ, List.set_cons_zero])
        refine seq_opg (c := (!(x3.kind == 1))) (V := .pointer (some ⟨b9, 0, none⟩)) (by first | exact wanted_f rfl rfl rfl | exact wanted_vf rfl rfl rfl) ?_ ?_
        · intro hc Φ hΦ; refine O_fld rfl Try.underlying35 rfl (Try.sizeOf3 _) rfl ?_; exact hΦ
        (try simp only [Act.put, List.setIfInBounds_toArray, List.set_cons_succ, List.set_cons_zero])
        refine seq_opg (c := (!(x3.kind == 1))) (V := .int .i64 x3.kind) (by first | exact wanted_f rfl rfl rfl | exact wanted_vf rfl rfl rfl) ?_ ?_
        · intro hc Φ hΦ; (repeat (first | rw [vg_of hc] | rw [vg_of (and_l hc)] | rw [vg_of (and_l (and_l hc))] | rw [vg_of (and_l (and_l (and_l hc)))] | rw [vg_and hc])); refine L_1 0 _ _ rfl (Try.isAgg3 _) rfl H rfl rfl ?_; exact hΦ
        (try simp only [Act.put, List.setIfInBounds_toArray, List.set_cons_succ, List.set_cons_zero])
        refine seq_opg (c := (!(x3.kind == 1))) (V := .bool (x3.kind == 3)) (by first | exact wanted_f rfl rfl rfl | exact wanted_vf rfl rfl rfl) ?_ ?_
        · intro hc Φ hΦ; (repeat (first | rw [vg_of hc] | rw [vg_of (and_l hc)] | rw [vg_of (and_l (and_l hc))] | rw [vg_of (and_l (and_l (and_l hc)))] | rw [vg_and hc])); refine O_bin rfl rfl rfl eqg_int r_eql ?_; exact hΦ
        (try simp only [Act.put, List.setIfInBounds_toArray, List.set_cons_succ, List.set_cons_zero])
        apply seq_op (V := .bool ((x3.kind == 1) || (x3.kind == 3))) rfl
        · intro Φ hΦ; refine G_or _ _ _ rfl rfl rfl rfl ?_; exact hΦ
        (try simp only [Act.put, List.setIfInBounds_toArray, List.set_cons_succ, List.set_cons_zero])
        refine list_end ?_
        refine then_norm ?_
        refine wp_cond_split rfl (fun hc => ?_) (fun hc => ?_)
        · have hc2 := hc
          clear hc
          replace hq3 := ifT hc2 hq3
          obtain ⟨u2, gx2, hq3⟩ := bs hq3
          obtain ⟨hroomgx2, egx2⟩ := app_some gx2
          refine wp_draw_C (k := 8) (sz := 58) [6, 7] [.pointer (some ⟨b17, 0, none⟩), .pointer (some ⟨b17, 0, none⟩), .pointer (some ⟨b17, 0, none⟩), .pointer (some ⟨b17, 0, none⟩), .slice A_y3_c0_0 y3_c0_0.length c_y3_c0_0, .agg #[.int .i64 x3.kind, .string x3.key, .int .i64 x3.value, .slice A3e1 x3.list.length c3e1, .bool x3.has, .bool x3.isNil], undef, undef] [pt b9 (.cells #[.int .i64 x3.kind, .string x3.key, .int .i64 x3.value, .slice A3e1 x3.list.length c3e1, .bool x3.has, .bool x3.isNil] 35 (0, 0)), pt b17 (.cells #[.slice A_y3_c0_0 y3_c0_0.length c_y3_c0_0] 61 (0, 0))] [fun w x => ∃ (b46 : Nat), x 6 = .slice (some ⟨b46, 0, none⟩) 1 1 ∧ Holds E s (pt b46 (.cells #[.int .i64 x3.kind, .string x3.key, .int .i64 x3.value, .slice A3e1 x3.list.length c3e1, .bool x3.has, .bool x3.isNil] 35 (0, 0)) :: pt b9 (.cells #[.int .i64 x3.kind, .string x3.key, .int .i64 x3.value, .slice A3e1 x3.list.length c3e1, .bool x3.has, .bool x3.isNil] 35 (0, 0)) :: pt b17 (.cells #[.slice A_y3_c0_0 y3_c0_0.length c_y3_c0_0] 61 (0, 0)) :: (kOp.sh s).Osl (.slice A_y3_c0_0 y3_c0_0.length c_y3_c0_0) y3_c0_0 :: (kOp.sh s).Osl (.slice A_p0_l a0.l.length c_p0_l) a0.l :: pt b_p0 (.cells #[.slice A_p0_l a0.l.length c_p0_l] 61 (0, 0)) :: L) w, fun w x => ∃ (b46 : Nat) (Av3 : Option Addr) (cv3 : Nat), x 6 = .slice (some ⟨b46, 0, none⟩) 1 1 ∧ x 7 = .slice Av3 u2.length cv3 ∧ Holds E s (pt b9 (.cells #[.int .i64 x3.kind, .string x3.key, .int .i64 x3.value, .slice A3e1 x3.list.length c3e1, .bool x3.has, .bool x3.isNil] 35 (0, 0)) :: pt b17 (.cells #[.slice A_y3_c0_0 y3_c0_0.length c_y3_c0_0] 61 (0, 0)) :: (kOp.sh s).Osl (.slice Av3 u2.length cv3) u2 :: (kOp.sh s).Osl (.slice A_p0_l a0.l.length c_p0_l) a0.l :: pt b_p0 (.cells #[.slice A_p0_l a0.l.length c_p0_l] 61 (0, 0)) :: L) w] mixed (by simp) rfl (by kernel_rfl) (by kernel_rfl) (by kernel_rfl) (by simp) rfl H (by simp only [List.take_succ_cons, List.take_zero]; exact rfl) (by simp only [List.drop_succ_cons, List.drop_zero]; exact rfl)
            (fun x => by simp only [ov, Act.put, List.setIfInBounds_toArray, List.set_cons_succ, List.set_cons_zero, Nat.zero_add, Nat.reduceAdd]; exact rfl) ?_ ?_ ?_ ?_
          · refine ⟨?_, ?_, ?_, trivial⟩
            · intro w x hS; have H : Holds E s (pt b9 (.cells #[.int .i64 x3.kind, .string x3.key, .int .i64 x3.value, .slice A3e1 x3.list.length c3e1, .bool x3.has, .bool x3.isNil] 35 (0, 0)) :: pt b17 (.cells #[.slice A_y3_c0_0 y3_c0_0.length c_y3_c0_0] 61 (0, 0)) :: (kOp.sh s).Osl (.slice A_y3_c0_0 y3_c0_0.length c_y3_c0_0) y3_c0_0 :: (kOp.sh s).Osl (.slice A_p0_l a0.l.length c_p0_l) a0.l :: pt b_p0 (.cells #[.slice A_p0_l a0.l.length c_p0_l] 61 (0, 0)) :: L) w := hS; replace H := H.front 1 rfl; simp only [List.eraseIdx_cons_succ, List.eraseIdx_cons_zero] at H; replace H := H.front 1 rfl; simp only [List.eraseIdx_cons_succ, List.eraseIdx_cons_zero] at H; exact ⟨_, _, Sub.refl _, H⟩
            · intro w x hS; obtain ⟨b46, e6, H⟩ := hS; replace H := H.front 2 rfl; simp only [List.eraseIdx_cons_succ, List.eraseIdx_cons_zero] at H; replace H := H.front 2 rfl; simp only [List.eraseIdx_cons_succ, List.eraseIdx_cons_zero] at H; exact ⟨_, _, Sub.refl _, H⟩
            · intro w x hS; obtain ⟨b46, Av3, cv3, e6, e7, H⟩ := hS; replace H := H.front 1 rfl; simp only [List.eraseIdx_cons_succ, List.eraseIdx_cons_zero] at H; replace H := H.front 1 rfl; simp only [List.eraseIdx_cons_succ, List.eraseIdx_cons_zero] at H; exact ⟨_, _, Sub.refl _, H⟩
          · refine ⟨?_, ?_, ?_, ?_, ?_, ?_, ?_, ?_, trivial⟩
            · refine .inr ?_; intro s' R w' x Φ hs H hx hΦ; refine wantG rfl ?_; refine O_mv rfl rfl ?_; exact hΦ
            · refine .inr ?_; intro s' R w' x Φ hs H hx hΦ; refine wantG rfl ?_; refine O_mv rfl rfl ?_; exact hΦ
            · refine .inr ?_; intro s' R w' x Φ hs H hx hΦ; have e1 : x 1 = .pointer (some ⟨b17, 0, none⟩) := hx 1 (by decide) (by decide); simp only [e1]; refine wantG rfl ?_; refine O_nil rfl rfl ?_; exact hΦ
            · refine .inr ?_; intro s' R w' x Φ hs H hx hΦ; have e2 : x 2 = .pointer (some ⟨b17, 0, none⟩) := hx 2 (by decide) (by decide); simp only [e2]; refine wantG rfl ?_; refine O_fld rfl Try.underlying61 rfl (Try.sizeOf28 _) rfl ?_; exact hΦ
            · refine .inr ?_; intro s' R w' x Φ hs H hx hΦ; have e3 : x 3 = .pointer (some ⟨b17, 0, none⟩) := hx 3 (by decide) (by decide); simp only [e3]; refine wantG rfl ?_; refine L_1 1 _ _ rfl (Try.isAgg28 _) rfl H rfl rfl ?_; exact hΦ
            · refine .inr ?_; intro s' R w' x Φ hs H hx hΦ; refine wantG rfl ?_; refine G_pNi 0 _ _ rfl (Try.isAgg35 _) rfl H rfl (Try.sizeOf35 _) ?_; exact hΦ
            · exact .inl (by decide)
            · exact .inl (by decide)
          · refine ⟨?_, ?_, trivial⟩
            · intro o ho; obtain rfl := Option.some.inj ho; intro w' x Φ hS hx hΦ
              have H : Holds E s (pt b9 (.cells #[.int .i64 x3.kind, .string x3.key, .int .i64 x3.value, .slice A3e1 x3.list.length c3e1, .bool x3.has, .bool x3.isNil] 35 (0, 0)) :: pt b17 (.cells #[.slice A_y3_c0_0 y3_c0_0.length c_y3_c0_0] 61 (0, 0)) :: (kOp.sh s).Osl (.slice A_y3_c0_0 y3_c0_0.length c_y3_c0_0) y3_c0_0 :: (kOp.sh s).Osl (.slice A_p0_l a0.l.length c_p0_l) a0.l :: pt b_p0 (.cells #[.slice A_p0_l a0.l.length c_p0_l] 61 (0, 0)) :: L) w' := hS; clear hS
              have e5 : x 5 = .agg #[.int .i64 x3.kind, .string x3.key, .int .i64 x3.value, .slice A3e1 x3.list.length c3e1, .bool x3.has, .bool x3.isNil] := hx 5 (by decide) (by decide)
              simp only [e5]
              refine wantG rfl ?_
              refine SL_1 rfl (v := .agg #[.int .i64 x3.kind, .string x3.key, .int .i64 x3.value, .slice A3e1 x3.list.length c3e1, .bool x3.has, .bool x3.isNil]) rfl Try.underlying28 Try.sizeOf35 Try.zeroValue35 rfl rfl (by decide) (by decide) H ?_; clear H; intro b46 w1 H; (try simp only [Value.cells] at H)
              exact hΦ _ _ ⟨b46, updV_same, H⟩
            · intro o ho; obtain rfl := Option.some.inj ho; intro w' x Φ hS hx hΦ
              obtain ⟨b46, e6, H⟩ := hS
              have e4 : x 4 = .slice A_y3_c0_0 y3_c0_0.length c_y3_c0_0 := hx 4 (by decide) (by decide)
              simp only [e4, e6]
              refine wantG rfl ?_
              refine AP_1 (p := x3) 2 kOp_at _ _ rfl (kOp_mk' (s := s) (x := x3) h0e1 h1e1 h2e1 h3e1) H rfl rfl rfl hroomgx2 ?_; clear H; intro v3 w1 H; (try simp only [List.set_cons_succ, List.set_cons_zero] at H)
              rw [← egx2] at H
              obtain ⟨Av3, cv3, rfl, -⟩ := (H.front 2 rfl).len
              exact hΦ _ _ ⟨b46, Av3, cv3, (updV_ne (by decide)).trans e6, updV_same, H⟩
          · clear H
            intro w' x hS hx
            obtain ⟨b46, Av3, cv3, e6, e7, H⟩ := hS
            have e0 : x 0 = .pointer (some ⟨b17, 0, none⟩) := hx 0 (by decide) (by decide)
            have e1 : x 1 = .pointer (some ⟨b17, 0, none⟩) := hx 1 (by decide) (by decide)
            have e2 : x 2 = .pointer (some ⟨b17, 0, none⟩) := hx 2 (by decide) (by decide)
            have e3 : x 3 = .pointer (some ⟨b17, 0, none⟩) := hx 3 (by decide) (by decide)
            have e4 : x 4 = .slice A_y3_c0_0 y3_c0_0.length c_y3_c0_0 := hx 4 (by decide) (by decide)
            have e5 : x 5 = .agg #[.int .i64 x3.kind, .string x3.key, .int .i64 x3.value, .slice A3e1 x3.list.length c3e1, .bool x3.has, .bool x3.isNil] := hx 5 (by decide) (by decide)
            simp only [e0, e1, e2, e3, e4, e5, e6, e7]
            clear hx
            apply seq_op (V := .pointer (some ⟨b17, 0, none⟩)) rfl
            · intro Φ hΦ; refine O_nil rfl rfl ?_; exact hΦ
            (try simp only [Act.put, List.setIfInBounds_toArray, List.set_cons_succ, List.set_cons_zero])
            apply seq_op (V := .pointer (some ⟨b17, 0, none⟩)) rfl
            · intro Φ hΦ; refine O_fld rfl Try.underlying61 rfl (Try.sizeOf28 _) rfl ?_; exact hΦ
            (try simp only [Act.put, List.setIfInBounds_toArray, List.set_cons_succ, List.set_cons_zero])
            refine OpG.list rfl ?_; refine S_1 1 _ _ _ rfl (Try.sizeOf28 _) rfl (v := .slice Av3 u2.length cv3) rfl H rfl ?_ ?_ ?_; (focus (first | rfl | (simp [Value.oneCell']; done))); (focus (simp; done)); clear H; intro w1 H; simp only [List.set_cons_succ, List.set_cons_zero] at H
            (try simp only [Act.put, List.setIfInBounds_toArray, List.set_cons_succ, List.set_cons_zero])
            refine list_end ?_
            refine block_norm ?_
            refine then_norm ?_
            refine wp_region_lit ?_
            apply seq_op (V := .int .i64 (IntKind.i64.wrap ((k3 : Int) + 1))) rfl
            · intro Φ hΦ; refine O_bin rfl rfl rfl eqg_int r_add ?_; exact hΦ
            (try simp only [Act.put, List.setIfInBounds_toArray, List.set_cons_succ, List.set_cons_zero])
            apply seq_op (V := .int .i64 (IntKind.i64.wrap ((k3 : Int) + 1))) rfl
            · intro Φ hΦ; refine O_mv rfl rfl ?_; exact hΦ
            (try simp only [Act.put, List.setIfInBounds_toArray, List.set_cons_succ, List.set_cons_zero])
            refine list_end ?_
            refine then_norm ?_
            replace H := H.drop
            refine ⟨⟨⟨rfl, rfl, rfl, rfl, rfl, rfl, rfl, rfl, rfl, rfl, rfl, rfl, rfl, rfl, rfl, rfl, rfl, rfl, rfl, rfl, rfl, rfl, rfl, rfl, rfl, rfl⟩, rfl⟩, ⟨k3 + 1, _, u2, Av3, cv3, hd3'', wrap_succ hl3 hn3, hq3, H⟩, ?_⟩
            exact meas_succ hl3 hn3
        · have hc2 := hc
          clear hc
          replace hq3 := ifF hc2 hq3
          refine wp_skip ?_
          refine block_norm ?_
          refine then_norm ?_
          refine wp_region_lit ?_
          apply seq_op (V := .int .i64 (IntKind.i64.wrap ((k3 : Int) + 1))) rfl
          · intro Φ hΦ; refine O_bin rfl rfl rfl eqg_int r_add ?_; exact hΦ
          (try simp only [Act.put, List.setIfInBounds_toArray, List.set_cons_succ, List.set_cons_zero])
          apply seq_op (V := .int .i64 (IntKind.i64.wrap ((k3 : Int) + 1))) rfl
          · intro Φ hΦ; refine O_mv rfl rfl ?_; exact hΦ
          (try simp only [Act.put, List.setIfInBounds_toArray, List.set_cons_succ, List.set_cons_zero])
          refine list_end ?_
          refine then_norm ?_
          replace H := H.drop
          refine ⟨⟨⟨rfl, rfl, rfl, rfl, rfl, rfl, rfl, rfl, rfl, rfl, rfl, rfl, rfl, rfl, rfl, rfl, rfl, rfl, rfl, rfl, rfl, rfl, rfl, rfl, rfl, rfl⟩, rfl⟩, ⟨k3 + 1, _, y3_c0_0, A_y3_c0_0, c_y3_c0_0, hd3'', wrap_succ hl3 hn3, hq3, H⟩, ?_⟩
          exact meas_succ hl3 hn3
    · have hc1 := hc
      clear hc
      obtain rfl := rng_f hd3 hc1
      rw [assayerref16_State_Apply_l3] at hq3
      refine wp_exit ?_
      refine then_exit ?_
      refine then_exit ?_
      have hq3 := Option.some.inj hq3
      subst hq3
      (try dsimp only at hm)
      refine block_exit ?_
      refine then_norm ?_
      refine wp_seq ?_
      refine wp_region_lit ?_
      apply seq_op (V := .pointer (some ⟨b_p0, 0, none⟩)) rfl
      · intro Φ hΦ; refine O_mv rfl rfl ?_; exact hΦ
      (try simp only [Act.put, List.setIfInBounds_toArray, List.set_cons_succ, List.set_cons_zero])
      apply seq_op (V := .pointer (some ⟨b17, 0, none⟩)) rfl
      · intro Φ hΦ; refine O_mv rfl rfl ?_; exact hΦ
      (try simp only [Act.put, List.setIfInBounds_toArray, List.set_cons_succ, List.set_cons_zero])
      apply seq_op (V := .pointer (some ⟨b17, 0, none⟩)) rfl
      · intro Φ hΦ; refine O_nil rfl rfl ?_; exact hΦ
      (try simp only [Act.put, List.setIfInBounds_toArray, List.set_cons_succ, List.set_cons_zero])
      apply seq_op (V := .pointer (some ⟨b17, 0, none⟩)) rfl
      · intro Φ hΦ; refine O_fld rfl Try.underlying61 rfl (Try.sizeOf28 _) rfl ?_; exact hΦ
      (try simp only [Act.put, List.setIfInBounds_toArray, List.set_cons_succ, List.set_cons_zero])
      apply seq_op (V := .slice A_y3_c0_0 y3_c0_0.length c_y3_c0_0) rfl
      · intro Φ hΦ; refine L_1 0 _ _ rfl (Try.isAgg28 _) rfl H rfl rfl ?_; exact hΦ
      (try simp only [Act.put, List.setIfInBounds_toArray, List.set_cons_succ, List.set_cons_zero])
      apply seq_op (V := .pointer (some ⟨b_p0, 0, none⟩)) rfl
      · intro Φ hΦ; refine O_nil rfl rfl ?_; exact hΦ
      (try simp only [Act.put, List.setIfInBounds_toArray, List.set_cons_succ, List.set_cons_zero])
      apply seq_op (V := .pointer (some ⟨b_p0, 0, none⟩)) rfl
      · intro Φ hΦ; refine O_fld rfl Try.underlying61 rfl (Try.sizeOf28 _) rfl ?_; exact hΦ
      (try simp only [Act.put, List.setIfInBounds_toArray, List.set_cons_succ, List.set_cons_zero])
      refine OpG.list rfl ?_; refine S_1 3 _ _ _ rfl (Try.sizeOf28 _) rfl (v := .slice A_y3_c0_0 y3_c0_0.length c_y3_c0_0) rfl H rfl ?_ ?_ ?_; (focus (first | rfl | (simp [Value.oneCell']; done))); (focus (simp; done)); clear H; intro w1 H; simp only [List.set_cons_succ, List.set_cons_zero] at H
      (try simp only [Act.put, List.setIfInBounds_toArray, List.set_cons_succ, List.set_cons_zero])
      refine list_end ?_
      refine then_norm ?_
      refine wp_seq ?_
      refine wp_region_lit ?_
      apply seq_op (V := .bool true) rfl
      · intro Φ hΦ; refine O_as rfl rfl ?_; exact hΦ
      (try simp only [Act.put, List.setIfInBounds_toArray, List.set_cons_succ, List.set_cons_zero])
      refine list_end ?_
      refine then_norm ?_
      refine wp_ret ?_
      have hm := Option.some.inj hm
      subst hm
      replace H := H.front 1 rfl; simp only [List.eraseIdx_cons_succ, List.eraseIdx_cons_zero] at H
      replace H := H.front 3 rfl; simp only [List.eraseIdx_cons_succ, List.eraseIdx_cons_zero] at H
      replace H := H.dropAt 3 rfl; simp only [List.eraseIdx_cons_succ, List.eraseIdx_cons_zero] at H
      replace H := H.dropAt 2 rfl; simp only [List.eraseIdx_cons_succ, List.eraseIdx_cons_zero] at H
      exact ret1 rfl (rv_tmp rfl) rfl ⟨A_y3_c0_0, c_y3_c0_0, rfl, H⟩
end Go.Proofs.Ytemdmpgekegfhaa
