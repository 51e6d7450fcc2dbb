/- Walks, printed by fx.py: part 5. -/
import Derived.Test.YtemdmpgekegfhaaPai4
namespace Go.Proofs.Ytemdmpgekegfhaa
open Go.RowKit
set_option linter.all false
set_option maxRecDepth 10000
def assayerplain_Is_f (a0 : Option Flt) (a1 : Int) (a2 : Int) : Bool := ((((assayerplain_Why_f a0).1) == a2) && (((assayerplain_Why_f a0).2) == a1))

set_option maxHeartbeats 4000000 in
theorem assayerplain_Is_w {E : World} {s : SH} {L : List HP} {w : World} {a0 : Option Flt} {a1 : Int} {a2 : Int} (H : Holds E s (L) w) :
    Calls Try.prog 49 #[encErr a0, .int .i64 a1, .int .i64 a2] w fun e w' => e = .returned (.bool (assayerplain_Is_f a0 a1 a2)) ∧ Holds E s (L) w' := by
  obtain ⟨R, hm⟩ : ∃ R, assayerplain_Is_f a0 a1 a2 = R := ⟨_, rfl⟩
  (try rw [hm])
  unfold assayerplain_Is_f at hm
  go_enter Try.func49, Try.ntmps49
  refine wp_seq ?_
  refine wp_region_lit ?_
  apply seq_op (V := .bool false) rfl
  · intro Φ hΦ; refine O_as rfl rfl ?_; exact hΦ
  (try simp only [Act.put, List.setIfInBounds_toArray, List.set_cons_succ, List.set_cons_zero])
  refine list_end ?_
  refine then_norm ?_
  refine wp_seq ?_
  refine wp_region_lit ?_
  apply seq_op (V := encErr a0) rfl
  · intro Φ hΦ; refine O_mv rfl rfl ?_; exact hΦ
  (try simp only [Act.put, List.setIfInBounds_toArray, List.set_cons_succ, List.set_cons_zero])
  refine seq_call rfl (fun Φ hΦ => by refine O_call1 rfl Try.func85 rfl rfl rfl hΦ) (assayerplain_Why_w (a0 := a0) (H := H)) ?_
  clear H
  rintro e w1 ⟨rfl, H⟩; refine ⟨_, rfl, ?_⟩
  (try simp only [Act.put, List.setIfInBounds_toArray, List.set_cons_succ, List.set_cons_zero])
  apply seq_op (V := .tuple #[.int .i64 ((assayerplain_Why_f a0).1), .int .i64 ((assayerplain_Why_f a0).2)]) rfl
  · intro Φ hΦ; refine O_mv rfl rfl ?_; exact hΦ
  (try simp only [Act.put, List.setIfInBounds_toArray, List.set_cons_succ, List.set_cons_zero])
  apply seq_op (V := .int .i64 ((assayerplain_Why_f a0).1)) rfl
  · intro Φ hΦ; refine O_ext rfl rfl rfl ?_; exact hΦ
  (try simp only [Act.put, List.setIfInBounds_toArray, List.set_cons_succ, List.set_cons_zero])
  apply seq_op (V := .int .i64 ((assayerplain_Why_f a0).2)) rfl
  · intro Φ hΦ; refine O_ext rfl rfl rfl ?_; exact hΦ
  (try simp only [Act.put, List.setIfInBounds_toArray, List.set_cons_succ, List.set_cons_zero])
  apply seq_op (V := .int .i64 ((assayerplain_Why_f a0).1)) rfl
  · intro Φ hΦ; refine O_as rfl rfl ?_; exact hΦ
  (try simp only [Act.put, List.setIfInBounds_toArray, List.set_cons_succ, List.set_cons_zero])
  apply seq_op (V := .int .i64 ((assayerplain_Why_f a0).2)) rfl
  · intro Φ hΦ; refine O_as rfl rfl ?_; exact hΦ
  (try simp only [Act.put, List.setIfInBounds_toArray, List.set_cons_succ, List.set_cons_zero])
  refine list_end ?_
  refine then_norm ?_
  refine wp_seq ?_
  refine wp_region_lit ?_
  apply seq_op (V := .int .i64 ((assayerplain_Why_f a0).1)) rfl
  · intro Φ hΦ; refine O_mv rfl rfl ?_; exact hΦ
  (try simp only [Act.put, List.setIfInBounds_toArray, List.set_cons_succ, List.set_cons_zero])
  apply seq_op (V := .int .i64 a2) rfl
  · intro Φ hΦ; refine O_mv rfl rfl ?_; exact hΦ
  (try simp only [Act.put, List.setIfInBounds_toArray, List.set_cons_succ, List.set_cons_zero])
  apply seq_op (V := .bool (((assayerplain_Why_f a0).1) == a2)) rfl
  · intro Φ hΦ; refine O_bin rfl rfl rfl eqg_int r_eql ?_; exact hΦ
  (try simp only [Act.put, List.setIfInBounds_toArray, List.set_cons_succ, List.set_cons_zero])
  apply seq_op (V := .bool (((assayerplain_Why_f a0).1) == a2)) rfl
  · intro Φ hΦ; refine O_mv rfl rfl ?_; exact hΦ
  (try simp only [Act.put, List.setIfInBounds_toArray, List.set_cons_succ, List.set_cons_zero])
  refine seq_opg (c := (((assayerplain_Why_f a0).1) == a2)) (V := .int .i64 ((assayerplain_Why_f a0).2)) (by first | exact wanted_t rfl rfl rfl | exact wanted_vt rfl rfl rfl) ?_ ?_
  · intro hc Φ hΦ; refine O_mv rfl rfl ?_; exact hΦ
  (try simp only [Act.put, List.setIfInBounds_toArray, List.set_cons_succ, List.set_cons_zero])
  refine seq_opg (c := (((assayerplain_Why_f a0).1) == a2)) (V := .int .i64 a1) (by first | exact wanted_t rfl rfl rfl | exact wanted_vt rfl rfl rfl) ?_ ?_
  · intro hc Φ hΦ; refine O_mv rfl rfl ?_; exact hΦ
  (try simp only [Act.put, List.setIfInBounds_toArray, List.set_cons_succ, List.set_cons_zero])
  refine seq_opg (c := (((assayerplain_Why_f a0).1) == a2)) (V := .bool (((assayerplain_Why_f a0).2) == a1)) (by first | exact wanted_t rfl rfl rfl | exact wanted_vt rfl rfl rfl) ?_ ?_
  · intro hc Φ hΦ; (repeat (first | rw [vg_of hc] | rw [vg_of (and_l hc)] | rw [vg_of (and_l (and_l hc))] | rw [vg_of (and_l (and_l (and_l hc)))] | rw [vg_and hc])); refine O_bin rfl rfl rfl eqg_int r_eql ?_; exact hΦ
  (try simp only [Act.put, List.setIfInBounds_toArray, List.set_cons_succ, List.set_cons_zero])
  apply seq_op (V := .bool ((((assayerplain_Why_f a0).1) == a2) && (((assayerplain_Why_f a0).2) == a1))) rfl
  · intro Φ hΦ; refine G_and _ _ _ rfl rfl rfl rfl ?_; exact hΦ
  (try simp only [Act.put, List.setIfInBounds_toArray, List.set_cons_succ, List.set_cons_zero])
  apply seq_op (V := .bool ((((assayerplain_Why_f a0).1) == a2) && (((assayerplain_Why_f a0).2) == a1))) rfl
  · intro Φ hΦ; refine O_as rfl rfl ?_; exact hΦ
  (try simp only [Act.put, List.setIfInBounds_toArray, List.set_cons_succ, List.set_cons_zero])
  refine list_end ?_
  refine then_norm ?_
  refine wp_ret ?_
  subst hm
  exact ret1 rfl (rv_tmp rfl) rfl ⟨rfl, H⟩
def assayerplain_SameOps_1_f (a0 : Op') (a1 : Op') : Option Bool := if (((((a0.kind == a1.kind) && (a0.key.toList == a1.key.toList)) && (a0.value == a1.value)) && (a0.has == a1.has)) && (a0.isNil == a1.isNil)) = true then ((slices_Equal_I_f a0.list a1.list).bind fun u1 => some u1) else (some false)

set_option maxHeartbeats 4000000 in
theorem assayerplain_SameOps_1_w {E : World} {s : SH} {L : List HP} {w : World} {a0 : Op'} {a1 : Op'} {A_p0_list : Option Addr} {c_p0_list : Nat} (h_p0_list : kI.Sl s (.slice A_p0_list a0.list.length c_p0_list) a0.list) {A_p1_list : Option Addr} {c_p1_list : Nat} (h_p1_list : kI.Sl s (.slice A_p1_list a1.list.length c_p1_list) a1.list) {R : Bool} (hm : assayerplain_SameOps_1_f a0 a1 = some R) (H : Holds E s (L) w) :
    Calls Try.prog 73 #[.agg #[.int .i64 a0.kind, .string a0.key, .int .i64 a0.value, .slice A_p0_list a0.list.length c_p0_list, .bool a0.has, .bool a0.isNil], .agg #[.int .i64 a1.kind, .string a1.key, .int .i64 a1.value, .slice A_p1_list a1.list.length c_p1_list, .bool a1.has, .bool a1.isNil]] w fun e w' => e = .returned (.bool R) ∧ Holds E s (L) w' := by
  unfold assayerplain_SameOps_1_f at hm
  go_enter Try.func73, Try.ntmps73
  refine wp_seq ?_
  refine wp_region_lit ?_
  refine OpG.list rfl ?_; refine B_x 35 _ rfl (v := .agg #[.int .i64 a0.kind, .string a0.key, .int .i64 a0.value, .slice A_p0_list a0.list.length c_p0_list, .bool a0.has, .bool a0.isNil]) rfl H ?_; clear H; intro b2 w1 H; (try simp only [Value.cells] at H)
  (try simp only [Act.put, List.setIfInBounds_toArray, List.set_cons_succ, List.set_cons_zero])
  refine OpG.list rfl ?_; refine B_x 35 _ rfl (v := .agg #[.int .i64 a1.kind, .string a1.key, .int .i64 a1.value, .slice A_p1_list a1.list.length c_p1_list, .bool a1.has, .bool a1.isNil]) rfl H ?_; clear H; intro b3 w1 H; (try simp only [Value.cells] at H)
  (try simp only [Act.put, List.setIfInBounds_toArray, List.set_cons_succ, List.set_cons_zero])
  apply seq_op (V := .bool false) rfl
  · intro Φ hΦ; refine O_as rfl rfl ?_; exact hΦ
  (try simp only [Act.put, List.setIfInBounds_toArray, List.set_cons_succ, List.set_cons_zero])
  refine list_end ?_
  refine then_norm ?_
  refine wp_seq ?_
  rcases Bool.eq_false_or_eq_true (((((a0.kind == a1.kind) && (a0.key.toList == a1.key.toList)) && (a0.value == a1.value)) && (a0.has == a1.has)) && (a0.isNil == a1.isNil)) with hg1 | hg1
  · replace hm := ifT hg1 hm
    obtain ⟨u1, gx1, hm⟩ := bs hm
    refine wp_region_lit ?_
    apply seq_op (V := .pointer (some ⟨b2, 0, none⟩)) rfl
    · intro Φ hΦ; refine O_fld rfl Try.underlying35 rfl (Try.sizeOf3 _) rfl ?_; exact hΦ
    (try simp only [Act.put, List.setIfInBounds_toArray, List.set_cons_succ, List.set_cons_zero])
    apply seq_op (V := .int .i64 a0.kind) rfl
    · intro Φ hΦ; refine L_1 1 _ _ rfl (Try.isAgg3 _) rfl H rfl rfl ?_; exact hΦ
    (try simp only [Act.put, List.setIfInBounds_toArray, List.set_cons_succ, List.set_cons_zero])
    apply seq_op (V := .pointer (some ⟨b3, 0, none⟩)) rfl
    · intro Φ hΦ; refine O_fld rfl Try.underlying35 rfl (Try.sizeOf3 _) rfl ?_; exact hΦ
    (try simp only [Act.put, List.setIfInBounds_toArray, List.set_cons_succ, List.set_cons_zero])
    apply seq_op (V := .int .i64 a1.kind) rfl
    · intro Φ hΦ; refine L_1 0 _ _ rfl (Try.isAgg3 _) rfl H rfl rfl ?_; exact hΦ
    (try simp only [Act.put, List.setIfInBounds_toArray, List.set_cons_succ, List.set_cons_zero])
    apply seq_op (V := .bool (a0.kind == a1.kind)) rfl
    · intro Φ hΦ; refine O_bin rfl rfl rfl eqg_int r_eql ?_; exact hΦ
    (try simp only [Act.put, List.setIfInBounds_toArray, List.set_cons_succ, List.set_cons_zero])
    apply seq_op (V := .bool (a0.kind == a1.kind)) rfl
    · intro Φ hΦ; refine O_mv rfl rfl ?_; exact hΦ
    (try simp only [Act.put, List.setIfInBounds_toArray, List.set_cons_succ, List.set_cons_zero])
    refine seq_opg (c := (a0.kind == a1.kind)) (V := .pointer (some ⟨b2, 1, none⟩)) (by first | exact wanted_t rfl rfl rfl | exact wanted_vt rfl rfl rfl) ?_ ?_
    · intro hc Φ hΦ; refine O_fld rfl Try.underlying35 rfl (Try.sizeOf9 _) rfl ?_; exact hΦ
    (try simp only [Act.put, List.setIfInBounds_toArray, List.set_cons_succ, List.set_cons_zero])
    refine seq_opg (c := (a0.kind == a1.kind)) (V := .string a0.key) (by first | exact wanted_t rfl rfl rfl | exact wanted_vt rfl rfl rfl) ?_ ?_
    · intro hc Φ hΦ; (repeat (first | rw [vg_of hc] | rw [vg_of (and_l hc)] | rw [vg_of (and_l (and_l hc))] | rw [vg_of (and_l (and_l (and_l hc)))] | rw [vg_and hc])); refine L_1 1 _ _ rfl (Try.isAgg9 _) rfl H rfl rfl ?_; exact hΦ
    (try simp only [Act.put, List.setIfInBounds_toArray, List.set_cons_succ, List.set_cons_zero])
    refine seq_opg (c := (a0.kind == a1.kind)) (V := .pointer (some ⟨b3, 1, none⟩)) (by first | exact wanted_t rfl rfl rfl | exact wanted_vt rfl rfl rfl) ?_ ?_
    · intro hc Φ hΦ; refine O_fld rfl Try.underlying35 rfl (Try.sizeOf9 _) rfl ?_; exact hΦ
    (try simp only [Act.put, List.setIfInBounds_toArray, List.set_cons_succ, List.set_cons_zero])
    refine seq_opg (c := (a0.kind == a1.kind)) (V := .string a1.key) (by first | exact wanted_t rfl rfl rfl | exact wanted_vt rfl rfl rfl) ?_ ?_
    · intro hc Φ hΦ; (repeat (first | rw [vg_of hc] | rw [vg_of (and_l hc)] | rw [vg_of (and_l (and_l hc))] | rw [vg_of (and_l (and_l (and_l hc)))] | rw [vg_and hc])); refine L_1 0 _ _ rfl (Try.isAgg9 _) rfl H rfl rfl ?_; exact hΦ
    (try simp only [Act.put, List.setIfInBounds_toArray, List.set_cons_succ, List.set_cons_zero])
    refine seq_opg (c := (a0.kind == a1.kind)) (V := .bool (a0.key.toList == a1.key.toList)) (by first | exact wanted_t rfl rfl rfl | exact wanted_vt rfl rfl rfl) ?_ ?_
    · intro hc Φ hΦ; (repeat (first | rw [vg_of hc] | rw [vg_of (and_l hc)] | rw [vg_of (and_l (and_l hc))] | rw [vg_of (and_l (and_l (and_l hc)))] | rw [vg_and hc])); refine O_bin rfl rfl rfl eqg_str r_seq ?_; exact hΦ
    (try simp only [Act.put, List.setIfInBounds_toArray, List.set_cons_succ, List.set_cons_zero])
    apply seq_op (V := .bool ((a0.kind == a1.kind) && (a0.key.toList == a1.key.toList))) rfl
    · intro Φ hΦ; refine G_and _ _ _ rfl rfl rfl rfl ?_; exact hΦ
    (try simp only [Act.put, List.setIfInBounds_toArray, List.set_cons_succ, List.set_cons_zero])
    apply seq_op (V := .bool ((a0.kind == a1.kind) && (a0.key.toList == a1.key.toList))) rfl
    · intro Φ hΦ; refine O_mv rfl rfl ?_; exact hΦ
    (try simp only [Act.put, List.setIfInBounds_toArray, List.set_cons_succ, List.set_cons_zero])
    refine seq_opg (c := ((a0.kind == a1.kind) && (a0.key.toList == a1.key.toList))) (V := .pointer (some ⟨b2, 2, none⟩)) (by first | exact wanted_t rfl rfl rfl | exact wanted_vt rfl rfl rfl) ?_ ?_
    · intro hc Φ hΦ; refine O_fld rfl Try.underlying35 rfl (Try.sizeOf3 _) rfl ?_; exact hΦ
    (try simp only [Act.put, List.setIfInBounds_toArray, List.set_cons_succ, List.set_cons_zero])
    refine seq_opg (c := ((a0.kind == a1.kind) && (a0.key.toList == a1.key.toList))) (V := .int .i64 a0.value) (by first | exact wanted_t rfl rfl rfl | exact wanted_vt rfl rfl rfl) ?_ ?_
    · intro hc Φ hΦ; (repeat (first | rw [vg_of hc] | rw [vg_of (and_l hc)] | rw [vg_of (and_l (and_l hc))] | rw [vg_of (and_l (and_l (and_l hc)))] | rw [vg_and hc])); refine L_1 1 _ _ rfl (Try.isAgg3 _) rfl H rfl rfl ?_; exact hΦ
    (try simp only [Act.put, List.setIfInBounds_toArray, List.set_cons_succ, List.set_cons_zero])
    refine seq_opg (c := ((a0.kind == a1.kind) && (a0.key.toList == a1.key.toList))) (V := .pointer (some ⟨b3, 2, none⟩)) (by first | exact wanted_t rfl rfl rfl | exact wanted_vt rfl rfl rfl) ?_ ?_
    · intro hc Φ hΦ; refine O_fld rfl Try.underlying35 rfl (Try.sizeOf3 _) rfl ?_; exact hΦ
    (try simp only [Act.put, List.setIfInBounds_toArray, List.set_cons_succ, List.set_cons_zero])
    refine seq_opg (c := ((a0.kind == a1.kind) && (a0.key.toList == a1.key.toList))) (V := .int .i64 a1.value) (by first | exact wanted_t rfl rfl rfl | exact wanted_vt rfl rfl rfl) ?_ ?_
    · intro hc Φ hΦ; (repeat (first | rw [vg_of hc] | rw [vg_of (and_l hc)] | rw [vg_of (and_l (and_l hc))] | rw [vg_of (and_l (and_l (and_l hc)))] | rw [vg_and hc])); refine L_1 0 _ _ rfl (Try.isAgg3 _) rfl H rfl rfl ?_; exact hΦ
    (try simp only [Act.put, List.setIfInBounds_toArray, List.set_cons_succ, List.set_cons_zero])
    refine seq_opg (c := ((a0.kind == a1.kind) && (a0.key.toList == a1.key.toList))) (V := .bool (a0.value == a1.value)) (by first | exact wanted_t rfl rfl rfl | exact wanted_vt rfl rfl rfl) ?_ ?_
    · intro hc Φ hΦ; (repeat (first | rw [vg_of hc] | rw [vg_of (and_l hc)] | rw [vg_of (and_l (and_l hc))] | rw [vg_of (and_l (and_l (and_l hc)))] | rw [vg_and hc])); refine O_bin rfl rfl rfl eqg_int r_eql ?_; exact hΦ
    (try simp only [Act.put, List.setIfInBounds_toArray, List.set_cons_succ, List.set_cons_zero])
    apply seq_op (V := .bool (((a0.kind == a1.kind) && (a0.key.toList == a1.key.toList)) && (a0.value == a1.value))) rfl
    · intro Φ hΦ; refine G_and _ _ _ rfl rfl rfl rfl ?_; exact hΦ
    (try simp only [Act.put, List.setIfInBounds_toArray, List.set_cons_succ, List.set_cons_zero])
    apply seq_op (V := .bool (((a0.kind == a1.kind) && (a0.key.toList == a1.key.toList)) && (a0.value == a1.value))) rfl
    · intro Φ hΦ; refine O_mv rfl rfl ?_; exact hΦ
    (try simp only [Act.put, List.setIfInBounds_toArray, List.set_cons_succ, List.set_cons_zero])
    refine seq_opg (c := (((a0.kind == a1.kind) && (a0.key.toList == a1.key.toList)) && (a0.value == a1.value))) (V := .pointer (some ⟨b2, 4, none⟩)) (by first | exact wanted_t rfl rfl rfl | exact wanted_vt rfl rfl rfl) ?_ ?_
    · intro hc Φ hΦ; refine O_fld rfl Try.underlying35 rfl (Try.sizeOf4 _) rfl ?_; exact hΦ
    (try simp only [Act.put, List.setIfInBounds_toArray, List.set_cons_succ, List.set_cons_zero])
    refine seq_opg (c := (((a0.kind == a1.kind) && (a0.key.toList == a1.key.toList)) && (a0.value == a1.value))) (V := .bool a0.has) (by first | exact wanted_t rfl rfl rfl | exact wanted_vt rfl rfl rfl) ?_ ?_
    · intro hc Φ hΦ; (repeat (first | rw [vg_of hc] | rw [vg_of (and_l hc)] | rw [vg_of (and_l (and_l hc))] | rw [vg_of (and_l (and_l (and_l hc)))] | rw [vg_and hc])); refine L_1 1 _ _ rfl (Try.isAgg4 _) rfl H rfl rfl ?_; exact hΦ
    (try simp only [Act.put, List.setIfInBounds_toArray, List.set_cons_succ, List.set_cons_zero])
    refine seq_opg (c := (((a0.kind == a1.kind) && (a0.key.toList == a1.key.toList)) && (a0.value == a1.value))) (V := .pointer (some ⟨b3, 4, none⟩)) (by first | exact wanted_t rfl rfl rfl | exact wanted_vt rfl rfl rfl) ?_ ?_
    · intro hc Φ hΦ; refine O_fld rfl Try.underlying35 rfl (Try.sizeOf4 _) rfl ?_; exact hΦ
    (try simp only [Act.put, List.setIfInBounds_toArray, List.set_cons_succ, List.set_cons_zero])
    refine seq_opg (c := (((a0.kind == a1.kind) && (a0.key.toList == a1.key.toList)) && (a0.value == a1.value))) (V := .bool a1.has) (by first | exact wanted_t rfl rfl rfl | exact wanted_vt rfl rfl rfl) ?_ ?_
    · intro hc Φ hΦ; (repeat (first | rw [vg_of hc] | rw [vg_of (and_l hc)] | rw [vg_of (and_l (and_l hc))] | rw [vg_of (and_l (and_l (and_l hc)))] | rw [vg_and hc])); refine L_1 0 _ _ rfl (Try.isAgg4 _) rfl H rfl rfl ?_; exact hΦ
    (try simp only [Act.put, List.setIfInBounds_toArray, List.set_cons_succ, List.set_cons_zero])
    refine seq_opg (c := (((a0.kind == a1.kind) && (a0.key.toList == a1.key.toList)) && (a0.value == a1.value))) (V := .bool (a0.has == a1.has)) (by first | exact wanted_t rfl rfl rfl | exact wanted_vt rfl rfl rfl) ?_ ?_
    · intro hc Φ hΦ; (repeat (first | rw [vg_of hc] | rw [vg_of (and_l hc)] | rw [vg_of (and_l (and_l hc))] | rw [vg_of (and_l (and_l (and_l hc)))] | rw [vg_and hc])); refine O_bin rfl rfl rfl eqg_bool (r_beq Try.underlying4) ?_; exact hΦ
    (try simp only [Act.put, List.setIfInBounds_toArray, List.set_cons_succ, List.set_cons_zero])
    apply seq_op (V := .bool ((((a0.kind == a1.kind) && (a0.key.toList == a1.key.toList)) && (a0.value == a1.value)) && (a0.has == a1.has))) rfl
    · intro Φ hΦ; refine G_and _ _ _ rfl rfl rfl rfl ?_; exact hΦ
    (try simp only [Act.put, List.setIfInBounds_toArray, List.set_cons_succ, List.set_cons_zero])
    apply seq_op (V := .bool ((((a0.kind == a1.kind) && (a0.key.toList == a1.key.toList)) && (a0.value == a1.value)) && (a0.has == a1.has))) rfl
    · intro Φ hΦ; refine O_mv rfl rfl ?_; exact hΦ
    (try simp only [Act.put, List.setIfInBounds_toArray, List.set_cons_succ, List.set_cons_zero])
    refine seq_opg (c := ((((a0.kind == a1.kind) && (a0.key.toList == a1.key.toList)) && (a0.value == a1.value)) && (a0.has == a1.has))) (V := .pointer (some ⟨b2, 5, none⟩)) (by first | exact wanted_t rfl rfl rfl | exact wanted_vt rfl rfl rfl) ?_ ?_
    · intro hc Φ hΦ; refine O_fld rfl Try.underlying35 rfl (Try.sizeOf4 _) rfl ?_; exact hΦ
    (try simp only [Act.put, List.setIfInBounds_toArray, List.set_cons_succ, List.set_cons_zero])
    refine seq_opg (c := ((((a0.kind == a1.kind) && (a0.key.toList == a1.key.toList)) && (a0.value == a1.value)) && (a0.has == a1.has))) (V := .bool a0.isNil) (by first | exact wanted_t rfl rfl rfl | exact wanted_vt rfl rfl rfl) ?_ ?_
    · intro hc Φ hΦ; (repeat (first | rw [vg_of hc] | rw [vg_of (and_l hc)] | rw [vg_of (and_l (and_l hc))] | rw [vg_of (and_l (and_l (and_l hc)))] | rw [vg_and hc])); refine L_1 1 _ _ rfl (Try.isAgg4 _) rfl H rfl rfl ?_; exact hΦ
    (try simp only [Act.put, List.setIfInBounds_toArray, List.set_cons_succ, List.set_cons_zero])
    refine seq_opg (c := ((((a0.kind == a1.kind) && (a0.key.toList == a1.key.toList)) && (a0.value == a1.value)) && (a0.has == a1.has))) (V := .pointer (some ⟨b3, 5, none⟩)) (by first | exact wanted_t rfl rfl rfl | exact wanted_vt rfl rfl rfl) ?_ ?_
    · intro hc Φ hΦ; refine O_fld rfl Try.underlying35 rfl (Try.sizeOf4 _) rfl ?_; exact hΦ
    (try simp only [Act.put, List.setIfInBounds_toArray, List.set_cons_succ, List.set_cons_zero])
    refine seq_opg (c := ((((a0.kind == a1.kind) && (a0.key.toList == a1.key.toList)) && (a0.value == a1.value)) && (a0.has == a1.has))) (V := .bool a1.isNil) (by first | exact wanted_t rfl rfl rfl | exact wanted_vt rfl rfl rfl) ?_ ?_
    · intro hc Φ hΦ; (repeat (first | rw [vg_of hc] | rw [vg_of (and_l hc)] | rw [vg_of (and_l (and_l hc))] | rw [vg_of (and_l (and_l (and_l hc)))] | rw [vg_and hc])); refine L_1 0 _ _ rfl (Try.isAgg4 _) rfl H rfl rfl ?_; exact hΦ
    (try simp only [Act.put, List.setIfInBounds_toArray, List.set_cons_succ, List.set_cons_zero])
    refine seq_opg (c := ((((a0.kind == a1.kind) && (a0.key.toList == a1.key.toList)) && (a0.value == a1.value)) && (a0.has == a1.has))) (V := .bool (a0.isNil == a1.isNil)) (by first | exact wanted_t rfl rfl rfl | exact wanted_vt rfl rfl rfl) ?_ ?_
    · intro hc Φ hΦ; (repeat (first | rw [vg_of hc] | rw [vg_of (and_l hc)] | rw [vg_of (and_l (and_l hc))] | rw [vg_of (and_l (and_l (and_l hc)))] | rw [vg_and hc])); refine O_bin rfl rfl rfl eqg_bool (r_beq Try.underlying4) ?_; exact hΦ
    (try simp only [Act.put, List.setIfInBounds_toArray, List.set_cons_succ, List.set_cons_zero])
    apply seq_op (V := .bool (((((a0.kind == a1.kind) && (a0.key.toList == a1.key.toList)) && (a0.value == a1.value)) && (a0.has == a1.has)) && (a0.isNil == a1.isNil))) rfl
    · intro Φ hΦ; refine G_and _ _ _ rfl rfl rfl rfl ?_; exact hΦ
    (try simp only [Act.put, List.setIfInBounds_toArray, List.set_cons_succ, List.set_cons_zero])
    apply seq_op (V := .bool (((((a0.kind == a1.kind) && (a0.key.toList == a1.key.toList)) && (a0.value == a1.value)) && (a0.has == a1.has)) && (a0.isNil == a1.isNil))) rfl
    · intro Φ hΦ; refine O_mv rfl rfl ?_; exact hΦ
    (try simp only [Act.put, List.setIfInBounds_toArray, List.set_cons_succ, List.set_cons_zero])
    refine seq_opw (V := .pointer (some ⟨b2, 3, none⟩)) ((wanted_t rfl rfl rfl).trans hg1) ?_ ?_
    · intro Φ hΦ; refine O_fld rfl Try.underlying35 rfl (Try.sizeOf33 _) rfl ?_; exact hΦ
    (try simp only [Act.put, List.setIfInBounds_toArray, List.set_cons_succ, List.set_cons_zero])
    refine seq_opw (V := .slice A_p0_list a0.list.length c_p0_list) ((wanted_t rfl rfl rfl).trans hg1) ?_ ?_
    · intro Φ hΦ; refine L_1 1 _ _ rfl (Try.isAgg33 _) rfl H rfl rfl ?_; exact hΦ
    (try simp only [Act.put, List.setIfInBounds_toArray, List.set_cons_succ, List.set_cons_zero])
    refine seq_opw (V := .pointer (some ⟨b3, 3, none⟩)) ((wanted_t rfl rfl rfl).trans hg1) ?_ ?_
    · intro Φ hΦ; refine O_fld rfl Try.underlying35 rfl (Try.sizeOf33 _) rfl ?_; exact hΦ
    (try simp only [Act.put, List.setIfInBounds_toArray, List.set_cons_succ, List.set_cons_zero])
    refine seq_opw (V := .slice A_p1_list a1.list.length c_p1_list) ((wanted_t rfl rfl rfl).trans hg1) ?_ ?_
    · intro Φ hΦ; refine L_1 0 _ _ rfl (Try.isAgg33 _) rfl H rfl rfl ?_; exact hΦ
    (try simp only [Act.put, List.setIfInBounds_toArray, List.set_cons_succ, List.set_cons_zero])
    refine seq_callw ((wanted_t rfl rfl rfl).trans hg1) (fun Φ hΦ => by refine O_call2 rfl Try.func34 rfl rfl rfl rfl hΦ) (slices_Equal_I_w (a0 := a0.list) (h_p0 := h_p0_list) (a1 := a1.list) (h_p1 := h_p1_list) (hm := gx1) (H := H)) ?_
    clear H
    rintro e w1 ⟨rfl, H⟩; refine ⟨_, rfl, ?_⟩
    (try simp only [Act.put, List.setIfInBounds_toArray, List.set_cons_succ, List.set_cons_zero])
    apply seq_op (V := .bool u1) rfl
    · intro Φ hΦ; refine O_pickT rfl rfl hg1 rfl ?_; exact hΦ
    (try simp only [Act.put, List.setIfInBounds_toArray, List.set_cons_succ, List.set_cons_zero])
    apply seq_op (V := .bool u1) rfl
    · intro Φ hΦ; refine O_as rfl rfl ?_; exact hΦ
    (try simp only [Act.put, List.setIfInBounds_toArray, List.set_cons_succ, List.set_cons_zero])
    refine list_end ?_
    refine then_norm ?_
    refine wp_ret ?_
    have hm := Option.some.inj hm
    subst hm
    replace H := H.dropAt 1 rfl; simp only [List.eraseIdx_cons_succ, List.eraseIdx_cons_zero] at H
    replace H := H.dropAt 0 rfl; simp only [List.eraseIdx_cons_succ, List.eraseIdx_cons_zero] at H
    exact ret1 rfl (rv_tmp rfl) rfl ⟨rfl, H⟩
  · replace hm := ifF hg1 hm
    refine wp_region_lit ?_
    apply seq_op (V := .pointer (some ⟨b2, 0, none⟩)) rfl
    · intro Φ hΦ; refine O_fld rfl Try.underlying35 rfl (Try.sizeOf3 _) rfl ?_; exact hΦ
    (try simp only [Act.put, List.setIfInBounds_toArray, List.set_cons_succ, List.set_cons_zero])
    apply seq_op (V := .int .i64 a0.kind) rfl
    · intro Φ hΦ; refine L_1 1 _ _ rfl (Try.isAgg3 _) rfl H rfl rfl ?_; exact hΦ
    (try simp only [Act.put, List.setIfInBounds_toArray, List.set_cons_succ, List.set_cons_zero])
    apply seq_op (V := .pointer (some ⟨b3, 0, none⟩)) rfl
    · intro Φ hΦ; refine O_fld rfl Try.underlying35 rfl (Try.sizeOf3 _) rfl ?_; exact hΦ
    (try simp only [Act.put, List.setIfInBounds_toArray, List.set_cons_succ, List.set_cons_zero])
    apply seq_op (V := .int .i64 a1.kind) rfl
    · intro Φ hΦ; refine L_1 0 _ _ rfl (Try.isAgg3 _) rfl H rfl rfl ?_; exact hΦ
    (try simp only [Act.put, List.setIfInBounds_toArray, List.set_cons_succ, List.set_cons_zero])
    apply seq_op (V := .bool (a0.kind == a1.kind)) rfl
    · intro Φ hΦ; refine O_bin rfl rfl rfl eqg_int r_eql ?_; exact hΦ
    (try simp only [Act.put, List.setIfInBounds_toArray, List.set_cons_succ, List.set_cons_zero])
    apply seq_op (V := .bool (a0.kind == a1.kind)) rfl
    · intro Φ hΦ; refine O_mv rfl rfl ?_; exact hΦ
    (try simp only [Act.put, List.setIfInBounds_toArray, List.set_cons_succ, List.set_cons_zero])
    refine seq_opg (c := (a0.kind == a1.kind)) (V := .pointer (some ⟨b2, 1, none⟩)) (by first | exact wanted_t rfl rfl rfl | exact wanted_vt rfl rfl rfl) ?_ ?_
    · intro hc Φ hΦ; refine O_fld rfl Try.underlying35 rfl (Try.sizeOf9 _) rfl ?_; exact hΦ
    (try simp only [Act.put, List.setIfInBounds_toArray, List.set_cons_succ, List.set_cons_zero])
    refine seq_opg (c := (a0.kind == a1.kind)) (V := .string a0.key) (by first | exact wanted_t rfl rfl rfl | exact wanted_vt rfl rfl rfl) ?_ ?_
    · intro hc Φ hΦ; (repeat (first | rw [vg_of hc] | rw [vg_of (and_l hc)] | rw [vg_of (and_l (and_l hc))] | rw [vg_of (and_l (and_l (and_l hc)))] | rw [vg_and hc])); refine L_1 1 _ _ rfl (Try.isAgg9 _) rfl H rfl rfl ?_; exact hΦ
    (try simp only [Act.put, List.setIfInBounds_toArray, List.set_cons_succ, List.set_cons_zero])
    refine seq_opg (c := (a0.kind == a1.kind)) (V := .pointer (some ⟨b3, 1, none⟩)) (by first | exact wanted_t rfl rfl rfl | exact wanted_vt rfl rfl rfl) ?_ ?_
    · intro hc Φ hΦ; refine O_fld rfl Try.underlying35 rfl (Try.sizeOf9 _) rfl ?_; exact hΦ
    (try simp only [Act.put, List.setIfInBounds_toArray, List.set_cons_succ, List.set_cons_zero])
    refine seq_opg (c := (a0.kind == a1.kind)) (V := .string a1.key) (by first | exact wanted_t rfl rfl rfl | exact wanted_vt rfl rfl rfl) ?_ ?_
    · intro hc Φ hΦ; (repeat (first | rw [vg_of hc] | rw [vg_of (and_l hc)] | rw [vg_of (and_l (and_l hc))] | rw [vg_of (and_l (and_l (and_l hc)))] | rw [vg_and hc])); refine L_1 0 _ _ rfl (Try.isAgg9 _) rfl H rfl rfl ?_; exact hΦ
    (try simp only [Act.put, List.setIfInBounds_toArray, List.set_cons_succ, List.set_cons_zero])
    refine seq_opg (c := (a0.kind == a1.kind)) (V := .bool (a0.key.toList == a1.key.toList)) (by first | exact wanted_t rfl rfl rfl | exact wanted_vt rfl rfl rfl) ?_ ?_
    · intro hc Φ hΦ; (repeat (first | rw [vg_of hc] | rw [vg_of (and_l hc)] | rw [vg_of (and_l (and_l hc))] | rw [vg_of (and_l (and_l (and_l hc)))] | rw [vg_and hc])); refine O_bin rfl rfl rfl eqg_str r_seq ?_; exact hΦ
    (try simp only [Act.put, List.setIfInBounds_toArray, List.set_cons_succ, List.set_cons_zero])
    apply seq_op (V := .bool ((a0.kind == a1.kind) && (a0.key.toList == a1.key.toList))) rfl
    · intro Φ hΦ; refine G_and _ _ _ rfl rfl rfl rfl ?_; exact hΦ
    (try simp only [Act.put, List.setIfInBounds_toArray, List.set_cons_succ, List.set_cons_zero])
    apply seq_op (V := .bool ((a0.kind == a1.kind) && (a0.key.toList == a1.key.toList))) rfl
    · intro Φ hΦ; refine O_mv rfl rfl ?_; exact hΦ
    (try simp only [Act.put, List.setIfInBounds_toArray, List.set_cons_succ, List.set_cons_zero])
    refine seq_opg (c := ((a0.kind == a1.kind) && (a0.key.toList == a1.key.toList))) (V := .pointer (some ⟨b2, 2, none⟩)) (by first | exact wanted_t rfl rfl rfl | exact wanted_vt rfl rfl rfl) ?_ ?_
    · intro hc Φ hΦ; refine O_fld rfl Try.underlying35 rfl (Try.sizeOf3 _) rfl ?_; exact hΦ
    (try simp only [Act.put, List.setIfInBounds_toArray, List.set_cons_succ, List.set_cons_zero])
    refine seq_opg (c := ((a0.kind == a1.kind) && (a0.key.toList == a1.key.toList))) (V := .int .i64 a0.value) (by first | exact wanted_t rfl rfl rfl | exact wanted_vt rfl rfl rfl) ?_ ?_
    · intro hc Φ hΦ; (repeat (first | rw [vg_of hc] | rw [vg_of (and_l hc)] | rw [vg_of (and_l (and_l hc))] | rw [vg_of (and_l (and_l (and_l hc)))] | rw [vg_and hc])); refine L_1 1 _ _ rfl (Try.isAgg3 _) rfl H rfl rfl ?_; exact hΦ
    (try simp only [Act.put, List.setIfInBounds_toArray, List.set_cons_succ, List.set_cons_zero])
    refine seq_opg (c := ((a0.kind == a1.kind) && (a0.key.toList == a1.key.toList))) (V := .pointer (some ⟨b3, 2, none⟩)) (by first | exact wanted_t rfl rfl rfl | exact wanted_vt rfl rfl rfl) ?_ ?_
    · intro hc Φ hΦ; refine O_fld rfl Try.underlying35 rfl (Try.sizeOf3 _) rfl ?_; exact hΦ
    (try simp only [Act.put, List.setIfInBounds_toArray, List.set_cons_succ, List.set_cons_zero])
    refine seq_opg (c := ((a0.kind == a1.kind) && (a0.key.toList == a1.key.toList))) (V := .int .i64 a1.value) (by first | exact wanted_t rfl rfl rfl | exact wanted_vt rfl rfl rfl) ?_ ?_
    · intro hc Φ hΦ; (repeat (first | rw [vg_of hc] | rw [vg_of (and_l hc)] | rw [vg_of (and_l (and_l hc))] | rw [vg_of (and_l (and_l (and_l hc)))] | rw [vg_and hc])); refine L_1 0 _ _ rfl (Try.isAgg3 _) rfl H rfl rfl ?_; exact hΦ
    (try simp only [Act.put, List.setIfInBounds_toArray, List.set_cons_succ, List.set_cons_zero])
    refine seq_opg (c := ((a0.kind == a1.kind) && (a0.key.toList == a1.key.toList))) (V := .bool (a0.value == a1.value)) (by first | exact wanted_t rfl rfl rfl | exact wanted_vt rfl rfl rfl) ?_ ?_
    · intro hc Φ hΦ; (repeat (first | rw [vg_of hc] | rw [vg_of (and_l hc)] | rw [vg_of (and_l (and_l hc))] | rw [vg_of (and_l (and_l (and_l hc)))] | rw [vg_and hc])); refine O_bin rfl rfl rfl eqg_int r_eql ?_; exact hΦ
    (try simp only [Act.put, List.setIfInBounds_toArray, List.set_cons_succ, List.set_cons_zero])
    apply seq_op (V := .bool (((a0.kind == a1.kind) && (a0.key.toList == a1.key.toList)) && (a0.value == a1.value))) rfl
    · intro Φ hΦ; refine G_and _ _ _ rfl rfl rfl rfl ?_; exact hΦ
    (try simp only [Act.put, List.setIfInBounds_toArray, List.set_cons_succ, List.set_cons_zero])
    apply seq_op (V := .bool (((a0.kind == a1.kind) && (a0.key.toList == a1.key.toList)) && (a0.value == a1.value))) rfl
    · intro Φ hΦ; refine O_mv rfl rfl ?_; exact hΦ
    (try simp only [Act.put, List.setIfInBounds_toArray, List.set_cons_succ, List.set_cons_zero])
    refine seq_opg (c := (((a0.kind == a1.kind) && (a0.key.toList == a1.key.toList)) && (a0.value == a1.value))) (V := .pointer (some ⟨b2, 4, none⟩)) (by first | exact wanted_t rfl rfl rfl | exact wanted_vt rfl rfl rfl) ?_ ?_
    · intro hc Φ hΦ; refine O_fld rfl Try.underlying35 rfl (Try.sizeOf4 _) rfl ?_; exact hΦ
    (try simp only [Act.put, List.setIfInBounds_toArray, List.set_cons_succ, List.set_cons_zero])
    refine seq_opg (c := (((a0.kind == a1.kind) && (a0.key.toList == a1.key.toList)) && (a0.value == a1.value))) (V := .bool a0.has) (by first | exact wanted_t rfl rfl rfl | exact wanted_vt rfl rfl rfl) ?_ ?_
    · intro hc Φ hΦ; (repeat (first | rw [vg_of hc] | rw [vg_of (and_l hc)] | rw [vg_of (and_l (and_l hc))] | rw [vg_of (and_l (and_l (and_l hc)))] | rw [vg_and hc])); refine L_1 1 _ _ rfl (Try.isAgg4 _) rfl H rfl rfl ?_; exact hΦ
    (try simp only [Act.put, List.setIfInBounds_toArray, List.set_cons_succ, List.set_cons_zero])
    refine seq_opg (c := (((a0.kind == a1.kind) && (a0.key.toList == a1.key.toList)) && (a0.value == a1.value))) (V := .pointer (some ⟨b3, 4, none⟩)) (by first | exact wanted_t rfl rfl rfl | exact wanted_vt rfl rfl rfl) ?_ ?_
    · intro hc Φ hΦ; refine O_fld rfl Try.underlying35 rfl (Try.sizeOf4 _) rfl ?_; exact hΦ
    (try simp only [Act.put, List.setIfInBounds_toArray, List.set_cons_succ, List.set_cons_zero])
    refine seq_opg (c := (((a0.kind == a1.kind) && (a0.key.toList == a1.key.toList)) && (a0.value == a1.value))) (V := .bool a1.has) (by first | exact wanted_t rfl rfl rfl | exact wanted_vt rfl rfl rfl) ?_ ?_
    · intro hc Φ hΦ; (repeat (first | rw [vg_of hc] | rw [vg_of (and_l hc)] | rw [vg_of (and_l (and_l hc))] | rw [vg_of (and_l (and_l (and_l hc)))] | rw [vg_and hc])); refine L_1 0 _ _ rfl (Try.isAgg4 _) rfl H rfl rfl ?_; exact hΦ
    (try simp only [Act.put, List.setIfInBounds_toArray, List.set_cons_succ, List.set_cons_zero])
    refine seq_opg (c := (((a0.kind == a1.kind) && (a0.key.toList == a1.key.toList)) && (a0.value == a1.value))) (V := .bool (a0.has == a1.has)) (by first | exact wanted_t rfl rfl rfl | exact wanted_vt rfl rfl rfl) ?_ ?_
    · intro hc Φ hΦ; (repeat (first | rw [vg_of hc] | rw [vg_of (and_l hc)] | rw [vg_of (and_l (and_l hc))] | rw [vg_of (and_l (and_l (and_l hc)))] | rw [vg_and hc])); refine O_bin rfl rfl rfl eqg_bool (r_beq Try.underlying4) ?_; exact hΦ
    (try simp only [Act.put, List.setIfInBounds_toArray, List.set_cons_succ, List.set_cons_zero])
    apply seq_op (V := .bool ((((a0.kind == a1.kind) && (a0.key.toList == a1.key.toList)) && (a0.value == a1.value)) && (a0.has == a1.has))) rfl
    · intro Φ hΦ; refine G_and _ _ _ rfl rfl rfl rfl ?_; exact hΦ
    (try simp only [Act.put, List.setIfInBounds_toArray, List.set_cons_succ, List.set_cons_zero])
    apply seq_op (V := .bool ((((a0.kind == a1.kind) && (a0.key.toList == a1.key.toList)) && (a0.value == a1.value)) && (a0.has == a1.has))) rfl
    · intro Φ hΦ; refine O_mv rfl rfl ?_; exact hΦ
    (try simp only [Act.put, List.setIfInBounds_toArray, List.set_cons_succ, List.set_cons_zero])
    refine seq_opg (c := ((((a0.kind == a1.kind) && (a0.key.toList == a1.key.toList)) && (a0.value == a1.value)) && (a0.has == a1.has))) (V := .pointer (some ⟨b2, 5, none⟩)) (by first | exact wanted_t rfl rfl rfl | exact wanted_vt rfl rfl rfl) ?_ ?_
    · intro hc Φ hΦ; refine O_fld rfl Try.underlying35 rfl (Try.sizeOf4 _) rfl ?_; exact hΦ
    (try simp only [Act.put, List.setIfInBounds_toArray, List.set_cons_succ, List.set_cons_zero])
    refine seq_opg (c := ((((a0.kind == a1.kind) && (a0.key.toList == a1.key.toList)) && (a0.value == a1.value)) && (a0.has == a1.has))) (V := .bool a0.isNil) (by first | exact wanted_t rfl rfl rfl | exact wanted_vt rfl rfl rfl) ?_ ?_
    · intro hc Φ hΦ; (repeat (first | rw [vg_of hc] | rw [vg_of (and_l hc)] | rw [vg_of (and_l (and_l hc))] | rw [vg_of (and_l (and_l (and_l hc)))] | rw [vg_and hc])); refine L_1 1 _ _ rfl (Try.isAgg4 _) rfl H rfl rfl ?_; exact hΦ
    (try simp only [Act.put, List.setIfInBounds_toArray, List.set_cons_succ, List.set_cons_zero])
    refine seq_opg (c := ((((a0.kind == a1.kind) && (a0.key.toList == a1.key.toList)) && (a0.value == a1.value)) && (a0.has == a1.has))) (V := .pointer (some ⟨b3, 5, none⟩)) (by first | exact wanted_t rfl rfl rfl | exact wanted_vt rfl rfl rfl) ?_ ?_
    · intro hc Φ hΦ; refine O_fld rfl Try.underlying35 rfl (Try.sizeOf4 _) rfl ?_; exact hΦ
    (try simp only [Act.put, List.setIfInBounds_toArray, List.set_cons_succ, List.set_cons_zero])
    refine seq_opg (c := ((((a0.kind == a1.kind) && (a0.key.toList == a1.key.toList)) && (a0.value == a1.value)) && (a0.has == a1.has))) (V := .bool a1.isNil) (by first | exact wanted_t rfl rfl rfl | exact wanted_vt rfl rfl rfl) ?_ ?_
    · intro hc Φ hΦ; (repeat (first | rw [vg_of hc] | rw [vg_of (and_l hc)] | rw [vg_of (and_l (and_l hc))] | rw [vg_of (and_l (and_l (and_l hc)))] | rw [vg_and hc])); refine L_1 0 _ _ rfl (Try.isAgg4 _) rfl H rfl rfl ?_; exact hΦ
    (try simp only [Act.put, List.setIfInBounds_toArray, List.set_cons_succ, List.set_cons_zero])
    refine seq_opg (c := ((((a0.kind == a1.kind) && (a0.key.toList == a1.key.toList)) && (a0.value == a1.value)) && (a0.has == a1.has))) (V := .bool (a0.isNil == a1.isNil)) (by first | exact wanted_t rfl rfl rfl | exact wanted_vt rfl rfl rfl) ?_ ?_
    · intro hc Φ hΦ; (repeat (first | rw [vg_of hc] | rw [vg_of (and_l hc)] | rw [vg_of (and_l (and_l hc))] | rw [vg_of (and_l (and_l (and_l hc)))] | rw [vg_and hc])); refine O_bin rfl rfl rfl eqg_bool (r_beq Try.underlying4) ?_; exact hΦ
    (try simp only [Act.put, List.setIfInBounds_toArray, List.set_cons_succ, List.set_cons_zero])
    apply seq_op (V := .bool (((((a0.kind == a1.kind) && (a0.key.toList == a1.key.toList)) && (a0.value == a1.value)) && (a0.has == a1.has)) && (a0.isNil == a1.isNil))) rfl
    · intro Φ hΦ; refine G_and _ _ _ rfl rfl rfl rfl ?_; exact hΦ
    (try simp only [Act.put, List.setIfInBounds_toArray, List.set_cons_succ, List.set_cons_zero])
    apply seq_op (V := .bool (((((a0.kind == a1.kind) && (a0.key.toList == a1.key.toList)) && (a0.value == a1.value)) && (a0.has == a1.has)) && (a0.isNil == a1.isNil))) rfl
    · intro Φ hΦ; refine O_mv rfl rfl ?_; exact hΦ
    (try simp only [Act.put, List.setIfInBounds_toArray, List.set_cons_succ, List.set_cons_zero])
    refine seq_skip ((wanted_t rfl rfl rfl).trans hg1) ?_
    (try simp only [Act.put, List.setIfInBounds_toArray, List.set_cons_succ, List.set_cons_zero])
    refine seq_skip ((wanted_t rfl rfl rfl).trans hg1) ?_
    (try simp only [Act.put, List.setIfInBounds_toArray, List.set_cons_succ, List.set_cons_zero])
    refine seq_skip ((wanted_t rfl rfl rfl).trans hg1) ?_
    (try simp only [Act.put, List.setIfInBounds_toArray, List.set_cons_succ, List.set_cons_zero])
    refine seq_skip ((wanted_t rfl rfl rfl).trans hg1) ?_
    (try simp only [Act.put, List.setIfInBounds_toArray, List.set_cons_succ, List.set_cons_zero])
    refine seq_skip ((wanted_t rfl rfl rfl).trans hg1) ?_
    (try simp only [Act.put, List.setIfInBounds_toArray, List.set_cons_succ, List.set_cons_zero])
    apply seq_op (V := .bool false) rfl
    · intro Φ hΦ; refine O_pickF rfl rfl hg1 rfl ?_; exact hΦ
    (try simp only [Act.put, List.setIfInBounds_toArray, List.set_cons_succ, List.set_cons_zero])
    apply seq_op (V := .bool false) rfl
    · intro Φ hΦ; refine O_as rfl rfl ?_; exact hΦ
    (try simp only [Act.put, List.setIfInBounds_toArray, List.set_cons_succ, List.set_cons_zero])
    refine list_end ?_
    refine then_norm ?_
    refine wp_ret ?_
    have hm := Option.some.inj hm
    subst hm
    replace H := H.dropAt 1 rfl; simp only [List.eraseIdx_cons_succ, List.eraseIdx_cons_zero] at H
    replace H := H.dropAt 0 rfl; simp only [List.eraseIdx_cons_succ, List.eraseIdx_cons_zero] at H
    exact ret1 rfl (rv_tmp rfl) rfl ⟨rfl, H⟩
def slices_EqualFunc_Op_assayerplain_SameOps_1_l4 (a1 : List Op') : Nat → List Op' → Option ((Bool ⊕ Unit))
  | k4, []  => some (.inr ())
  | k4, x4 :: r4 => (rdI a1 (k4 : Int)).bind fun u1 => (assayerplain_SameOps_1_f x4 u1).bind fun u2 => if (!u2) = true then (some (.inl false)) else (slices_EqualFunc_Op_assayerplain_SameOps_1_l4 a1 (k4 + 1) r4)

def slices_EqualFunc_Op_assayerplain_SameOps_1_f (a0 : List Op') (a1 : List Op') : Option Bool := if ((a0.length : Int) != (a1.length : Int)) = true then (some false) else ((slices_EqualFunc_Op_assayerplain_SameOps_1_l4 a1 0 a0).bind fun | .inl z4_r => (some z4_r) | .inr () => (some true))

set_option maxHeartbeats 4000000 in
theorem slices_EqualFunc_Op_assayerplain_SameOps_1_w {E : World} {s : SH} {L : List HP} {w : World} {a0 : List Op'} {a1 : List Op'} {A_p0 : Option Addr} {c_p0 : Nat} (h_p0 : kOp.Sl s (.slice A_p0 a0.length c_p0) a0) {A_p1 : Option Addr} {c_p1 : Nat} (h_p1 : kOp.Sl s (.slice A_p1 a1.length c_p1) a1) {R : Bool} (hm : slices_EqualFunc_Op_assayerplain_SameOps_1_f a0 a1 = some R) (H : Holds E s (L) w) :
    Calls Try.prog 72 #[.slice A_p0 a0.length c_p0, .slice A_p1 a1.length c_p1, .func (.func 73) #[] #[]] w fun e w' => e = .returned (.bool R) ∧ Holds E s (L) w' := by
  unfold slices_EqualFunc_Op_assayerplain_SameOps_1_f at hm
  go_enter Try.func72, Try.ntmps72
  refine wp_seq ?_
  refine wp_region_lit ?_
  apply seq_op (V := .bool false) rfl
  · intro Φ hΦ; refine O_as rfl rfl ?_; exact hΦ
  (try simp only [Act.put, List.setIfInBounds_toArray, List.set_cons_succ, List.set_cons_zero])
  refine list_end ?_
  refine then_norm ?_
  refine wp_seq ?_
  refine wp_seq ?_
  refine wp_region_lit ?_
  apply seq_op (V := .slice A_p0 a0.length c_p0) rfl
  · intro Φ hΦ; refine O_mv rfl rfl ?_; exact hΦ
  (try simp only [Act.put, List.setIfInBounds_toArray, List.set_cons_succ, List.set_cons_zero])
  apply seq_op (V := .int .i64 (a0.length : Int)) rfl
  · intro Φ hΦ; refine O_len rfl Try.underlying28 rfl ?_; exact hΦ
  (try simp only [Act.put, List.setIfInBounds_toArray, List.set_cons_succ, List.set_cons_zero])
  apply seq_op (V := .slice A_p1 a1.length c_p1) rfl
  · intro Φ hΦ; refine O_mv rfl rfl ?_; exact hΦ
  (try simp only [Act.put, List.setIfInBounds_toArray, List.set_cons_succ, List.set_cons_zero])
  apply seq_op (V := .int .i64 (a1.length : Int)) rfl
  · intro Φ hΦ; refine O_len rfl Try.underlying28 rfl ?_; exact hΦ
  (try simp only [Act.put, List.setIfInBounds_toArray, List.set_cons_succ, List.set_cons_zero])
  apply seq_op (V := .bool ((a0.length : Int) != (a1.length : Int))) rfl
  · intro Φ hΦ; refine O_bin rfl rfl rfl eqg_int r_neq ?_; exact hΦ
  (try simp only [Act.put, List.setIfInBounds_toArray, List.set_cons_succ, List.set_cons_zero])
  refine list_end ?_
  refine then_norm ?_
  refine wp_cond_split rfl (fun hc => ?_) (fun hc => ?_)
  · have hc1 := hc
    clear hc
    replace hm := ifT hc1 hm
    refine wp_seq ?_
    refine wp_region_lit ?_
    apply seq_op (V := .bool false) rfl
    · intro Φ hΦ; refine O_as rfl rfl ?_; exact hΦ
    (try simp only [Act.put, List.setIfInBounds_toArray, List.set_cons_succ, List.set_cons_zero])
    refine list_end ?_
    refine then_norm ?_
    refine wp_ret ?_
    refine then_ret ?_
    have hm := Option.some.inj hm
    subst hm
    exact ret1 rfl (rv_tmp rfl) rfl ⟨rfl, H⟩
  · have hc1 := hc
    clear hc
    replace hm := ifF hc1 hm
    refine wp_skip ?_
    refine then_norm ?_
    refine wp_seq ?_
    refine wp_seq ?_
    refine wp_region_lit ?_
    apply seq_op (V := .slice A_p0 a0.length c_p0) rfl
    · intro Φ hΦ; refine O_mv rfl rfl ?_; exact hΦ
    (try simp only [Act.put, List.setIfInBounds_toArray, List.set_cons_succ, List.set_cons_zero])
    apply seq_op (V := .int .i64 (a0.length : Int)) rfl
    · intro Φ hΦ; refine O_len rfl Try.underlying28 rfl ?_; exact hΦ
    (try simp only [Act.put, List.setIfInBounds_toArray, List.set_cons_succ, List.set_cons_zero])
    apply seq_op (V := .int .i64 0) rfl
    · intro Φ hΦ; refine O_mv rfl rfl ?_; exact hΦ
    (try simp only [Act.put, List.setIfInBounds_toArray, List.set_cons_succ, List.set_cons_zero])
    refine list_end ?_
    refine then_norm ?_
    refine wp_block ?_
    obtain ⟨R4, hq4, hm⟩ := bs hm
    have hn4 := Nat.le_trans (len_le (d := kOp) h_p0 (by decide)) (by decide : (140737488355328 : Nat) ≤ 9223372036854775807)
    refine wp_loopF [none, none, none, none, none, none, some 6, some 7, some 8, some 9, none, none, none, none, none, none, none, some 17, some 18, some 19, some 20, some 21, some 22, some 23, some 24, some 25, some 26, some 27, some 28, some 29, some 30, some 31] rfl (by simp) (fun f w => ∃ (k4 : Nat) (r4 : List Op'), a0.drop k4 = r4 ∧ f 17 = .int .i64 (k4 : Int) ∧ slices_EqualFunc_Op_assayerplain_SameOps_1_l4 a1 k4 r4 = some R4 ∧ Holds E s (L) w) (fun f w => a0.length - (intOf (f 17)).toNat) ?_ ?_
    · exact ⟨0, a0, rfl, rfl, hq4, H⟩
    · clear H
      intro f w hI
      obtain ⟨k4, r4, hd4, hf17, hq4', H⟩ := hI
      clear hq4; have hq4 := hq4'; clear hq4'
      simp only [ovm, mixM]
      simp only [hf17]; clear hf17
      refine wp_seq ?_
      refine wp_region_lit ?_
      apply seq_op (V := .bool (decide ((k4 : Int) < (a0.length : Int)))) rfl
      · intro Φ hΦ; refine O_bin rfl rfl rfl eqg_int r_lss ?_; exact hΦ
      (try simp only [Act.put, List.setIfInBounds_toArray, List.set_cons_succ, List.set_cons_zero])
      refine list_end ?_
      refine then_norm ?_
      refine wp_seq ?_
      refine wp_cond_split rfl (fun hc => ?_) (fun hc => ?_)
      · have hc2 := hc
        clear hc
        obtain ⟨x4, r4', rfl, hd4', hd4'', hl4⟩ := rng_t hd4 hc2
        rw [slices_EqualFunc_Op_assayerplain_SameOps_1_l4] at hq4
        refine wp_skip ?_
        refine then_norm ?_
        refine wp_seq ?_
        refine wp_block ?_
        refine wp_seq ?_
        obtain ⟨be1, oe1, A3e1, c3e1, rfl, hCe1, h0e1, h1e1, h2e1, h3e1⟩ := kOp_el h_p0 hd4'
        refine wp_region_lit ?_
        apply seq_op (V := .int .i64 (k4 : Int)) rfl
        · intro Φ hΦ; refine O_mv rfl rfl ?_; exact hΦ
        (try simp only [Act.put, List.setIfInBounds_toArray, List.set_cons_succ, List.set_cons_zero])
        apply seq_op (V := .pointer (some ⟨be1, oe1 + k4 * 6, none⟩)) rfl
        · intro Φ hΦ; refine O_ix rfl Try.underlying28 (Try.sizeOf35 _) rfl rfl rfl hl4 ?_; exact hΦ
        (try simp only [Act.put, List.setIfInBounds_toArray, List.set_cons_succ, List.set_cons_zero])
        apply seq_op (V := .agg #[.int .i64 x4.kind, .string x4.key, .int .i64 x4.value, .slice A3e1 x4.list.length c3e1, .bool x4.has, .bool x4.isNil]) rfl
        · intro Φ hΦ; refine G_sN _ _ rfl (Try.isAgg35 _) rfl H hCe1 (Try.sizeOf35 _) ?_; exact hΦ
        (try simp only [Act.put, List.setIfInBounds_toArray, List.set_cons_succ, List.set_cons_zero])
        refine OpG.list rfl ?_; refine G_alloc 35 rfl (Try.zeroValue35 _) H ?_; clear H; intro b8 w1 H; (try simp only [Value.cells] at H)
        (try simp only [Act.put, List.setIfInBounds_toArray, List.set_cons_succ, List.set_cons_zero])
        apply seq_op (V := .int .i64 (k4 : Int)) rfl
        · intro Φ hΦ; refine O_as rfl rfl ?_; exact hΦ
        (try simp only [Act.put, List.setIfInBounds_toArray, List.set_cons_succ, List.set_cons_zero])
        refine OpG.list rfl ?_; refine G_setNi 0 (c := [.int .i64 x4.kind, .string x4.key, .int .i64 x4.value, .slice A3e1 x4.list.length c3e1, .bool x4.has, .bool x4.isNil]) _ _ _ rfl (Try.sizeOf35 _) rfl rfl (by simp [Value.oneCell']) H rfl rfl ?_; clear H; intro w1 H; simp only [List.set_cons_succ, List.set_cons_zero] at H
        (try simp only [Act.put, List.setIfInBounds_toArray, List.set_cons_succ, List.set_cons_zero])
        refine list_end ?_
        refine then_norm ?_
        refine wp_seq ?_
        obtain ⟨u1, gx1, hq4⟩ := bs hq4
        obtain ⟨kk1, gk1, gl1, gd1⟩ := rdI_some gx1
        obtain ⟨be2, oe2, A3e2, c3e2, rfl, hCe2, h0e2, h1e2, h2e2, h3e2⟩ := kOp_el h_p1 gd1
        refine wp_region_lit ?_
        apply seq_op (V := .slice (some ⟨be2, oe2, none⟩) a1.length c_p1) rfl
        · intro Φ hΦ; refine O_mv rfl rfl ?_; exact hΦ
        (try simp only [Act.put, List.setIfInBounds_toArray, List.set_cons_succ, List.set_cons_zero])
        apply seq_op (V := .int .i64 (k4 : Int)) rfl
        · intro Φ hΦ; refine O_mv rfl rfl ?_; exact hΦ
        (try simp only [Act.put, List.setIfInBounds_toArray, List.set_cons_succ, List.set_cons_zero])
        apply seq_op (V := .pointer (some ⟨be2, oe2 + kk1 * 6, none⟩)) rfl
        · intro Φ hΦ; refine O_ix rfl Try.underlying28 (Try.sizeOf35 _) rfl rfl gk1 gl1 ?_; exact hΦ
        (try simp only [Act.put, List.setIfInBounds_toArray, List.set_cons_succ, List.set_cons_zero])
        apply seq_op (V := .agg #[.int .i64 u1.kind, .string u1.key, .int .i64 u1.value, .slice A3e2 u1.list.length c3e2, .bool u1.has, .bool u1.isNil]) rfl
        · intro Φ hΦ; refine G_sN _ _ rfl (Try.isAgg35 _) rfl H hCe2 (Try.sizeOf35 _) ?_; exact hΦ
        (try simp only [Act.put, List.setIfInBounds_toArray, List.set_cons_succ, List.set_cons_zero])
        refine OpG.list rfl ?_; refine G_alloc 35 rfl (Try.zeroValue35 _) H ?_; clear H; intro b9 w1 H; (try simp only [Value.cells] at H)
        (try simp only [Act.put, List.setIfInBounds_toArray, List.set_cons_succ, List.set_cons_zero])
        refine OpG.list rfl ?_; refine G_setNi 0 (c := [.int .i64 u1.kind, .string u1.key, .int .i64 u1.value, .slice A3e2 u1.list.length c3e2, .bool u1.has, .bool u1.isNil]) _ _ _ rfl (Try.sizeOf35 _) rfl rfl (by simp [Value.oneCell']) H rfl rfl ?_; clear H; intro w1 H; simp only [List.set_cons_succ, List.set_cons_zero] at H
        (try simp only [Act.put, List.setIfInBounds_toArray, List.set_cons_succ, List.set_cons_zero])
        refine list_end ?_
        refine then_norm ?_
        refine wp_seq ?_
        obtain ⟨u2, gx2, hq4⟩ := bs hq4
        refine wp_region_lit ?_
        apply seq_op (V := .func (.func 73) #[] #[]) rfl
        · intro Φ hΦ; refine O_mv rfl rfl ?_; exact hΦ
        (try simp only [Act.put, List.setIfInBounds_toArray, List.set_cons_succ, List.set_cons_zero])
        apply seq_op (V := .agg #[.int .i64 x4.kind, .string x4.key, .int .i64 x4.value, .slice A3e1 x4.list.length c3e1, .bool x4.has, .bool x4.isNil]) rfl
        · intro Φ hΦ; refine G_pNi 1 _ _ rfl (Try.isAgg35 _) rfl H rfl (Try.sizeOf35 _) ?_; exact hΦ
        (try simp only [Act.put, List.setIfInBounds_toArray, List.set_cons_succ, List.set_cons_zero])
        apply seq_op (V := .agg #[.int .i64 u1.kind, .string u1.key, .int .i64 u1.value, .slice A3e2 u1.list.length c3e2, .bool u1.has, .bool u1.isNil]) rfl
        · intro Φ hΦ; refine G_pNi 0 _ _ rfl (Try.isAgg35 _) rfl H rfl (Try.sizeOf35 _) ?_; exact hΦ
        (try simp only [Act.put, List.setIfInBounds_toArray, List.set_cons_succ, List.set_cons_zero])
        refine seq_call rfl (fun Φ hΦ => by refine O_callv2 (args := #[.agg #[.int .i64 x4.kind, .string x4.key, .int .i64 x4.value, .slice A3e1 x4.list.length c3e1, .bool x4.has, .bool x4.isNil], .agg #[.int .i64 u1.kind, .string u1.key, .int .i64 u1.value, .slice A3e2 u1.list.length c3e2, .bool u1.has, .bool u1.isNil]]) (v1 := .agg #[.int .i64 x4.kind, .string x4.key, .int .i64 x4.value, .slice A3e1 x4.list.length c3e1, .bool x4.has, .bool x4.isNil]) (v2 := .agg #[.int .i64 u1.kind, .string u1.key, .int .i64 u1.value, .slice A3e2 u1.list.length c3e2, .bool u1.has, .bool u1.isNil]) rfl Try.func73 rfl rfl rfl rfl rfl (by simp only [Array.append_empty]) hΦ) (assayerplain_SameOps_1_w (a0 := x4) (h_p0_list := h3e1) (a1 := u1) (h_p1_list := h3e2) (hm := gx2) (H := H)) ?_
        clear H
        rintro e w1 ⟨rfl, H⟩; refine ⟨_, rfl, ?_⟩
        (try simp only [Act.put, List.setIfInBounds_toArray, List.set_cons_succ, List.set_cons_zero])
        apply seq_op (V := .bool (!u2)) rfl
        · intro Φ hΦ; refine O_not rfl rfl ?_; exact hΦ
        (try simp only [Act.put, List.setIfInBounds_toArray, List.set_cons_succ, List.set_cons_zero])
        refine list_end ?_
        refine then_norm ?_
        refine wp_cond_split rfl (fun hc => ?_) (fun hc => ?_)
        · have hc3 := hc
          clear hc
          replace hq4 := ifT hc3 hq4
          refine wp_seq ?_
          refine wp_region_lit ?_
          apply seq_op (V := .bool false) rfl
          · intro Φ hΦ; refine O_as rfl rfl ?_; exact hΦ
          (try simp only [Act.put, List.setIfInBounds_toArray, List.set_cons_succ, List.set_cons_zero])
          refine list_end ?_
          refine then_norm ?_
          refine wp_ret ?_
          refine block_ret ?_
          refine then_ret ?_
          refine then_ret ?_
          refine block_ret ?_
          refine then_ret ?_
          have hq4 := Option.some.inj hq4
          subst hq4
          (try dsimp only at hm)
          have hm := Option.some.inj hm
          subst hm
          replace H := H.dropAt 1 rfl; simp only [List.eraseIdx_cons_succ, List.eraseIdx_cons_zero] at H
          replace H := H.dropAt 0 rfl; simp only [List.eraseIdx_cons_succ, List.eraseIdx_cons_zero] at H
          exact ret1 rfl (rv_tmp rfl) rfl ⟨rfl, H⟩
        · have hc3 := hc
          clear hc
          replace hq4 := ifF hc3 hq4
          refine wp_skip ?_
          refine block_norm ?_
          refine then_norm ?_
          refine wp_region_lit ?_
          apply seq_op (V := .int .i64 (IntKind.i64.wrap ((k4 : Int) + 1))) rfl
          · intro Φ hΦ; refine O_bin rfl rfl rfl eqg_int r_add ?_; exact hΦ
          (try simp only [Act.put, List.setIfInBounds_toArray, List.set_cons_succ, List.set_cons_zero])
          apply seq_op (V := .int .i64 (IntKind.i64.wrap ((k4 : Int) + 1))) rfl
          · intro Φ hΦ; refine O_mv rfl rfl ?_; exact hΦ
          (try simp only [Act.put, List.setIfInBounds_toArray, List.set_cons_succ, List.set_cons_zero])
          refine list_end ?_
          refine then_norm ?_
          replace H := H.drop
          replace H := H.drop
          refine ⟨⟨⟨rfl, rfl, rfl, rfl, rfl, rfl, rfl, rfl, rfl, rfl, rfl, rfl, rfl, rfl⟩, rfl⟩, ⟨k4 + 1, _, hd4'', wrap_succ hl4 hn4, hq4, H⟩, ?_⟩
          exact meas_succ hl4 hn4
      · have hc2 := hc
        clear hc
        obtain rfl := rng_f hd4 hc2
        rw [slices_EqualFunc_Op_assayerplain_SameOps_1_l4] at hq4
        refine wp_exit ?_
        refine then_exit ?_
        refine then_exit ?_
        have hq4 := Option.some.inj hq4
        subst hq4
        (try dsimp only at hm)
        refine block_exit ?_
        refine then_norm ?_
        refine wp_seq ?_
        refine wp_region_lit ?_
        apply seq_op (V := .bool true) rfl
        · intro Φ hΦ; refine O_as rfl rfl ?_; exact hΦ
        (try simp only [Act.put, List.setIfInBounds_toArray, List.set_cons_succ, List.set_cons_zero])
        refine list_end ?_
        refine then_norm ?_
        refine wp_ret ?_
        have hm := Option.some.inj hm
        subst hm
        exact ret1 rfl (rv_tmp rfl) rfl ⟨rfl, H⟩
def assayerplain_SameOps_f (a0 : List Op') (a1 : List Op') : Option Bool := (slices_EqualFunc_Op_assayerplain_SameOps_1_f a0 a1).bind fun u1 => some u1

set_option maxHeartbeats 4000000 in
theorem assayerplain_SameOps_w {E : World} {s : SH} {L : List HP} {w : World} {a0 : List Op'} {a1 : List Op'} {A_p0 : Option Addr} {c_p0 : Nat} (h_p0 : kOp.Sl s (.slice A_p0 a0.length c_p0) a0) {A_p1 : Option Addr} {c_p1 : Nat} (h_p1 : kOp.Sl s (.slice A_p1 a1.length c_p1) a1) {R : Bool} (hm : assayerplain_SameOps_f a0 a1 = some R) (H : Holds E s (L) w) :
    Calls Try.prog 39 #[.slice A_p0 a0.length c_p0, .slice A_p1 a1.length c_p1] w fun e w' => e = .returned (.bool R) ∧ Holds E s (L) w' := by
  unfold assayerplain_SameOps_f at hm
  go_enter Try.func39, Try.ntmps39
  refine wp_seq ?_
  refine wp_region_lit ?_
  apply seq_op (V := .bool false) rfl
  · intro Φ hΦ; refine O_as rfl rfl ?_; exact hΦ
  (try simp only [Act.put, List.setIfInBounds_toArray, List.set_cons_succ, List.set_cons_zero])
  refine list_end ?_
  refine then_norm ?_
  refine wp_seq ?_
  obtain ⟨u1, gx1, hm⟩ := bs hm
  refine wp_region_lit ?_
  apply seq_op (V := .slice A_p0 a0.length c_p0) rfl
  · intro Φ hΦ; refine O_mv rfl rfl ?_; exact hΦ
  (try simp only [Act.put, List.setIfInBounds_toArray, List.set_cons_succ, List.set_cons_zero])
  apply seq_op (V := .slice A_p1 a1.length c_p1) rfl
  · intro Φ hΦ; refine O_mv rfl rfl ?_; exact hΦ
  (try simp only [Act.put, List.setIfInBounds_toArray, List.set_cons_succ, List.set_cons_zero])
  refine seq_call rfl (fun Φ hΦ => by refine O_call3 rfl Try.func72 rfl rfl rfl rfl rfl hΦ) (slices_EqualFunc_Op_assayerplain_SameOps_1_w (a0 := a0) (h_p0 := h_p0) (a1 := a1) (h_p1 := h_p1) (hm := gx1) (H := H)) ?_
  clear H
  rintro e w1 ⟨rfl, H⟩; refine ⟨_, rfl, ?_⟩
  (try simp only [Act.put, List.setIfInBounds_toArray, List.set_cons_succ, List.set_cons_zero])
  apply seq_op (V := .bool u1) rfl
  · intro Φ hΦ; refine O_as rfl rfl ?_; exact hΦ
  (try simp only [Act.put, List.setIfInBounds_toArray, List.set_cons_succ, List.set_cons_zero])
  refine list_end ?_
  refine then_norm ?_
  refine wp_ret ?_
  have hm := Option.some.inj hm
  subst hm
  exact ret1 rfl (rv_tmp rfl) rfl ⟨rfl, H⟩
def assayerplain_SameEvents_1_f (a0 : Ev) (a1 : Ev) : Option Bool := if ((a0.kind == a1.kind) && (a0.proc == a1.proc)) = true then ((assayerplain_SameOps_f a0.ops a1.ops).bind fun u1 => some u1) else (some false)

set_option maxHeartbeats 4000000 in
theorem assayerplain_SameEvents_1_w {E : World} {s : SH} {L : List HP} {w : World} {a0 : Ev} {a1 : Ev} {A_p0_ops : Option Addr} {c_p0_ops : Nat} (h_p0_ops : kOp.Sl s (.slice A_p0_ops a0.ops.length c_p0_ops) a0.ops) {A_p1_ops : Option Addr} {c_p1_ops : Nat} (h_p1_ops : kOp.Sl s (.slice A_p1_ops a1.ops.length c_p1_ops) a1.ops) {R : Bool} (hm : assayerplain_SameEvents_1_f a0 a1 = some R) (H : Holds E s (L) w) :
    Calls Try.prog 87 #[.agg #[.int .i64 a0.kind, .int .i64 a0.proc, .slice A_p0_ops a0.ops.length c_p0_ops], .agg #[.int .i64 a1.kind, .int .i64 a1.proc, .slice A_p1_ops a1.ops.length c_p1_ops]] w fun e w' => e = .returned (.bool R) ∧ Holds E s (L) w' := by
  unfold assayerplain_SameEvents_1_f at hm
  go_enter Try.func87, Try.ntmps87
  refine wp_seq ?_
  refine wp_region_lit ?_
  refine OpG.list rfl ?_; refine B_x 87 _ rfl (v := .agg #[.int .i64 a0.kind, .int .i64 a0.proc, .slice A_p0_ops a0.ops.length c_p0_ops]) rfl H ?_; clear H; intro b2 w1 H; (try simp only [Value.cells] at H)
  (try simp only [Act.put, List.setIfInBounds_toArray, List.set_cons_succ, List.set_cons_zero])
  refine OpG.list rfl ?_; refine B_x 87 _ rfl (v := .agg #[.int .i64 a1.kind, .int .i64 a1.proc, .slice A_p1_ops a1.ops.length c_p1_ops]) rfl H ?_; clear H; intro b3 w1 H; (try simp only [Value.cells] at H)
  (try simp only [Act.put, List.setIfInBounds_toArray, List.set_cons_succ, List.set_cons_zero])
  apply seq_op (V := .bool false) rfl
  · intro Φ hΦ; refine O_as rfl rfl ?_; exact hΦ
  (try simp only [Act.put, List.setIfInBounds_toArray, List.set_cons_succ, List.set_cons_zero])
  refine list_end ?_
  refine then_norm ?_
  refine wp_seq ?_
  rcases Bool.eq_false_or_eq_true ((a0.kind == a1.kind) && (a0.proc == a1.proc)) with hg1 | hg1
  · replace hm := ifT hg1 hm
    obtain ⟨u1, gx1, hm⟩ := bs hm
    refine wp_region_lit ?_
    apply seq_op (V := .pointer (some ⟨b2, 0, none⟩)) rfl
    · intro Φ hΦ; refine O_fld rfl Try.underlying87 rfl (Try.sizeOf3 _) rfl ?_; exact hΦ
    (try simp only [Act.put, List.setIfInBounds_toArray, List.set_cons_succ, List.set_cons_zero])
    apply seq_op (V := .int .i64 a0.kind) rfl
    · intro Φ hΦ; refine L_1 1 _ _ rfl (Try.isAgg3 _) rfl H rfl rfl ?_; exact hΦ
    (try simp only [Act.put, List.setIfInBounds_toArray, List.set_cons_succ, List.set_cons_zero])
    apply seq_op (V := .pointer (some ⟨b3, 0, none⟩)) rfl
    · intro Φ hΦ; refine O_fld rfl Try.underlying87 rfl (Try.sizeOf3 _) rfl ?_; exact hΦ
    (try simp only [Act.put, List.setIfInBounds_toArray, List.set_cons_succ, List.set_cons_zero])
    apply seq_op (V := .int .i64 a1.kind) rfl
    · intro Φ hΦ; refine L_1 0 _ _ rfl (Try.isAgg3 _) rfl H rfl rfl ?_; exact hΦ
    (try simp only [Act.put, List.setIfInBounds_toArray, List.set_cons_succ, List.set_cons_zero])
    apply seq_op (V := .bool (a0.kind == a1.kind)) rfl
    · intro Φ hΦ; refine O_bin rfl rfl rfl eqg_int r_eql ?_; exact hΦ
    (try simp only [Act.put, List.setIfInBounds_toArray, List.set_cons_succ, List.set_cons_zero])
    apply seq_op (V := .bool (a0.kind == a1.kind)) rfl
    · intro Φ hΦ; refine O_mv rfl rfl ?_; exact hΦ
    (try simp only [Act.put, List.setIfInBounds_toArray, List.set_cons_succ, List.set_cons_zero])
    refine seq_opg (c := (a0.kind == a1.kind)) (V := .pointer (some ⟨b2, 1, none⟩)) (by first | exact wanted_t rfl rfl rfl | exact wanted_vt rfl rfl rfl) ?_ ?_
    · intro hc Φ hΦ; refine O_fld rfl Try.underlying87 rfl (Try.sizeOf3 _) rfl ?_; exact hΦ
    (try simp only [Act.put, List.setIfInBounds_toArray, List.set_cons_succ, List.set_cons_zero])
    refine seq_opg (c := (a0.kind == a1.kind)) (V := .int .i64 a0.proc) (by first | exact wanted_t rfl rfl rfl | exact wanted_vt rfl rfl rfl) ?_ ?_
    · intro hc Φ hΦ; (repeat (first | rw [vg_of hc] | rw [vg_of (and_l hc)] | rw [vg_of (and_l (and_l hc))] | rw [vg_of (and_l (and_l (and_l hc)))] | rw [vg_and hc])); refine L_1 1 _ _ rfl (Try.isAgg3 _) rfl H rfl rfl ?_; exact hΦ
    (try simp only [Act.put, List.setIfInBounds_toArray, List.set_cons_succ, List.set_cons_zero])
    refine seq_opg (c := (a0.kind == a1.kind)) (V := .pointer (some ⟨b3, 1, none⟩)) (by first | exact wanted_t rfl rfl rfl | exact wanted_vt rfl rfl rfl) ?_ ?_
    · intro hc Φ hΦ; refine O_fld rfl Try.underlying87 rfl (Try.sizeOf3 _) rfl ?_; exact hΦ
    (try simp only [Act.put, List.setIfInBounds_toArray, List.set_cons_succ, List.set_cons_zero])
    refine seq_opg (c := (a0.kind == a1.kind)) (V := .int .i64 a1.proc) (by first | exact wanted_t rfl rfl rfl | exact wanted_vt rfl rfl rfl) ?_ ?_
    · intro hc Φ hΦ; (repeat (first | rw [vg_of hc] | rw [vg_of (and_l hc)] | rw [vg_of (and_l (and_l hc))] | rw [vg_of (and_l (and_l (and_l hc)))] | rw [vg_and hc])); refine L_1 0 _ _ rfl (Try.isAgg3 _) rfl H rfl rfl ?_; exact hΦ
    (try simp only [Act.put, List.setIfInBounds_toArray, List.set_cons_succ, List.set_cons_zero])
    refine seq_opg (c := (a0.kind == a1.kind)) (V := .bool (a0.proc == a1.proc)) (by first | exact wanted_t rfl rfl rfl | exact wanted_vt rfl rfl rfl) ?_ ?_
    · intro hc Φ hΦ; (repeat (first | rw [vg_of hc] | rw [vg_of (and_l hc)] | rw [vg_of (and_l (and_l hc))] | rw [vg_of (and_l (and_l (and_l hc)))] | rw [vg_and hc])); refine O_bin rfl rfl rfl eqg_int r_eql ?_; exact hΦ
    (try simp only [Act.put, List.setIfInBounds_toArray, List.set_cons_succ, List.set_cons_zero])
    apply seq_op (V := .bool ((a0.kind == a1.kind) && (a0.proc == a1.proc))) rfl
    · intro Φ hΦ; refine G_and _ _ _ rfl rfl rfl rfl ?_; exact hΦ
    (try simp only [Act.put, List.setIfInBounds_toArray, List.set_cons_succ, List.set_cons_zero])
    apply seq_op (V := .bool ((a0.kind == a1.kind) && (a0.proc == a1.proc))) rfl
    · intro Φ hΦ; refine O_mv rfl rfl ?_; exact hΦ
    (try simp only [Act.put, List.setIfInBounds_toArray, List.set_cons_succ, List.set_cons_zero])
    refine seq_opw (V := .pointer (some ⟨b2, 2, none⟩)) ((wanted_t rfl rfl rfl).trans hg1) ?_ ?_
    · intro Φ hΦ; refine O_fld rfl Try.underlying87 rfl (Try.sizeOf28 _) rfl ?_; exact hΦ
    (try simp only [Act.put, List.setIfInBounds_toArray, List.set_cons_succ, List.set_cons_zero])
    refine seq_opw (V := .slice A_p0_ops a0.ops.length c_p0_ops) ((wanted_t rfl rfl rfl).trans hg1) ?_ ?_
    · intro Φ hΦ; refine L_1 1 _ _ rfl (Try.isAgg28 _) rfl H rfl rfl ?_; exact hΦ
    (try simp only [Act.put, List.setIfInBounds_toArray, List.set_cons_succ, List.set_cons_zero])
    refine seq_opw (V := .pointer (some ⟨b3, 2, none⟩)) ((wanted_t rfl rfl rfl).trans hg1) ?_ ?_
    · intro Φ hΦ; refine O_fld rfl Try.underlying87 rfl (Try.sizeOf28 _) rfl ?_; exact hΦ
    (try simp only [Act.put, List.setIfInBounds_toArray, List.set_cons_succ, List.set_cons_zero])
    refine seq_opw (V := .slice A_p1_ops a1.ops.length c_p1_ops) ((wanted_t rfl rfl rfl).trans hg1) ?_ ?_
    · intro Φ hΦ; refine L_1 0 _ _ rfl (Try.isAgg28 _) rfl H rfl rfl ?_; exact hΦ
    (try simp only [Act.put, List.setIfInBounds_toArray, List.set_cons_succ, List.set_cons_zero])
    refine seq_callw ((wanted_t rfl rfl rfl).trans hg1) (fun Φ hΦ => by refine O_call2 rfl Try.func39 rfl rfl rfl rfl hΦ) (assayerplain_SameOps_w (a0 := a0.ops) (h_p0 := h_p0_ops) (a1 := a1.ops) (h_p1 := h_p1_ops) (hm := gx1) (H := H)) ?_
    clear H
    rintro e w1 ⟨rfl, H⟩; refine ⟨_, rfl, ?_⟩
    (try simp only [Act.put, List.setIfInBounds_toArray, List.set_cons_succ, List.set_cons_zero])
    apply seq_op (V := .bool u1) rfl
    · intro Φ hΦ; refine O_pickT rfl rfl hg1 rfl ?_; exact hΦ
    (try simp only [Act.put, List.setIfInBounds_toArray, List.set_cons_succ, List.set_cons_zero])
    apply seq_op (V := .bool u1) rfl
    · intro Φ hΦ; refine O_as rfl rfl ?_; exact hΦ
    (try simp only [Act.put, List.setIfInBounds_toArray, List.set_cons_succ, List.set_cons_zero])
    refine list_end ?_
    refine then_norm ?_
    refine wp_ret ?_
    have hm := Option.some.inj hm
    subst hm
    replace H := H.dropAt 1 rfl; simp only [List.eraseIdx_cons_succ, List.eraseIdx_cons_zero] at H
    replace H := H.dropAt 0 rfl; simp only [List.eraseIdx_cons_succ, List.eraseIdx_cons_zero] at H
    exact ret1 rfl (rv_tmp rfl) rfl ⟨rfl, H⟩
  · replace hm := ifF hg1 hm
    refine wp_region_lit ?_
    apply seq_op (V := .pointer (some ⟨b2, 0, none⟩)) rfl
    · intro Φ hΦ; refine O_fld rfl Try.underlying87 rfl (Try.sizeOf3 _) rfl ?_; exact hΦ
    (try simp only [Act.put, List.setIfInBounds_toArray, List.set_cons_succ, List.set_cons_zero])
    apply seq_op (V := .int .i64 a0.kind) rfl
    · intro Φ hΦ; refine L_1 1 _ _ rfl (Try.isAgg3 _) rfl H rfl rfl ?_; exact hΦ
    (try simp only [Act.put, List.setIfInBounds_toArray, List.set_cons_succ, List.set_cons_zero])
    apply seq_op (V := .pointer (some ⟨b3, 0, none⟩)) rfl
    · intro Φ hΦ; refine O_fld rfl Try.underlying87 rfl (Try.sizeOf3 _) rfl ?_; exact hΦ
    (try simp only [Act.put, List.setIfInBounds_toArray, List.set_cons_succ, List.set_cons_zero])
    apply seq_op (V := .int .i64 a1.kind) rfl
    · intro Φ hΦ; refine L_1 0 _ _ rfl (Try.isAgg3 _) rfl H rfl rfl ?_; exact hΦ
    (try simp only [Act.put, List.setIfInBounds_toArray, List.set_cons_succ, List.set_cons_zero])
    apply seq_op (V := .bool (a0.kind == a1.kind)) rfl
    · intro Φ hΦ; refine O_bin rfl rfl rfl eqg_int r_eql ?_; exact hΦ
    (try simp only [Act.put, List.setIfInBounds_toArray, List.set_cons_succ, List.set_cons_zero])
    apply seq_op (V := .bool (a0.kind == a1.kind)) rfl
    · intro Φ hΦ; refine O_mv rfl rfl ?_; exact hΦ
    (try simp only [Act.put, List.setIfInBounds_toArray, List.set_cons_succ, List.set_cons_zero])
    refine seq_opg (c := (a0.kind == a1.kind)) (V := .pointer (some ⟨b2, 1, none⟩)) (by first | exact wanted_t rfl rfl rfl | exact wanted_vt rfl rfl rfl) ?_ ?_
    · intro hc Φ hΦ; refine O_fld rfl Try.underlying87 rfl (Try.sizeOf3 _) rfl ?_; exact hΦ
    (try simp only [Act.put, List.setIfInBounds_toArray, List.set_cons_succ, List.set_cons_zero])
    refine seq_opg (c := (a0.kind == a1.kind)) (V := .int .i64 a0.proc) (by first | exact wanted_t rfl rfl rfl | exact wanted_vt rfl rfl rfl) ?_ ?_
    · intro hc Φ hΦ; (repeat (first | rw [vg_of hc] | rw [vg_of (and_l hc)] | rw [vg_of (and_l (and_l hc))] | rw [vg_of (and_l (and_l (and_l hc)))] | rw [vg_and hc])); refine L_1 1 _ _ rfl (Try.isAgg3 _) rfl H rfl rfl ?_; exact hΦ
    (try simp only [Act.put, List.setIfInBounds_toArray, List.set_cons_succ, List.set_cons_zero])
    refine seq_opg (c := (a0.kind == a1.kind)) (V := .pointer (some ⟨b3, 1, none⟩)) (by first | exact wanted_t rfl rfl rfl | exact wanted_vt rfl rfl rfl) ?_ ?_
    · intro hc Φ hΦ; refine O_fld rfl Try.underlying87 rfl (Try.sizeOf3 _) rfl ?_; exact hΦ
    (try simp only [Act.put, List.setIfInBounds_toArray, List.set_cons_succ, List.set_cons_zero])
    refine seq_opg (c := (a0.kind == a1.kind)) (V := .int .i64 a1.proc) (by first | exact wanted_t rfl rfl rfl | exact wanted_vt rfl rfl rfl) ?_ ?_
    · intro hc Φ hΦ; (repeat (first | rw [vg_of hc] | rw [vg_of (and_l hc)] | rw [vg_of (and_l (and_l hc))] | rw [vg_of (and_l (and_l (and_l hc)))] | rw [vg_and hc])); refine L_1 0 _ _ rfl (Try.isAgg3 _) rfl H rfl rfl ?_; exact hΦ
    (try simp only [Act.put, List.setIfInBounds_toArray, List.set_cons_succ, List.set_cons_zero])
    refine seq_opg (c := (a0.kind == a1.kind)) (V := .bool (a0.proc == a1.proc)) (by first | exact wanted_t rfl rfl rfl | exact wanted_vt rfl rfl rfl) ?_ ?_
    · intro hc Φ hΦ; (repeat (first | rw [vg_of hc] | rw [vg_of (and_l hc)] | rw [vg_of (and_l (and_l hc))] | rw [vg_of (and_l (and_l (and_l hc)))] | rw [vg_and hc])); refine O_bin rfl rfl rfl eqg_int r_eql ?_; exact hΦ
    (try simp only [Act.put, List.setIfInBounds_toArray, List.set_cons_succ, List.set_cons_zero])
    apply seq_op (V := .bool ((a0.kind == a1.kind) && (a0.proc == a1.proc))) rfl
    · intro Φ hΦ; refine G_and _ _ _ rfl rfl rfl rfl ?_; exact hΦ
    (try simp only [Act.put, List.setIfInBounds_toArray, List.set_cons_succ, List.set_cons_zero])
    apply seq_op (V := .bool ((a0.kind == a1.kind) && (a0.proc == a1.proc))) rfl
    · intro Φ hΦ; refine O_mv rfl rfl ?_; exact hΦ
    (try simp only [Act.put, List.setIfInBounds_toArray, List.set_cons_succ, List.set_cons_zero])
    refine seq_skip ((wanted_t rfl rfl rfl).trans hg1) ?_
    (try simp only [Act.put, List.setIfInBounds_toArray, List.set_cons_succ, List.set_cons_zero])
    refine seq_skip ((wanted_t rfl rfl rfl).trans hg1) ?_
    (try simp only [Act.put, List.setIfInBounds_toArray, List.set_cons_succ, List.set_cons_zero])
    refine seq_skip ((wanted_t rfl rfl rfl).trans hg1) ?_
    (try simp only [Act.put, List.setIfInBounds_toArray, List.set_cons_succ, List.set_cons_zero])
    refine seq_skip ((wanted_t rfl rfl rfl).trans hg1) ?_
    (try simp only [Act.put, List.setIfInBounds_toArray, List.set_cons_succ, List.set_cons_zero])
    refine seq_skip ((wanted_t rfl rfl rfl).trans hg1) ?_
    (try simp only [Act.put, List.setIfInBounds_toArray, List.set_cons_succ, List.set_cons_zero])
    apply seq_op (V := .bool false) rfl
    · intro Φ hΦ; refine O_pickF rfl rfl hg1 rfl ?_; exact hΦ
    (try simp only [Act.put, List.setIfInBounds_toArray, List.set_cons_succ, List.set_cons_zero])
    apply seq_op (V := .bool false) rfl
    · intro Φ hΦ; refine O_as rfl rfl ?_; exact hΦ
    (try simp only [Act.put, List.setIfInBounds_toArray, List.set_cons_succ, List.set_cons_zero])
    refine list_end ?_
    refine then_norm ?_
    refine wp_ret ?_
    have hm := Option.some.inj hm
    subst hm
    replace H := H.dropAt 1 rfl; simp only [List.eraseIdx_cons_succ, List.eraseIdx_cons_zero] at H
    replace H := H.dropAt 0 rfl; simp only [List.eraseIdx_cons_succ, List.eraseIdx_cons_zero] at H
    exact ret1 rfl (rv_tmp rfl) rfl ⟨rfl, H⟩
def slices_EqualFunc_Event_assayerplain_SameEvents_1_l4 (a1 : List Ev) : Nat → List Ev → Option ((Bool ⊕ Unit))
  | k4, []  => some (.inr ())
  | k4, x4 :: r4 => (rdI a1 (k4 : Int)).bind fun u1 => (assayerplain_SameEvents_1_f x4 u1).bind fun u2 => if (!u2) = true then (some (.inl false)) else (slices_EqualFunc_Event_assayerplain_SameEvents_1_l4 a1 (k4 + 1) r4)

def slices_EqualFunc_Event_assayerplain_SameEvents_1_f (a0 : List Ev) (a1 : List Ev) : Option Bool := if ((a0.length : Int) != (a1.length : Int)) = true then (some false) else ((slices_EqualFunc_Event_assayerplain_SameEvents_1_l4 a1 0 a0).bind fun | .inl z4_r => (some z4_r) | .inr () => (some true))

set_option maxHeartbeats 4000000 in
theorem slices_EqualFunc_Event_assayerplain_SameEvents_1_w {E : World} {s : SH} {L : List HP} {w : World} {a0 : List Ev} {a1 : List Ev} {A_p0 : Option Addr} {c_p0 : Nat} (h_p0 : kEv.Sl s (.slice A_p0 a0.length c_p0) a0) {A_p1 : Option Addr} {c_p1 : Nat} (h_p1 : kEv.Sl s (.slice A_p1 a1.length c_p1) a1) {R : Bool} (hm : slices_EqualFunc_Event_assayerplain_SameEvents_1_f a0 a1 = some R) (H : Holds E s (L) w) :
    Calls Try.prog 86 #[.slice A_p0 a0.length c_p0, .slice A_p1 a1.length c_p1, .func (.func 87) #[] #[]] w fun e w' => e = .returned (.bool R) ∧ Holds E s (L) w' := by
  unfold slices_EqualFunc_Event_assayerplain_SameEvents_1_f at hm
  go_enter Try.func86, Try.ntmps86
  refine wp_seq ?_
  refine wp_region_lit ?_
  apply seq_op (V := .bool false) rfl
  · intro Φ hΦ; refine O_as rfl rfl ?_; exact hΦ
  (try simp only [Act.put, List.setIfInBounds_toArray, List.set_cons_succ, List.set_cons_zero])
  refine list_end ?_
  refine then_norm ?_
  refine wp_seq ?_
  refine wp_seq ?_
  refine wp_region_lit ?_
  apply seq_op (V := .slice A_p0 a0.length c_p0) rfl
  · intro Φ hΦ; refine O_mv rfl rfl ?_; exact hΦ
  (try simp only [Act.put, List.setIfInBounds_toArray, List.set_cons_succ, List.set_cons_zero])
  apply seq_op (V := .int .i64 (a0.length : Int)) rfl
  · intro Φ hΦ; refine O_len rfl Try.underlying73 rfl ?_; exact hΦ
  (try simp only [Act.put, List.setIfInBounds_toArray, List.set_cons_succ, List.set_cons_zero])
  apply seq_op (V := .slice A_p1 a1.length c_p1) rfl
  · intro Φ hΦ; refine O_mv rfl rfl ?_; exact hΦ
  (try simp only [Act.put, List.setIfInBounds_toArray, List.set_cons_succ, List.set_cons_zero])
  apply seq_op (V := .int .i64 (a1.length : Int)) rfl
  · intro Φ hΦ; refine O_len rfl Try.underlying73 rfl ?_; exact hΦ
  (try simp only [Act.put, List.setIfInBounds_toArray, List.set_cons_succ, List.set_cons_zero])
  apply seq_op (V := .bool ((a0.length : Int) != (a1.length : Int))) rfl
  · intro Φ hΦ; refine O_bin rfl rfl rfl eqg_int r_neq ?_; exact hΦ
  (try simp only [Act.put, List.setIfInBounds_toArray, List.set_cons_succ, List.set_cons_zero])
  refine list_end ?_
  refine then_norm ?_
  refine wp_cond_split rfl (fun hc => ?_) (fun hc => ?_)
  · have hc1 := hc
    clear hc
    replace hm := ifT hc1 hm
    refine wp_seq ?_
    refine wp_region_lit ?_
    apply seq_op (V := .bool false) rfl
    · intro Φ hΦ; refine O_as rfl rfl ?_; exact hΦ
    (try simp only [Act.put, List.setIfInBounds_toArray, List.set_cons_succ, List.set_cons_zero])
    refine list_end ?_
    refine then_norm ?_
    refine wp_ret ?_
    refine then_ret ?_
    have hm := Option.some.inj hm
    subst hm
    exact ret1 rfl (rv_tmp rfl) rfl ⟨rfl, H⟩
  · have hc1 := hc
    clear hc
    replace hm := ifF hc1 hm
    refine wp_skip ?_
    refine then_norm ?_
    refine wp_seq ?_
    refine wp_seq ?_
    refine wp_region_lit ?_
    apply seq_op (V := .slice A_p0 a0.length c_p0) rfl
    · intro Φ hΦ; refine O_mv rfl rfl ?_; exact hΦ
    (try simp only [Act.put, List.setIfInBounds_toArray, List.set_cons_succ, List.set_cons_zero])
    apply seq_op (V := .int .i64 (a0.length : Int)) rfl
    · intro Φ hΦ; refine O_len rfl Try.underlying73 rfl ?_; exact hΦ
    (try simp only [Act.put, List.setIfInBounds_toArray, List.set_cons_succ, List.set_cons_zero])
    apply seq_op (V := .int .i64 0) rfl
    · intro Φ hΦ; refine O_mv rfl rfl ?_; exact hΦ
    (try simp only [Act.put, List.setIfInBounds_toArray, List.set_cons_succ, List.set_cons_zero])
    refine list_end ?_
    refine then_norm ?_
    refine wp_block ?_
    obtain ⟨R4, hq4, hm⟩ := bs hm
    have hn4 := Nat.le_trans (len_le (d := kEv) h_p0 (by decide)) (by decide : (140737488355328 : Nat) ≤ 9223372036854775807)
    refine wp_loopF [none, none, none, none, none, none, some 6, some 7, some 8, some 9, none, none, none, none, none, none, none, some 17, some 18, some 19, some 20, some 21, some 22, some 23, some 24, some 25, some 26, some 27, some 28, some 29, some 30, some 31] rfl (by simp) (fun f w => ∃ (k4 : Nat) (r4 : List Ev), a0.drop k4 = r4 ∧ f 17 = .int .i64 (k4 : Int) ∧ slices_EqualFunc_Event_assayerplain_SameEvents_1_l4 a1 k4 r4 = some R4 ∧ Holds E s (L) w) (fun f w => a0.length - (intOf (f 17)).toNat) ?_ ?_
    · exact ⟨0, a0, rfl, rfl, hq4, H⟩
    · clear H
      intro f w hI
      obtain ⟨k4, r4, hd4, hf17, hq4', H⟩ := hI
      clear hq4; have hq4 := hq4'; clear hq4'
      simp only [ovm, mixM]
      simp only [hf17]; clear hf17
      refine wp_seq ?_
      refine wp_region_lit ?_
      apply seq_op (V := .bool (decide ((k4 : Int) < (a0.length : Int)))) rfl
      · intro Φ hΦ; refine O_bin rfl rfl rfl eqg_int r_lss ?_; exact hΦ
      (try simp only [Act.put, List.setIfInBounds_toArray, List.set_cons_succ, List.set_cons_zero])
      refine list_end ?_
      refine then_norm ?_
      refine wp_seq ?_
      refine wp_cond_split rfl (fun hc => ?_) (fun hc => ?_)
      · have hc2 := hc
        clear hc
        obtain ⟨x4, r4', rfl, hd4', hd4'', hl4⟩ := rng_t hd4 hc2
        rw [slices_EqualFunc_Event_assayerplain_SameEvents_1_l4] at hq4
        refine wp_skip ?_
        refine then_norm ?_
        refine wp_seq ?_
        refine wp_block ?_
        refine wp_seq ?_
        obtain ⟨be1, oe1, A2e1, c2e1, rfl, hCe1, h0e1, h1e1, h2e1⟩ := kEv_el h_p0 hd4'
        refine wp_region_lit ?_
        apply seq_op (V := .int .i64 (k4 : Int)) rfl
        · intro Φ hΦ; refine O_mv rfl rfl ?_; exact hΦ
        (try simp only [Act.put, List.setIfInBounds_toArray, List.set_cons_succ, List.set_cons_zero])
        apply seq_op (V := .pointer (some ⟨be1, oe1 + k4 * 3, none⟩)) rfl
        · intro Φ hΦ; refine O_ix rfl Try.underlying73 (Try.sizeOf87 _) rfl rfl rfl hl4 ?_; exact hΦ
        (try simp only [Act.put, List.setIfInBounds_toArray, List.set_cons_succ, List.set_cons_zero])
        apply seq_op (V := .agg #[.int .i64 x4.kind, .int .i64 x4.proc, .slice A2e1 x4.ops.length c2e1]) rfl
        · intro Φ hΦ; refine G_sN _ _ rfl (Try.isAgg87 _) rfl H hCe1 (Try.sizeOf87 _) ?_; exact hΦ
        (try simp only [Act.put, List.setIfInBounds_toArray, List.set_cons_succ, List.set_cons_zero])
        refine OpG.list rfl ?_; refine G_alloc 87 rfl (Try.zeroValue87 _) H ?_; clear H; intro b8 w1 H; (try simp only [Value.cells] at H)
        (try simp only [Act.put, List.setIfInBounds_toArray, List.set_cons_succ, List.set_cons_zero])
        apply seq_op (V := .int .i64 (k4 : Int)) rfl
        · intro Φ hΦ; refine O_as rfl rfl ?_; exact hΦ
        (try simp only [Act.put, List.setIfInBounds_toArray, List.set_cons_succ, List.set_cons_zero])
        refine OpG.list rfl ?_; refine G_setNi 0 (c := [.int .i64 x4.kind, .int .i64 x4.proc, .slice A2e1 x4.ops.length c2e1]) _ _ _ rfl (Try.sizeOf87 _) rfl rfl (by simp [Value.oneCell']) H rfl rfl ?_; clear H; intro w1 H; simp only [List.set_cons_succ, List.set_cons_zero] at H
        (try simp only [Act.put, List.setIfInBounds_toArray, List.set_cons_succ, List.set_cons_zero])
        refine list_end ?_
        refine then_norm ?_
        refine wp_seq ?_
        obtain ⟨u1, gx1, hq4⟩ := bs hq4
        obtain ⟨kk1, gk1, gl1, gd1⟩ := rdI_some gx1
        obtain ⟨be2, oe2, A2e2, c2e2, rfl, hCe2, h0e2, h1e2, h2e2⟩ := kEv_el h_p1 gd1
        refine wp_region_lit ?_
        apply seq_op (V := .slice (some ⟨be2, oe2, none⟩) a1.length c_p1) rfl
        · intro Φ hΦ; refine O_mv rfl rfl ?_; exact hΦ
        (try simp only [Act.put, List.setIfInBounds_toArray, List.set_cons_succ, List.set_cons_zero])
        apply seq_op (V := .int .i64 (k4 : Int)) rfl
        · intro Φ hΦ; refine O_mv rfl rfl ?_; exact hΦ
        (try simp only [Act.put, List.setIfInBounds_toArray, List.set_cons_succ, List.set_cons_zero])
        apply seq_op (V := .pointer (some ⟨be2, oe2 + kk1 * 3, none⟩)) rfl
        · intro Φ hΦ; refine O_ix rfl Try.underlying73 (Try.sizeOf87 _) rfl rfl gk1 gl1 ?_; exact hΦ
        (try simp only [Act.put, List.setIfInBounds_toArray, List.set_cons_succ, List.set_cons_zero])
        apply seq_op (V := .agg #[.int .i64 u1.kind, .int .i64 u1.proc, .slice A2e2 u1.ops.length c2e2]) rfl
        · intro Φ hΦ; refine G_sN _ _ rfl (Try.isAgg87 _) rfl H hCe2 (Try.sizeOf87 _) ?_; exact hΦ
        (try simp only [Act.put, List.setIfInBounds_toArray, List.set_cons_succ, List.set_cons_zero])
        refine OpG.list rfl ?_; refine G_alloc 87 rfl (Try.zeroValue87 _) H ?_; clear H; intro b9 w1 H; (try simp only [Value.cells] at H)
        (try simp only [Act.put, List.setIfInBounds_toArray, List.set_cons_succ, List.set_cons_zero])
        refine OpG.list rfl ?_; refine G_setNi 0 (c := [.int .i64 u1.kind, .int .i64 u1.proc, .slice A2e2 u1.ops.length c2e2]) _ _ _ rfl (Try.sizeOf87 _) rfl rfl (by simp [Value.oneCell']) H rfl rfl ?_; clear H; intro w1 H; simp only [List.set_cons_succ, List.set_cons_zero] at H
        (try simp only [Act.put, List.setIfInBounds_toArray, List.set_cons_succ, List.set_cons_zero])
        refine list_end ?_
        refine then_norm ?_
        refine wp_seq ?_
        obtain ⟨u2, gx2, hq4⟩ := bs hq4
        refine wp_region_lit ?_
        apply seq_op (V := .func (.func 87) #[] #[]) rfl
        · intro Φ hΦ; refine O_mv rfl rfl ?_; exact hΦ
        (try simp only [Act.put, List.setIfInBounds_toArray, List.set_cons_succ, List.set_cons_zero])
        apply seq_op (V := .agg #[.int .i64 x4.kind, .int .i64 x4.proc, .slice A2e1 x4.ops.length c2e1]) rfl
        · intro Φ hΦ; refine G_pNi 1 _ _ rfl (Try.isAgg87 _) rfl H rfl (Try.sizeOf87 _) ?_; exact hΦ
        (try simp only [Act.put, List.setIfInBounds_toArray, List.set_cons_succ, List.set_cons_zero])
        apply seq_op (V := .agg #[.int .i64 u1.kind, .int .i64 u1.proc, .slice A2e2 u1.ops.length c2e2]) rfl
        · intro Φ hΦ; refine G_pNi 0 _ _ rfl (Try.isAgg87 _) rfl H rfl (Try.sizeOf87 _) ?_; exact hΦ
        (try simp only [Act.put, List.setIfInBounds_toArray, List.set_cons_succ, List.set_cons_zero])
        refine seq_call rfl (fun Φ hΦ => by refine O_callv2 (args := #[.agg #[.int .i64 x4.kind, .int .i64 x4.proc, .slice A2e1 x4.ops.length c2e1], .agg #[.int .i64 u1.kind, .int .i64 u1.proc, .slice A2e2 u1.ops.length c2e2]]) (v1 := .agg #[.int .i64 x4.kind, .int .i64 x4.proc, .slice A2e1 x4.ops.length c2e1]) (v2 := .agg #[.int .i64 u1.kind, .int .i64 u1.proc, .slice A2e2 u1.ops.length c2e2]) rfl Try.func87 rfl rfl rfl rfl rfl (by simp only [Array.append_empty]) hΦ) (assayerplain_SameEvents_1_w (a0 := x4) (h_p0_ops := h2e1) (a1 := u1) (h_p1_ops := h2e2) (hm := gx2) (H := H)) ?_
        clear H
        rintro e w1 ⟨rfl, H⟩; refine ⟨_, rfl, ?_⟩
        (try simp only [Act.put, List.setIfInBounds_toArray, List.set_cons_succ, List.set_cons_zero])
        apply seq_op (V := .bool (!u2)) rfl
        · intro Φ hΦ; refine O_not rfl rfl ?_; exact hΦ
        (try simp only [Act.put, List.setIfInBounds_toArray, List.set_cons_succ, List.set_cons_zero])
        refine list_end ?_
        refine then_norm ?_
        refine wp_cond_split rfl (fun hc => ?_) (fun hc => ?_)
        · have hc3 := hc
          clear hc
          replace hq4 := ifT hc3 hq4
          refine wp_seq ?_
          refine wp_region_lit ?_
          apply seq_op (V := .bool false) rfl
          · intro Φ hΦ; refine O_as rfl rfl ?_; exact hΦ
          (try simp only [Act.put, List.setIfInBounds_toArray, List.set_cons_succ, List.set_cons_zero])
          refine list_end ?_
          refine then_norm ?_
          refine wp_ret ?_
          refine block_ret ?_
          refine then_ret ?_
          refine then_ret ?_
          refine block_ret ?_
          refine then_ret ?_
          have hq4 := Option.some.inj hq4
          subst hq4
          (try dsimp only at hm)
          have hm := Option.some.inj hm
          subst hm
          replace H := H.dropAt 1 rfl; simp only [List.eraseIdx_cons_succ, List.eraseIdx_cons_zero] at H
          replace H := H.dropAt 0 rfl; simp only [List.eraseIdx_cons_succ, List.eraseIdx_cons_zero] at H
          exact ret1 rfl (rv_tmp rfl) rfl ⟨rfl, H⟩
        · have hc3 := hc
          clear hc
          replace hq4 := ifF hc3 hq4
          refine wp_skip ?_
          refine block_norm ?_
          refine then_norm ?_
          refine wp_region_lit ?_
          apply seq_op (V := .int .i64 (IntKind.i64.wrap ((k4 : Int) + 1))) rfl
          · intro Φ hΦ; refine O_bin rfl rfl rfl eqg_int r_add ?_; exact hΦ
          (try simp only [Act.put, List.setIfInBounds_toArray, List.set_cons_succ, List.set_cons_zero])
          apply seq_op (V := .int .i64 (IntKind.i64.wrap ((k4 : Int) + 1))) rfl
          · intro Φ hΦ; refine O_mv rfl rfl ?_; exact hΦ
          (try simp only [Act.put, List.setIfInBounds_toArray, List.set_cons_succ, List.set_cons_zero])
          refine list_end ?_
          refine then_norm ?_
          replace H := H.drop
          replace H := H.drop
          refine ⟨⟨⟨rfl, rfl, rfl, rfl, rfl, rfl, rfl, rfl, rfl, rfl, rfl, rfl, rfl, rfl⟩, rfl⟩, ⟨k4 + 1, _, hd4'', wrap_succ hl4 hn4, hq4, H⟩, ?_⟩
          exact meas_succ hl4 hn4
      · have hc2 := hc
        clear hc
        obtain rfl := rng_f hd4 hc2
        rw [slices_EqualFunc_Event_assayerplain_SameEvents_1_l4] at hq4
        refine wp_exit ?_
        refine then_exit ?_
        refine then_exit ?_
        have hq4 := Option.some.inj hq4
        subst hq4
        (try dsimp only at hm)
        refine block_exit ?_
        refine then_norm ?_
        refine wp_seq ?_
        refine wp_region_lit ?_
        apply seq_op (V := .bool true) rfl
        · intro Φ hΦ; refine O_as rfl rfl ?_; exact hΦ
        (try simp only [Act.put, List.setIfInBounds_toArray, List.set_cons_succ, List.set_cons_zero])
        refine list_end ?_
        refine then_norm ?_
        refine wp_ret ?_
        have hm := Option.some.inj hm
        subst hm
        exact ret1 rfl (rv_tmp rfl) rfl ⟨rfl, H⟩
def assayerplain_SameEvents_f (a0 : List Ev) (a1 : List Ev) : Option Bool := (slices_EqualFunc_Event_assayerplain_SameEvents_1_f a0 a1).bind fun u1 => some u1

set_option maxHeartbeats 4000000 in
theorem assayerplain_SameEvents_w {E : World} {s : SH} {L : List HP} {w : World} {a0 : List Ev} {a1 : List Ev} {A_p0 : Option Addr} {c_p0 : Nat} (h_p0 : kEv.Sl s (.slice A_p0 a0.length c_p0) a0) {A_p1 : Option Addr} {c_p1 : Nat} (h_p1 : kEv.Sl s (.slice A_p1 a1.length c_p1) a1) {R : Bool} (hm : assayerplain_SameEvents_f a0 a1 = some R) (H : Holds E s (L) w) :
    Calls Try.prog 50 #[.slice A_p0 a0.length c_p0, .slice A_p1 a1.length c_p1] w fun e w' => e = .returned (.bool R) ∧ Holds E s (L) w' := by
  unfold assayerplain_SameEvents_f at hm
  go_enter Try.func50, Try.ntmps50
  refine wp_seq ?_
  refine wp_region_lit ?_
  apply seq_op (V := .bool false) rfl
  · intro Φ hΦ; refine O_as rfl rfl ?_; exact hΦ
  (try simp only [Act.put, List.setIfInBounds_toArray, List.set_cons_succ, List.set_cons_zero])
  refine list_end ?_
  refine then_norm ?_
  refine wp_seq ?_
  obtain ⟨u1, gx1, hm⟩ := bs hm
  refine wp_region_lit ?_
  apply seq_op (V := .slice A_p0 a0.length c_p0) rfl
  · intro Φ hΦ; refine O_mv rfl rfl ?_; exact hΦ
  (try simp only [Act.put, List.setIfInBounds_toArray, List.set_cons_succ, List.set_cons_zero])
  apply seq_op (V := .slice A_p1 a1.length c_p1) rfl
  · intro Φ hΦ; refine O_mv rfl rfl ?_; exact hΦ
  (try simp only [Act.put, List.setIfInBounds_toArray, List.set_cons_succ, List.set_cons_zero])
  refine seq_call rfl (fun Φ hΦ => by refine O_call3 rfl Try.func86 rfl rfl rfl rfl rfl hΦ) (slices_EqualFunc_Event_assayerplain_SameEvents_1_w (a0 := a0) (h_p0 := h_p0) (a1 := a1) (h_p1 := h_p1) (hm := gx1) (H := H)) ?_
  clear H
  rintro e w1 ⟨rfl, H⟩; refine ⟨_, rfl, ?_⟩
  (try simp only [Act.put, List.setIfInBounds_toArray, List.set_cons_succ, List.set_cons_zero])
  apply seq_op (V := .bool u1) rfl
  · intro Φ hΦ; refine O_as rfl rfl ?_; exact hΦ
  (try simp only [Act.put, List.setIfInBounds_toArray, List.set_cons_succ, List.set_cons_zero])
  refine list_end ?_
  refine then_norm ?_
  refine wp_ret ?_
  have hm := Option.some.inj hm
  subst hm
  exact ret1 rfl (rv_tmp rfl) rfl ⟨rfl, H⟩
def assayerlaw03_PairChecks_f (fuel : Nat) (a0 : List Ev) : Option Bool := (assayerplain_Events_f a0).bind fun u1 => (pair_Check_f u1).bind fun u2 => (assayerref03_Check_f fuel a0).bind fun u3 => if (assayerplain_Is_f u2 u3.1 u3.2) = true then ((assayerplain_SameEvents_f u1 a0).bind fun u4 => some u4) else (some false)

set_option maxHeartbeats 4000000 in
theorem assayerlaw03_PairChecks_w {E : World} {s : SH} {L : List HP} {w : World} {fuel : Nat} {a0 : List Ev} {A_p0 : Option Addr} {c_p0 : Nat} (h_p0 : kEv.Sl s (.slice A_p0 a0.length c_p0) a0) {R : Bool} (hm : assayerlaw03_PairChecks_f fuel a0 = some R) (H : Holds E s (L) w) :
    Calls Try.prog 10 #[.slice A_p0 a0.length c_p0] w fun e w' => e = .returned (.bool R) ∧ Holds E s (L) w' := by
  unfold assayerlaw03_PairChecks_f at hm
  go_enter Try.func10, Try.ntmps10
  refine wp_seq ?_
  refine wp_region_lit ?_
  apply seq_op (V := .bool false) rfl
  · intro Φ hΦ; refine O_as rfl rfl ?_; exact hΦ
  (try simp only [Act.put, List.setIfInBounds_toArray, List.set_cons_succ, List.set_cons_zero])
  refine list_end ?_
  refine then_norm ?_
  refine wp_seq ?_
  obtain ⟨u1, gx1, hm⟩ := bs hm
  refine wp_region_lit ?_
  apply seq_op (V := .slice A_p0 a0.length c_p0) rfl
  · intro Φ hΦ; refine O_mv rfl rfl ?_; exact hΦ
  (try simp only [Act.put, List.setIfInBounds_toArray, List.set_cons_succ, List.set_cons_zero])
  refine seq_call rfl (fun Φ hΦ => by refine O_call1 rfl Try.func46 rfl rfl rfl hΦ) (assayerplain_Events_w (a0 := a0) (h_p0 := h_p0) (hm := gx1) (H := H)) ?_
  clear H
  rintro e w1 ⟨Ar10, cr10, nr10, s1, rfl, hs', H⟩; refine ⟨_, rfl, ?_⟩
  obtain rfl := osl_len 0 H rfl
  replace h_p0 := h_p0.mono hs'
  have hS := hs'
  skip
  obtain ⟨s2, hs', H, hf1⟩ := Kin.Osl.fr H; replace hf1 := hf1.unsh hs'
  replace h_p0 := h_p0.mono hs'
  replace hS := hS.trans hs'
  (try simp only [Act.put, List.setIfInBounds_toArray, List.set_cons_succ, List.set_cons_zero])
  apply seq_op (V := .slice Ar10 u1.length cr10) rfl
  · intro Φ hΦ; refine O_as rfl rfl ?_; exact hΦ
  (try simp only [Act.put, List.setIfInBounds_toArray, List.set_cons_succ, List.set_cons_zero])
  refine list_end ?_
  refine then_norm ?_
  refine wp_seq ?_
  obtain ⟨u2, gx2, hm⟩ := bs hm
  refine wp_region_lit ?_
  apply seq_op (V := .slice Ar10 u1.length cr10) rfl
  · intro Φ hΦ; refine O_mv rfl rfl ?_; exact hΦ
  (try simp only [Act.put, List.setIfInBounds_toArray, List.set_cons_succ, List.set_cons_zero])
  refine seq_call rfl (fun Φ hΦ => by refine O_call1 rfl Try.func47 rfl rfl rfl hΦ) (pair_Check_w (a0 := u1) (h_p0 := hf1) (hm := gx2) (H := H)) ?_
  clear H
  rintro e w1 ⟨rfl, H⟩; refine ⟨_, rfl, ?_⟩
  (try simp only [Act.put, List.setIfInBounds_toArray, List.set_cons_succ, List.set_cons_zero])
  apply seq_op (V := encErr u2) rfl
  · intro Φ hΦ; refine O_as rfl rfl ?_; exact hΦ
  (try simp only [Act.put, List.setIfInBounds_toArray, List.set_cons_succ, List.set_cons_zero])
  refine list_end ?_
  refine then_norm ?_
  refine wp_seq ?_
  obtain ⟨u3, gx3, hm⟩ := bs hm
  refine wp_region_lit ?_
  apply seq_op (V := .slice A_p0 a0.length c_p0) rfl
  · intro Φ hΦ; refine O_mv rfl rfl ?_; exact hΦ
  (try simp only [Act.put, List.setIfInBounds_toArray, List.set_cons_succ, List.set_cons_zero])
  refine seq_call rfl (fun Φ hΦ => by refine O_call1 rfl Try.func48 rfl rfl rfl hΦ) (assayerref03_Check_w (fuel := fuel) (a0 := a0) (h_p0 := h_p0) (hm := gx3) (H := H)) ?_
  clear H
  rintro e w1 ⟨rfl, H⟩; refine ⟨_, rfl, ?_⟩
  (try simp only [Act.put, List.setIfInBounds_toArray, List.set_cons_succ, List.set_cons_zero])
  apply seq_op (V := .tuple #[.int .i64 u3.1, .int .i64 u3.2]) rfl
  · intro Φ hΦ; refine O_mv rfl rfl ?_; exact hΦ
  (try simp only [Act.put, List.setIfInBounds_toArray, List.set_cons_succ, List.set_cons_zero])
  apply seq_op (V := .int .i64 u3.1) rfl
  · intro Φ hΦ; refine O_ext rfl rfl rfl ?_; exact hΦ
  (try simp only [Act.put, List.setIfInBounds_toArray, List.set_cons_succ, List.set_cons_zero])
  apply seq_op (V := .int .i64 u3.2) rfl
  · intro Φ hΦ; refine O_ext rfl rfl rfl ?_; exact hΦ
  (try simp only [Act.put, List.setIfInBounds_toArray, List.set_cons_succ, List.set_cons_zero])
  apply seq_op (V := .int .i64 u3.1) rfl
  · intro Φ hΦ; refine O_as rfl rfl ?_; exact hΦ
  (try simp only [Act.put, List.setIfInBounds_toArray, List.set_cons_succ, List.set_cons_zero])
  apply seq_op (V := .int .i64 u3.2) rfl
  · intro Φ hΦ; refine O_as rfl rfl ?_; exact hΦ
  (try simp only [Act.put, List.setIfInBounds_toArray, List.set_cons_succ, List.set_cons_zero])
  refine list_end ?_
  refine then_norm ?_
  refine wp_seq ?_
  rcases Bool.eq_false_or_eq_true (assayerplain_Is_f u2 u3.1 u3.2) with hg1 | hg1
  · replace hm := ifT hg1 hm
    obtain ⟨u4, gx4, hm⟩ := bs hm
    refine wp_region_lit ?_
    apply seq_op (V := encErr u2) rfl
    · intro Φ hΦ; refine O_mv rfl rfl ?_; exact hΦ
    (try simp only [Act.put, List.setIfInBounds_toArray, List.set_cons_succ, List.set_cons_zero])
    apply seq_op (V := .int .i64 u3.1) rfl
    · intro Φ hΦ; refine O_mv rfl rfl ?_; exact hΦ
    (try simp only [Act.put, List.setIfInBounds_toArray, List.set_cons_succ, List.set_cons_zero])
    apply seq_op (V := .int .i64 u3.2) rfl
    · intro Φ hΦ; refine O_mv rfl rfl ?_; exact hΦ
    (try simp only [Act.put, List.setIfInBounds_toArray, List.set_cons_succ, List.set_cons_zero])
    refine seq_call rfl (fun Φ hΦ => by refine O_call3 rfl Try.func49 rfl rfl rfl rfl rfl hΦ) (assayerplain_Is_w (a0 := u2) (a1 := u3.1) (a2 := u3.2) (H := H)) ?_
    clear H
    rintro e w1 ⟨rfl, H⟩; refine ⟨_, rfl, ?_⟩
    (try simp only [Act.put, List.setIfInBounds_toArray, List.set_cons_succ, List.set_cons_zero])
    apply seq_op (V := .bool (assayerplain_Is_f u2 u3.1 u3.2)) rfl
    · intro Φ hΦ; refine O_mv rfl rfl ?_; exact hΦ
    (try simp only [Act.put, List.setIfInBounds_toArray, List.set_cons_succ, List.set_cons_zero])
    refine seq_opw (V := .slice Ar10 u1.length cr10) ((wanted_t rfl rfl rfl).trans hg1) ?_ ?_
    · intro Φ hΦ; refine O_mv rfl rfl ?_; exact hΦ
    (try simp only [Act.put, List.setIfInBounds_toArray, List.set_cons_succ, List.set_cons_zero])
    refine seq_opw (V := .slice A_p0 a0.length c_p0) ((wanted_t rfl rfl rfl).trans hg1) ?_ ?_
    · intro Φ hΦ; refine O_mv rfl rfl ?_; exact hΦ
    (try simp only [Act.put, List.setIfInBounds_toArray, List.set_cons_succ, List.set_cons_zero])
    refine seq_callw ((wanted_t rfl rfl rfl).trans hg1) (fun Φ hΦ => by refine O_call2 rfl Try.func50 rfl rfl rfl rfl hΦ) (assayerplain_SameEvents_w (a0 := u1) (h_p0 := hf1) (a1 := a0) (h_p1 := h_p0) (hm := gx4) (H := H)) ?_
    clear H
    rintro e w1 ⟨rfl, H⟩; refine ⟨_, rfl, ?_⟩
    (try simp only [Act.put, List.setIfInBounds_toArray, List.set_cons_succ, List.set_cons_zero])
    apply seq_op (V := .bool u4) rfl
    · intro Φ hΦ; refine O_pickT rfl rfl hg1 rfl ?_; exact hΦ
    (try simp only [Act.put, List.setIfInBounds_toArray, List.set_cons_succ, List.set_cons_zero])
    apply seq_op (V := .bool u4) rfl
    · intro Φ hΦ; refine O_as rfl rfl ?_; exact hΦ
    (try simp only [Act.put, List.setIfInBounds_toArray, List.set_cons_succ, List.set_cons_zero])
    refine list_end ?_
    refine then_norm ?_
    refine wp_ret ?_
    have hm := Option.some.inj hm
    subst hm
    replace H := H.forget hS
    exact ret1 rfl (rv_tmp rfl) rfl ⟨rfl, H⟩
  · replace hm := ifF hg1 hm
    refine wp_region_lit ?_
    apply seq_op (V := encErr u2) rfl
    · intro Φ hΦ; refine O_mv rfl rfl ?_; exact hΦ
    (try simp only [Act.put, List.setIfInBounds_toArray, List.set_cons_succ, List.set_cons_zero])
    apply seq_op (V := .int .i64 u3.1) rfl
    · intro Φ hΦ; refine O_mv rfl rfl ?_; exact hΦ
    (try simp only [Act.put, List.setIfInBounds_toArray, List.set_cons_succ, List.set_cons_zero])
    apply seq_op (V := .int .i64 u3.2) rfl
    · intro Φ hΦ; refine O_mv rfl rfl ?_; exact hΦ
    (try simp only [Act.put, List.setIfInBounds_toArray, List.set_cons_succ, List.set_cons_zero])
    refine seq_call rfl (fun Φ hΦ => by refine O_call3 rfl Try.func49 rfl rfl rfl rfl rfl hΦ) (assayerplain_Is_w (a0 := u2) (a1 := u3.1) (a2 := u3.2) (H := H)) ?_
    clear H
    rintro e w1 ⟨rfl, H⟩; refine ⟨_, rfl, ?_⟩
    (try simp only [Act.put, List.setIfInBounds_toArray, List.set_cons_succ, List.set_cons_zero])
    apply seq_op (V := .bool (assayerplain_Is_f u2 u3.1 u3.2)) rfl
    · intro Φ hΦ; refine O_mv rfl rfl ?_; exact hΦ
    (try simp only [Act.put, List.setIfInBounds_toArray, List.set_cons_succ, List.set_cons_zero])
    refine seq_skip ((wanted_t rfl rfl rfl).trans hg1) ?_
    (try simp only [Act.put, List.setIfInBounds_toArray, List.set_cons_succ, List.set_cons_zero])
    refine seq_skip ((wanted_t rfl rfl rfl).trans hg1) ?_
    (try simp only [Act.put, List.setIfInBounds_toArray, List.set_cons_succ, List.set_cons_zero])
    refine seq_skip ((wanted_t rfl rfl rfl).trans hg1) ?_
    (try simp only [Act.put, List.setIfInBounds_toArray, List.set_cons_succ, List.set_cons_zero])
    apply seq_op (V := .bool false) rfl
    · intro Φ hΦ; refine O_pickF rfl rfl hg1 rfl ?_; exact hΦ
    (try simp only [Act.put, List.setIfInBounds_toArray, List.set_cons_succ, List.set_cons_zero])
    apply seq_op (V := .bool false) rfl
    · intro Φ hΦ; refine O_as rfl rfl ?_; exact hΦ
    (try simp only [Act.put, List.setIfInBounds_toArray, List.set_cons_succ, List.set_cons_zero])
    refine list_end ?_
    refine then_norm ?_
    refine wp_ret ?_
    have hm := Option.some.inj hm
    subst hm
    replace H := H.forget hS
    exact ret1 rfl (rv_tmp rfl) rfl ⟨rfl, H⟩
def assayerlaw03_PairBegins_f (fuel : Nat) (a0 : List Ev) (a1 : Int) : Option Bool := (pair_Check_f a0).bind fun u1 => (assayerref03_Check_f fuel a0).bind fun u2 => (remI .u64 (IntKind.u64.wrap a1) (IntKind.u64.wrap (IntKind.i64.wrap ((a0.length : Int) + 1)))).bind fun u3 => (sliJ a0 (IntKind.i64.wrap u3)).bind fun u4 => (pair_Check_f u4).bind fun u5 => some ((assayerplain_Is_f u1 u2.1 u2.2) && ((u2.2 != 0) || ((u5).isNone)))

set_option maxHeartbeats 4000000 in
theorem assayerlaw03_PairBegins_w {E : World} {s : SH} {L : List HP} {w : World} {fuel : Nat} {a0 : List Ev} {a1 : Int} {A_p0 : Option Addr} {c_p0 : Nat} (h_p0 : kEv.Sl s (.slice A_p0 a0.length c_p0) a0) {R : Bool} (hm : assayerlaw03_PairBegins_f fuel a0 a1 = some R) (H : Holds E s (L) w) :
    Calls Try.prog 11 #[.slice A_p0 a0.length c_p0, .int .i64 a1] w fun e w' => e = .returned (.bool R) ∧ Holds E s (L) w' := by
  unfold assayerlaw03_PairBegins_f at hm
  go_enter Try.func11, Try.ntmps11
  refine wp_seq ?_
  refine wp_region_lit ?_
  apply seq_op (V := .bool false) rfl
  · intro Φ hΦ; refine O_as rfl rfl ?_; exact hΦ
  (try simp only [Act.put, List.setIfInBounds_toArray, List.set_cons_succ, List.set_cons_zero])
  refine list_end ?_
  refine then_norm ?_
  refine wp_seq ?_
  obtain ⟨u1, gx1, hm⟩ := bs hm
  refine wp_region_lit ?_
  apply seq_op (V := .slice A_p0 a0.length c_p0) rfl
  · intro Φ hΦ; refine O_mv rfl rfl ?_; exact hΦ
  (try simp only [Act.put, List.setIfInBounds_toArray, List.set_cons_succ, List.set_cons_zero])
  refine seq_call rfl (fun Φ hΦ => by refine O_call1 rfl Try.func47 rfl rfl rfl hΦ) (pair_Check_w (a0 := a0) (h_p0 := h_p0) (hm := gx1) (H := H)) ?_
  clear H
  rintro e w1 ⟨rfl, H⟩; refine ⟨_, rfl, ?_⟩
  (try simp only [Act.put, List.setIfInBounds_toArray, List.set_cons_succ, List.set_cons_zero])
  apply seq_op (V := encErr u1) rfl
  · intro Φ hΦ; refine O_as rfl rfl ?_; exact hΦ
  (try simp only [Act.put, List.setIfInBounds_toArray, List.set_cons_succ, List.set_cons_zero])
  refine list_end ?_
  refine then_norm ?_
  refine wp_seq ?_
  obtain ⟨u2, gx2, hm⟩ := bs hm
  refine wp_region_lit ?_
  apply seq_op (V := .slice A_p0 a0.length c_p0) rfl
  · intro Φ hΦ; refine O_mv rfl rfl ?_; exact hΦ
  (try simp only [Act.put, List.setIfInBounds_toArray, List.set_cons_succ, List.set_cons_zero])
  refine seq_call rfl (fun Φ hΦ => by refine O_call1 rfl Try.func48 rfl rfl rfl hΦ) (assayerref03_Check_w (fuel := fuel) (a0 := a0) (h_p0 := h_p0) (hm := gx2) (H := H)) ?_
  clear H
  rintro e w1 ⟨rfl, H⟩; refine ⟨_, rfl, ?_⟩
  (try simp only [Act.put, List.setIfInBounds_toArray, List.set_cons_succ, List.set_cons_zero])
  apply seq_op (V := .tuple #[.int .i64 u2.1, .int .i64 u2.2]) rfl
  · intro Φ hΦ; refine O_mv rfl rfl ?_; exact hΦ
  (try simp only [Act.put, List.setIfInBounds_toArray, List.set_cons_succ, List.set_cons_zero])
  apply seq_op (V := .int .i64 u2.1) rfl
  · intro Φ hΦ; refine O_ext rfl rfl rfl ?_; exact hΦ
  (try simp only [Act.put, List.setIfInBounds_toArray, List.set_cons_succ, List.set_cons_zero])
  apply seq_op (V := .int .i64 u2.2) rfl
  · intro Φ hΦ; refine O_ext rfl rfl rfl ?_; exact hΦ
  (try simp only [Act.put, List.setIfInBounds_toArray, List.set_cons_succ, List.set_cons_zero])
  apply seq_op (V := .int .i64 u2.1) rfl
  · intro Φ hΦ; refine O_as rfl rfl ?_; exact hΦ
  (try simp only [Act.put, List.setIfInBounds_toArray, List.set_cons_succ, List.set_cons_zero])
  apply seq_op (V := .int .i64 u2.2) rfl
  · intro Φ hΦ; refine O_as rfl rfl ?_; exact hΦ
  (try simp only [Act.put, List.setIfInBounds_toArray, List.set_cons_succ, List.set_cons_zero])
  refine list_end ?_
  refine then_norm ?_
  refine wp_seq ?_
  obtain ⟨u3, gx3, hm⟩ := bs hm
  obtain ⟨u4, gx4, hm⟩ := bs hm
  obtain ⟨kq1, hiq1, hkq1, hnq1, hsq1⟩ := slJ_sl h_p0 gx4
  obtain ⟨u5, gx5, hm⟩ := bs hm
  refine wp_region_lit ?_
  apply seq_op (V := .slice A_p0 a0.length c_p0) rfl
  · intro Φ hΦ; refine O_mv rfl rfl ?_; exact hΦ
  (try simp only [Act.put, List.setIfInBounds_toArray, List.set_cons_succ, List.set_cons_zero])
  apply seq_op (V := .int .i64 a1) rfl
  · intro Φ hΦ; refine O_mv rfl rfl ?_; exact hΦ
  (try simp only [Act.put, List.setIfInBounds_toArray, List.set_cons_succ, List.set_cons_zero])
  apply seq_op (V := .int .u64 (IntKind.u64.wrap a1)) rfl
  · intro Φ hΦ; refine O_cnv rfl (by rw [Try.underlying3]; rfl) Try.underlying31 rfl ?_; exact hΦ
  (try simp only [Act.put, List.setIfInBounds_toArray, List.set_cons_succ, List.set_cons_zero])
  apply seq_op (V := .slice A_p0 a0.length c_p0) rfl
  · intro Φ hΦ; refine O_mv rfl rfl ?_; exact hΦ
  (try simp only [Act.put, List.setIfInBounds_toArray, List.set_cons_succ, List.set_cons_zero])
  apply seq_op (V := .int .i64 (a0.length : Int)) rfl
  · intro Φ hΦ; refine O_len rfl Try.underlying73 rfl ?_; exact hΦ
  (try simp only [Act.put, List.setIfInBounds_toArray, List.set_cons_succ, List.set_cons_zero])
  apply seq_op (V := .int .i64 (IntKind.i64.wrap ((a0.length : Int) + 1))) rfl
  · intro Φ hΦ; refine O_bin rfl rfl rfl eqg_int r_add ?_; exact hΦ
  (try simp only [Act.put, List.setIfInBounds_toArray, List.set_cons_succ, List.set_cons_zero])
  apply seq_op (V := .int .u64 (IntKind.u64.wrap (IntKind.i64.wrap ((a0.length : Int) + 1)))) rfl
  · intro Φ hΦ; refine O_cnv rfl (by rw [Try.underlying3]; rfl) Try.underlying31 rfl ?_; exact hΦ
  (try simp only [Act.put, List.setIfInBounds_toArray, List.set_cons_succ, List.set_cons_zero])
  apply seq_op (V := .int .u64 u3) rfl
  · intro Φ hΦ; refine O_bin rfl rfl rfl eqg_int (r_rem gx3) ?_; exact hΦ
  (try simp only [Act.put, List.setIfInBounds_toArray, List.set_cons_succ, List.set_cons_zero])
  apply seq_op (V := .int .i64 (IntKind.i64.wrap u3)) rfl
  · intro Φ hΦ; refine O_cnv rfl (by rw [Try.underlying31]; rfl) Try.underlying3 rfl ?_; exact hΦ
  (try simp only [Act.put, List.setIfInBounds_toArray, List.set_cons_succ, List.set_cons_zero])
  apply seq_op (V := .slice A_p0 u4.length c_p0) rfl
  · intro Φ hΦ; refine O_slJ kEv_at rfl rfl rfl hiq1 hkq1 hnq1 ?_; exact hΦ
  (try simp only [Act.put, List.setIfInBounds_toArray, List.set_cons_succ, List.set_cons_zero])
  refine seq_call rfl (fun Φ hΦ => by refine O_call1 rfl Try.func47 rfl rfl rfl hΦ) (pair_Check_w (a0 := u4) (h_p0 := hsq1) (hm := gx5) (H := H)) ?_
  clear H
  rintro e w1 ⟨rfl, H⟩; refine ⟨_, rfl, ?_⟩
  (try simp only [Act.put, List.setIfInBounds_toArray, List.set_cons_succ, List.set_cons_zero])
  apply seq_op (V := encErr u5) rfl
  · intro Φ hΦ; refine O_as rfl rfl ?_; exact hΦ
  (try simp only [Act.put, List.setIfInBounds_toArray, List.set_cons_succ, List.set_cons_zero])
  refine list_end ?_
  refine then_norm ?_
  refine wp_seq ?_
  refine wp_region_lit ?_
  apply seq_op (V := encErr u1) rfl
  · intro Φ hΦ; refine O_mv rfl rfl ?_; exact hΦ
  (try simp only [Act.put, List.setIfInBounds_toArray, List.set_cons_succ, List.set_cons_zero])
  apply seq_op (V := .int .i64 u2.1) rfl
  · intro Φ hΦ; refine O_mv rfl rfl ?_; exact hΦ
  (try simp only [Act.put, List.setIfInBounds_toArray, List.set_cons_succ, List.set_cons_zero])
  apply seq_op (V := .int .i64 u2.2) rfl
  · intro Φ hΦ; refine O_mv rfl rfl ?_; exact hΦ
  (try simp only [Act.put, List.setIfInBounds_toArray, List.set_cons_succ, List.set_cons_zero])
  refine seq_call rfl (fun Φ hΦ => by refine O_call3 rfl Try.func49 rfl rfl rfl rfl rfl hΦ) (assayerplain_Is_w (a0 := u1) (a1 := u2.1) (a2 := u2.2) (H := H)) ?_
  clear H
  rintro e w1 ⟨rfl, H⟩; refine ⟨_, rfl, ?_⟩
  (try simp only [Act.put, List.setIfInBounds_toArray, List.set_cons_succ, List.set_cons_zero])
  apply seq_op (V := .bool (assayerplain_Is_f u1 u2.1 u2.2)) rfl
  · intro Φ hΦ; refine O_mv rfl rfl ?_; exact hΦ
  (try simp only [Act.put, List.setIfInBounds_toArray, List.set_cons_succ, List.set_cons_zero])
  refine seq_opg (c := (assayerplain_Is_f u1 u2.1 u2.2)) (V := .int .i64 u2.2) (by first | exact wanted_t rfl rfl rfl | exact wanted_vt rfl rfl rfl) ?_ ?_
  · intro hc Φ hΦ; refine O_mv rfl rfl ?_; exact hΦ
  (try simp only [Act.put, List.setIfInBounds_toArray, List.set_cons_succ, List.set_cons_zero])
  refine seq_opg (c := (assayerplain_Is_f u1 u2.1 u2.2)) (V := .bool (u2.2 != 0)) (by first | exact wanted_t rfl rfl rfl | exact wanted_vt rfl rfl rfl) ?_ ?_
  · intro hc Φ hΦ; (repeat (first | rw [vg_of hc] | rw [vg_of (and_l hc)] | rw [vg_of (and_l (and_l hc))] | rw [vg_of (and_l (and_l (and_l hc)))] | rw [vg_and hc])); refine O_bin rfl rfl rfl eqg_int r_neq ?_; exact hΦ
  (try simp only [Act.put, List.setIfInBounds_toArray, List.set_cons_succ, List.set_cons_zero])
  refine seq_opg (c := (assayerplain_Is_f u1 u2.1 u2.2)) (V := .bool (u2.2 != 0)) (by first | exact wanted_t rfl rfl rfl | exact wanted_vt rfl rfl rfl) ?_ ?_
  · intro hc Φ hΦ; (repeat (first | rw [vg_of hc] | rw [vg_of (and_l hc)] | rw [vg_of (and_l (and_l hc))] | rw [vg_of (and_l (and_l (and_l hc)))] | rw [vg_and hc])); refine O_mv rfl rfl ?_; exact hΦ
  (try simp only [Act.put, List.setIfInBounds_toArray, List.set_cons_succ, List.set_cons_zero])
  refine seq_opg (c := ((assayerplain_Is_f u1 u2.1 u2.2) && !(u2.2 != 0))) (V := encErr u5) (by first | exact wanted_f rfl rfl rfl | exact wanted_vf rfl rfl rfl) ?_ ?_
  · intro hc Φ hΦ; refine O_mv rfl rfl ?_; exact hΦ
  (try simp only [Act.put, List.setIfInBounds_toArray, List.set_cons_succ, List.set_cons_zero])
  refine seq_opg (c := ((assayerplain_Is_f u1 u2.1 u2.2) && !(u2.2 != 0))) (V := .bool ((u5).isNone)) (by first | exact wanted_f rfl rfl rfl | exact wanted_vf rfl rfl rfl) ?_ ?_
  · intro hc Φ hΦ; (repeat (first | rw [vg_of hc] | rw [vg_of (and_l hc)] | rw [vg_of (and_l (and_l hc))] | rw [vg_of (and_l (and_l (and_l hc)))] | rw [vg_and hc])); refine O_bin rfl rfl rfl eqg_err (r_enil Try.underlying76) ?_; exact hΦ
  (try simp only [Act.put, List.setIfInBounds_toArray, List.set_cons_succ, List.set_cons_zero])
  refine seq_opg (c := (assayerplain_Is_f u1 u2.1 u2.2)) (V := .bool ((u2.2 != 0) || ((u5).isNone))) (by first | exact wanted_t rfl rfl rfl | exact wanted_vt rfl rfl rfl) ?_ ?_
  · intro hc Φ hΦ; (repeat (first | rw [vg_of hc] | rw [vg_of (and_l hc)] | rw [vg_of (and_l (and_l hc))] | rw [vg_of (and_l (and_l (and_l hc)))] | rw [vg_and hc])); refine G_or _ _ _ rfl rfl rfl rfl ?_; exact hΦ
  (try simp only [Act.put, List.setIfInBounds_toArray, List.set_cons_succ, List.set_cons_zero])
  apply seq_op (V := .bool ((assayerplain_Is_f u1 u2.1 u2.2) && ((u2.2 != 0) || ((u5).isNone)))) rfl
  · intro Φ hΦ; refine G_and _ _ _ rfl rfl rfl rfl ?_; exact hΦ
  (try simp only [Act.put, List.setIfInBounds_toArray, List.set_cons_succ, List.set_cons_zero])
  apply seq_op (V := .bool ((assayerplain_Is_f u1 u2.1 u2.2) && ((u2.2 != 0) || ((u5).isNone)))) rfl
  · intro Φ hΦ; refine O_as rfl rfl ?_; exact hΦ
  (try simp only [Act.put, List.setIfInBounds_toArray, List.set_cons_succ, List.set_cons_zero])
  refine list_end ?_
  refine then_norm ?_
  refine wp_ret ?_
  have hm := Option.some.inj hm
  subst hm
  exact ret1 rfl (rv_tmp rfl) rfl ⟨rfl, H⟩
def assayerlaw03_PairGone_l7 (u2 : Int × Int) : Nat → List Ev → (Int → Option Bool) → (Int → Option Bool) → (Bool ⊕ ((Int → Option Bool) × (Int → Option Bool)))
  | k7, [] , y7_p0, y7_p1 => .inr (y7_p0, y7_p1)
  | k7, x7 :: r7, y7_p0, y7_p1 => if ((u2.2 == 0) && (((y7_p1 x7.proc).getD false) || (!(((y7_p0 x7.proc).getD false) == (x7.kind != 1))))) = true then (.inl false) else (assayerlaw03_PairGone_l7 u2 (k7 + 1) r7 (fset y7_p0 x7.proc (x7.kind == 1)) (fset y7_p1 x7.proc (x7.kind == 4)))

def assayerlaw03_PairGone_f (fuel : Nat) (a0 : List Ev) : Option Bool := (pair_Check_f a0).bind fun u1 => (assayerref03_Check_f fuel a0).bind fun u2 => if (!(assayerplain_Is_f u1 u2.1 u2.2)) = true then (some false) else (letF (assayerlaw03_PairGone_l7 u2 0 a0 fnil fnil) fun | .inl z7_r => (some z7_r) | .inr (z7_p0, z7_p1) => (some true))

set_option maxHeartbeats 4000000 in
theorem assayerlaw03_PairGone_w {E : World} {s : SH} {L : List HP} {w : World} {fuel : Nat} {a0 : List Ev} {A_p0 : Option Addr} {c_p0 : Nat} (h_p0 : kEv.Sl s (.slice A_p0 a0.length c_p0) a0) {R : Bool} (hm : assayerlaw03_PairGone_f fuel a0 = some R) (H : Holds E s (L) w) :
    Calls Try.prog 12 #[.slice A_p0 a0.length c_p0] w fun e w' => e = .returned (.bool R) ∧ Holds E s (L) w' := by
  unfold assayerlaw03_PairGone_f at hm
  go_enter Try.func12, Try.ntmps12
  refine wp_seq ?_
  refine wp_region_lit ?_
  apply seq_op (V := .bool false) rfl
  · intro Φ hΦ; refine O_as rfl rfl ?_; exact hΦ
  (try simp only [Act.put, List.setIfInBounds_toArray, List.set_cons_succ, List.set_cons_zero])
  refine list_end ?_
  refine then_norm ?_
  refine wp_seq ?_
  obtain ⟨u1, gx1, hm⟩ := bs hm
  refine wp_region_lit ?_
  apply seq_op (V := .slice A_p0 a0.length c_p0) rfl
  · intro Φ hΦ; refine O_mv rfl rfl ?_; exact hΦ
  (try simp only [Act.put, List.setIfInBounds_toArray, List.set_cons_succ, List.set_cons_zero])
  refine seq_call rfl (fun Φ hΦ => by refine O_call1 rfl Try.func47 rfl rfl rfl hΦ) (pair_Check_w (a0 := a0) (h_p0 := h_p0) (hm := gx1) (H := H)) ?_
  clear H
  rintro e w1 ⟨rfl, H⟩; refine ⟨_, rfl, ?_⟩
  (try simp only [Act.put, List.setIfInBounds_toArray, List.set_cons_succ, List.set_cons_zero])
  apply seq_op (V := encErr u1) rfl
  · intro Φ hΦ; refine O_as rfl rfl ?_; exact hΦ
  (try simp only [Act.put, List.setIfInBounds_toArray, List.set_cons_succ, List.set_cons_zero])
  refine list_end ?_
  refine then_norm ?_
  refine wp_seq ?_
  obtain ⟨u2, gx2, hm⟩ := bs hm
  refine wp_region_lit ?_
  apply seq_op (V := .slice A_p0 a0.length c_p0) rfl
  · intro Φ hΦ; refine O_mv rfl rfl ?_; exact hΦ
  (try simp only [Act.put, List.setIfInBounds_toArray, List.set_cons_succ, List.set_cons_zero])
  refine seq_call rfl (fun Φ hΦ => by refine O_call1 rfl Try.func48 rfl rfl rfl hΦ) (assayerref03_Check_w (fuel := fuel) (a0 := a0) (h_p0 := h_p0) (hm := gx2) (H := H)) ?_
  clear H
  rintro e w1 ⟨rfl, H⟩; refine ⟨_, rfl, ?_⟩
  (try simp only [Act.put, List.setIfInBounds_toArray, List.set_cons_succ, List.set_cons_zero])
  apply seq_op (V := .tuple #[.int .i64 u2.1, .int .i64 u2.2]) rfl
  · intro Φ hΦ; refine O_mv rfl rfl ?_; exact hΦ
  (try simp only [Act.put, List.setIfInBounds_toArray, List.set_cons_succ, List.set_cons_zero])
  apply seq_op (V := .int .i64 u2.1) rfl
  · intro Φ hΦ; refine O_ext rfl rfl rfl ?_; exact hΦ
  (try simp only [Act.put, List.setIfInBounds_toArray, List.set_cons_succ, List.set_cons_zero])
  apply seq_op (V := .int .i64 u2.2) rfl
  · intro Φ hΦ; refine O_ext rfl rfl rfl ?_; exact hΦ
  (try simp only [Act.put, List.setIfInBounds_toArray, List.set_cons_succ, List.set_cons_zero])
  apply seq_op (V := .int .i64 u2.1) rfl
  · intro Φ hΦ; refine O_as rfl rfl ?_; exact hΦ
  (try simp only [Act.put, List.setIfInBounds_toArray, List.set_cons_succ, List.set_cons_zero])
  apply seq_op (V := .int .i64 u2.2) rfl
  · intro Φ hΦ; refine O_as rfl rfl ?_; exact hΦ
  (try simp only [Act.put, List.setIfInBounds_toArray, List.set_cons_succ, List.set_cons_zero])
  refine list_end ?_
  refine then_norm ?_
  refine wp_seq ?_
  refine wp_seq ?_
  refine wp_region_lit ?_
  apply seq_op (V := encErr u1) rfl
  · intro Φ hΦ; refine O_mv rfl rfl ?_; exact hΦ
  (try simp only [Act.put, List.setIfInBounds_toArray, List.set_cons_succ, List.set_cons_zero])
  apply seq_op (V := .int .i64 u2.1) rfl
  · intro Φ hΦ; refine O_mv rfl rfl ?_; exact hΦ
  (try simp only [Act.put, List.setIfInBounds_toArray, List.set_cons_succ, List.set_cons_zero])
  apply seq_op (V := .int .i64 u2.2) rfl
  · intro Φ hΦ; refine O_mv rfl rfl ?_; exact hΦ
  (try simp only [Act.put, List.setIfInBounds_toArray, List.set_cons_succ, List.set_cons_zero])
  refine seq_call rfl (fun Φ hΦ => by refine O_call3 rfl Try.func49 rfl rfl rfl rfl rfl hΦ) (assayerplain_Is_w (a0 := u1) (a1 := u2.1) (a2 := u2.2) (H := H)) ?_
  clear H
  rintro e w1 ⟨rfl, H⟩; refine ⟨_, rfl, ?_⟩
  (try simp only [Act.put, List.setIfInBounds_toArray, List.set_cons_succ, List.set_cons_zero])
  apply seq_op (V := .bool (!(assayerplain_Is_f u1 u2.1 u2.2))) rfl
  · intro Φ hΦ; refine O_not rfl rfl ?_; exact hΦ
  (try simp only [Act.put, List.setIfInBounds_toArray, List.set_cons_succ, List.set_cons_zero])
  refine list_end ?_
  refine then_norm ?_
  refine wp_cond_split rfl (fun hc => ?_) (fun hc => ?_)
  · have hc1 := hc
    clear hc
    replace hm := ifT hc1 hm
    refine wp_seq ?_
    refine wp_region_lit ?_
    apply seq_op (V := .bool false) rfl
    · intro Φ hΦ; refine O_as rfl rfl ?_; exact hΦ
    (try simp only [Act.put, List.setIfInBounds_toArray, List.set_cons_succ, List.set_cons_zero])
    refine list_end ?_
    refine then_norm ?_
    refine wp_ret ?_
    refine then_ret ?_
    have hm := Option.some.inj hm
    subst hm
    exact ret1 rfl (rv_tmp rfl) rfl ⟨rfl, H⟩
  · have hc1 := hc
    clear hc
    replace hm := ifF hc1 hm
    refine wp_skip ?_
    refine then_norm ?_
    refine wp_seq ?_
    refine wp_region_lit ?_
    refine OpG.list rfl ?_; refine F_make (K := kcI) (V := vcB) 85 rfl H ?_; clear H; intro r22 w1 H
    (try simp only [Act.put, List.setIfInBounds_toArray, List.set_cons_succ, List.set_cons_zero])
    refine OpG.list rfl ?_; refine F_make (K := kcI) (V := vcB) 85 rfl H ?_; clear H; intro r23 w1 H
    (try simp only [Act.put, List.setIfInBounds_toArray, List.set_cons_succ, List.set_cons_zero])
    apply seq_op (V := .map (some r22)) rfl
    · intro Φ hΦ; refine O_as rfl rfl ?_; exact hΦ
    (try simp only [Act.put, List.setIfInBounds_toArray, List.set_cons_succ, List.set_cons_zero])
    apply seq_op (V := .map (some r23)) rfl
    · intro Φ hΦ; refine O_as rfl rfl ?_; exact hΦ
    (try simp only [Act.put, List.setIfInBounds_toArray, List.set_cons_succ, List.set_cons_zero])
    refine list_end ?_
    refine then_norm ?_
    refine wp_seq ?_
    refine wp_seq ?_
    refine wp_region_lit ?_
    apply seq_op (V := .slice A_p0 a0.length c_p0) rfl
    · intro Φ hΦ; refine O_mv rfl rfl ?_; exact hΦ
    (try simp only [Act.put, List.setIfInBounds_toArray, List.set_cons_succ, List.set_cons_zero])
    apply seq_op (V := .int .i64 (a0.length : Int)) rfl
    · intro Φ hΦ; refine O_len rfl Try.underlying73 rfl ?_; exact hΦ
    (try simp only [Act.put, List.setIfInBounds_toArray, List.set_cons_succ, List.set_cons_zero])
    apply seq_op (V := .int .i64 0) rfl
    · intro Φ hΦ; refine O_mv rfl rfl ?_; exact hΦ
    (try simp only [Act.put, List.setIfInBounds_toArray, List.set_cons_succ, List.set_cons_zero])
    refine list_end ?_
    refine then_norm ?_
    refine wp_block ?_
    obtain ⟨R7, hq7, hm⟩ := lfe hm
    have hn7 := Nat.le_trans (len_le (d := kEv) h_p0 (by decide)) (by decide : (140737488355328 : Nat) ≤ 9223372036854775807)
    refine wp_loopF [none, none, some 2, none, none, none, none, none, none, some 9, none, none, none, none, none, none, none, none, none, none, none, none, none, none, none, none, some 26, some 27, some 28, some 29, some 30, some 31, some 32, some 33, some 34, some 35, some 36, some 37, some 38, some 39, some 40, some 41, some 42, some 43, some 44, some 45, some 46, some 47, some 48, some 49, some 50, some 51, some 52, some 53, some 54, some 55, some 56, some 57, some 58, some 59, some 60] rfl (by simp) (fun f w => ∃ (k7 : Nat) (r7 : List Ev) (y7_p0 : Int → Option Bool) (y7_p1 : Int → Option Bool), a0.drop k7 = r7 ∧ f 26 = .int .i64 (k7 : Int) ∧ assayerlaw03_PairGone_l7 u2 k7 r7 y7_p0 y7_p1 = R7 ∧ Holds E s (mpF kcI vcB r23 y7_p0 :: mpF kcI vcB r22 y7_p1 :: L) w) (fun f w => a0.length - (intOf (f 26)).toNat) ?_ ?_
    · exact ⟨0, a0, fnil, fnil, rfl, rfl, hq7, H⟩
    · clear H
      intro f w hI
      obtain ⟨k7, r7, y7_p0, y7_p1, hd7, hf26, hq7', H⟩ := hI
      clear hq7; have hq7 := hq7'; clear hq7'
      simp only [ovm, mixM]
      simp only [hf26]; clear hf26
      refine wp_seq ?_
      refine wp_region_lit ?_
      apply seq_op (V := .bool (decide ((k7 : Int) < (a0.length : Int)))) rfl
      · intro Φ hΦ; refine O_bin rfl rfl rfl eqg_int r_lss ?_; exact hΦ
      (try simp only [Act.put, List.setIfInBounds_toArray, List.set_cons_succ, List.set_cons_zero])
      refine list_end ?_
      refine then_norm ?_
      refine wp_seq ?_
      refine wp_cond_split rfl (fun hc => ?_) (fun hc => ?_)
      · have hc2 := hc
        clear hc
        obtain ⟨x7, r7', rfl, hd7', hd7'', hl7⟩ := rng_t hd7 hc2
        rw [assayerlaw03_PairGone_l7] at hq7
        refine wp_skip ?_
        refine then_norm ?_
        refine wp_seq ?_
        refine wp_block ?_
        refine wp_seq ?_
        obtain ⟨be1, oe1, A2e1, c2e1, rfl, hCe1, h0e1, h1e1, h2e1⟩ := kEv_el h_p0 hd7'
        refine wp_region_lit ?_
        apply seq_op (V := .pointer (some ⟨be1, oe1 + k7 * 3, none⟩)) rfl
        · intro Φ hΦ; refine O_ix rfl Try.underlying73 (Try.sizeOf87 _) rfl rfl rfl hl7 ?_; exact hΦ
        (try simp only [Act.put, List.setIfInBounds_toArray, List.set_cons_succ, List.set_cons_zero])
        apply seq_op (V := .agg #[.int .i64 x7.kind, .int .i64 x7.proc, .slice A2e1 x7.ops.length c2e1]) rfl
        · intro Φ hΦ; refine G_sN _ _ rfl (Try.isAgg87 _) rfl H hCe1 (Try.sizeOf87 _) ?_; exact hΦ
        (try simp only [Act.put, List.setIfInBounds_toArray, List.set_cons_succ, List.set_cons_zero])
        refine OpG.list rfl ?_; refine G_alloc 87 rfl (Try.zeroValue87 _) H ?_; clear H; intro b9 w1 H; (try simp only [Value.cells] at H)
        (try simp only [Act.put, List.setIfInBounds_toArray, List.set_cons_succ, List.set_cons_zero])
        refine OpG.list rfl ?_; refine G_setNi 0 (c := [.int .i64 x7.kind, .int .i64 x7.proc, .slice A2e1 x7.ops.length c2e1]) _ _ _ rfl (Try.sizeOf87 _) rfl rfl (by simp [Value.oneCell']) H rfl rfl ?_; clear H; intro w1 H; simp only [List.set_cons_succ, List.set_cons_zero] at H
        (try simp only [Act.put, List.setIfInBounds_toArray, List.set_cons_succ, List.set_cons_zero])
        refine list_end ?_
        refine then_norm ?_
        refine wp_seq ?_
        refine wp_seq ?_
        refine wp_region_lit ?_
        apply seq_op (V := .int .i64 u2.2) rfl
        · intro Φ hΦ; refine O_mv rfl rfl ?_; exact hΦ
        (try simp only [Act.put, List.setIfInBounds_toArray, List.set_cons_succ, List.set_cons_zero])
        apply seq_op (V := .bool (u2.2 == 0)) rfl
        · intro Φ hΦ; refine O_bin rfl rfl rfl eqg_int r_eql ?_; exact hΦ
        (try simp only [Act.put, List.setIfInBounds_toArray, List.set_cons_succ, List.set_cons_zero])
        apply seq_op (V := .bool (u2.2 == 0)) rfl
        · intro Φ hΦ; refine O_mv rfl rfl ?_; exact hΦ
        (try simp only [Act.put, List.setIfInBounds_toArray, List.set_cons_succ, List.set_cons_zero])
        refine seq_opg (c := (u2.2 == 0)) (V := .map (some r22)) (by first | exact wanted_t rfl rfl rfl | exact wanted_vt rfl rfl rfl) ?_ ?_
        · intro hc Φ hΦ; refine O_mv rfl rfl ?_; exact hΦ
        (try simp only [Act.put, List.setIfInBounds_toArray, List.set_cons_succ, List.set_cons_zero])
        refine seq_opg (c := (u2.2 == 0)) (V := .pointer (some ⟨b9, 1, none⟩)) (by first | exact wanted_t rfl rfl rfl | exact wanted_vt rfl rfl rfl) ?_ ?_
        · intro hc Φ hΦ; refine O_fld rfl Try.underlying87 rfl (Try.sizeOf3 _) rfl ?_; exact hΦ
        (try simp only [Act.put, List.setIfInBounds_toArray, List.set_cons_succ, List.set_cons_zero])
        refine seq_opg (c := (u2.2 == 0)) (V := .int .i64 x7.proc) (by first | exact wanted_t rfl rfl rfl | exact wanted_vt rfl rfl rfl) ?_ ?_
        · intro hc Φ hΦ; (repeat (first | rw [vg_of hc] | rw [vg_of (and_l hc)] | rw [vg_of (and_l (and_l hc))] | rw [vg_of (and_l (and_l (and_l hc)))] | rw [vg_and hc])); refine L_1 0 _ _ rfl (Try.isAgg3 _) rfl H rfl rfl ?_; exact hΦ
        (try simp only [Act.put, List.setIfInBounds_toArray, List.set_cons_succ, List.set_cons_zero])
        refine seq_opg (c := (u2.2 == 0)) (V := .bool ((y7_p1 x7.proc).getD false)) (by first | exact wanted_t rfl rfl rfl | exact wanted_vt rfl rfl rfl) ?_ ?_
        · intro hc Φ hΦ; (repeat (first | rw [vg_of hc] | rw [vg_of (and_l hc)] | rw [vg_of (and_l (and_l hc))] | rw [vg_of (and_l (and_l (and_l hc)))] | rw [vg_and hc])); refine F_get mk_I 2 85 _ _ rfl Try.underlying85 (k := x7.proc) h1e1 rfl rfl H rfl (Try.zeroValue4 _) ?_; exact hΦ
        (try simp only [Act.put, List.setIfInBounds_toArray, List.set_cons_succ, List.set_cons_zero])
        refine seq_opg (c := (u2.2 == 0)) (V := .bool ((y7_p1 x7.proc).getD false)) (by first | exact wanted_t rfl rfl rfl | exact wanted_vt rfl rfl rfl) ?_ ?_
        · intro hc Φ hΦ; (repeat (first | rw [vg_of hc] | rw [vg_of (and_l hc)] | rw [vg_of (and_l (and_l hc))] | rw [vg_of (and_l (and_l (and_l hc)))] | rw [vg_and hc])); refine O_mv rfl rfl ?_; exact hΦ
        (try simp only [Act.put, List.setIfInBounds_toArray, List.set_cons_succ, List.set_cons_zero])
        refine seq_opg (c := ((u2.2 == 0) && !((y7_p1 x7.proc).getD false))) (V := .map (some r23)) (by first | exact wanted_f rfl rfl rfl | exact wanted_vf rfl rfl rfl) ?_ ?_
        · intro hc Φ hΦ; refine O_mv rfl rfl ?_; exact hΦ
        (try simp only [Act.put, List.setIfInBounds_toArray, List.set_cons_succ, List.set_cons_zero])
        refine seq_opg (c := ((u2.2 == 0) && !((y7_p1 x7.proc).getD false))) (V := .pointer (some ⟨b9, 1, none⟩)) (by first | exact wanted_f rfl rfl rfl | exact wanted_vf rfl rfl rfl) ?_ ?_
        · intro hc Φ hΦ; refine O_fld rfl Try.underlying87 rfl (Try.sizeOf3 _) rfl ?_; exact hΦ
        (try simp only [Act.put, List.setIfInBounds_toArray, List.set_cons_succ, List.set_cons_zero])
        refine seq_opg (c := ((u2.2 == 0) && !((y7_p1 x7.proc).getD false))) (V := .int .i64 x7.proc) (by first | exact wanted_f rfl rfl rfl | exact wanted_vf rfl rfl rfl) ?_ ?_
        · intro hc Φ hΦ; (repeat (first | rw [vg_of hc] | rw [vg_of (and_l hc)] | rw [vg_of (and_l (and_l hc))] | rw [vg_of (and_l (and_l (and_l hc)))] | rw [vg_and hc])); refine L_1 0 _ _ rfl (Try.isAgg3 _) rfl H rfl rfl ?_; exact hΦ
        (try simp only [Act.put, List.setIfInBounds_toArray, List.set_cons_succ, List.set_cons_zero])
        refine seq_opg (c := ((u2.2 == 0) && !((y7_p1 x7.proc).getD false))) (V := .bool ((y7_p0 x7.proc).getD false)) (by first | exact wanted_f rfl rfl rfl | exact wanted_vf rfl rfl rfl) ?_ ?_
        · intro hc Φ hΦ; (repeat (first | rw [vg_of hc] | rw [vg_of (and_l hc)] | rw [vg_of (and_l (and_l hc))] | rw [vg_of (and_l (and_l (and_l hc)))] | rw [vg_and hc])); refine F_get mk_I 1 85 _ _ rfl Try.underlying85 (k := x7.proc) h1e1 rfl rfl H rfl (Try.zeroValue4 _) ?_; exact hΦ
        (try simp only [Act.put, List.setIfInBounds_toArray, List.set_cons_succ, List.set_cons_zero])
        refine seq_opg (c := ((u2.2 == 0) && !((y7_p1 x7.proc).getD false))) (V := .pointer (some ⟨b9, 0, none⟩)) (by first | exact wanted_f rfl rfl rfl | exact wanted_vf rfl rfl rfl) ?_ ?_
        · intro hc Φ hΦ; refine O_fld rfl Try.underlying87 rfl (Try.sizeOf3 _) rfl ?_; exact hΦ
        (try simp only [Act.put, List.setIfInBounds_toArray, List.set_cons_succ, List.set_cons_zero])
        refine seq_opg (c := ((u2.2 == 0) && !((y7_p1 x7.proc).getD false))) (V := .int .i64 x7.kind) (by first | exact wanted_f rfl rfl rfl | exact wanted_vf rfl rfl rfl) ?_ ?_
        · intro hc Φ hΦ; (repeat (first | rw [vg_of hc] | rw [vg_of (and_l hc)] | rw [vg_of (and_l (and_l hc))] | rw [vg_of (and_l (and_l (and_l hc)))] | rw [vg_and hc])); refine L_1 0 _ _ rfl (Try.isAgg3 _) rfl H rfl rfl ?_; exact hΦ
        (try simp only [Act.put, List.setIfInBounds_toArray, List.set_cons_succ, List.set_cons_zero])
        refine seq_opg (c := ((u2.2 == 0) && !((y7_p1 x7.proc).getD false))) (V := .bool (x7.kind != 1)) (by first | exact wanted_f rfl rfl rfl | exact wanted_vf rfl rfl rfl) ?_ ?_
        · intro hc Φ hΦ; (repeat (first | rw [vg_of hc] | rw [vg_of (and_l hc)] | rw [vg_of (and_l (and_l hc))] | rw [vg_of (and_l (and_l (and_l hc)))] | rw [vg_and hc])); refine O_bin rfl rfl rfl eqg_int r_neq ?_; exact hΦ
        (try simp only [Act.put, List.setIfInBounds_toArray, List.set_cons_succ, List.set_cons_zero])
        refine seq_opg (c := ((u2.2 == 0) && !((y7_p1 x7.proc).getD false))) (V := .bool (!(((y7_p0 x7.proc).getD false) == (x7.kind != 1)))) (by first | exact wanted_f rfl rfl rfl | exact wanted_vf rfl rfl rfl) ?_ ?_
        · intro hc Φ hΦ; (repeat (first | rw [vg_of hc] | rw [vg_of (and_l hc)] | rw [vg_of (and_l (and_l hc))] | rw [vg_of (and_l (and_l (and_l hc)))] | rw [vg_and hc])); refine O_bin rfl rfl rfl eqg_bool (r_bne Try.underlying4) ?_; exact hΦ
        (try simp only [Act.put, List.setIfInBounds_toArray, List.set_cons_succ, List.set_cons_zero])
        refine seq_opg (c := (u2.2 == 0)) (V := .bool (((y7_p1 x7.proc).getD false) || (!(((y7_p0 x7.proc).getD false) == (x7.kind != 1))))) (by first | exact wanted_t rfl rfl rfl | exact wanted_vt rfl rfl rfl) ?_ ?_
        · intro hc Φ hΦ; (repeat (first | rw [vg_of hc] | rw [vg_of (and_l hc)] | rw [vg_of (and_l (and_l hc))] | rw [vg_of (and_l (and_l (and_l hc)))] | rw [vg_and hc])); refine G_or _ _ _ rfl rfl rfl rfl ?_; exact hΦ
        (try simp only [Act.put, List.setIfInBounds_toArray, List.set_cons_succ, List.set_cons_zero])
        apply seq_op (V := .bool ((u2.2 == 0) && (((y7_p1 x7.proc).getD false) || (!(((y7_p0 x7.proc).getD false) == (x7.kind != 1)))))) rfl
        · intro Φ hΦ; refine G_and _ _ _ rfl rfl rfl rfl ?_; exact hΦ
        (try simp only [Act.put, List.setIfInBounds_toArray, List.set_cons_succ, List.set_cons_zero])
        refine list_end ?_
        refine then_norm ?_
        refine wp_cond_split rfl (fun hc => ?_) (fun hc => ?_)
        · have hc3 := hc
          clear hc
          replace hq7 := ifT hc3 hq7
          refine wp_seq ?_
          refine wp_region_lit ?_
          apply seq_op (V := .bool false) rfl
          · intro Φ hΦ; refine O_as rfl rfl ?_; exact hΦ
          (try simp only [Act.put, List.setIfInBounds_toArray, List.set_cons_succ, List.set_cons_zero])
          refine list_end ?_
          refine then_norm ?_
          refine wp_ret ?_
          refine then_ret ?_
          refine block_ret ?_
          refine then_ret ?_
          refine then_ret ?_
          refine block_ret ?_
          refine then_ret ?_
          subst hq7
          (try dsimp only at hm)
          have hm := Option.some.inj hm
          subst hm
          replace H := H.dropAt 2 rfl; simp only [List.eraseIdx_cons_succ, List.eraseIdx_cons_zero] at H
          replace H := H.dropAt 1 rfl; simp only [List.eraseIdx_cons_succ, List.eraseIdx_cons_zero] at H
          replace H := H.dropAt 0 rfl; simp only [List.eraseIdx_cons_succ, List.eraseIdx_cons_zero] at H
          exact ret1 rfl (rv_tmp rfl) rfl ⟨rfl, H⟩
        · have hc3 := hc
          clear hc
          replace hq7 := ifF hc3 hq7
          refine wp_skip ?_
          refine then_norm ?_
          refine wp_seq ?_
          refine wp_region_lit ?_
          apply seq_op (V := .map (some r23)) rfl
          · intro Φ hΦ; refine O_mv rfl rfl ?_; exact hΦ
          (try simp only [Act.put, List.setIfInBounds_toArray, List.set_cons_succ, List.set_cons_zero])
          apply seq_op (V := .pointer (some ⟨b9, 1, none⟩)) rfl
          · intro Φ hΦ; refine O_fld rfl Try.underlying87 rfl (Try.sizeOf3 _) rfl ?_; exact hΦ
          (try simp only [Act.put, List.setIfInBounds_toArray, List.set_cons_succ, List.set_cons_zero])
          apply seq_op (V := .int .i64 x7.proc) rfl
          · intro Φ hΦ; refine L_1 0 _ _ rfl (Try.isAgg3 _) rfl H rfl rfl ?_; exact hΦ
          (try simp only [Act.put, List.setIfInBounds_toArray, List.set_cons_succ, List.set_cons_zero])
          apply seq_op (V := .pointer (some ⟨b9, 0, none⟩)) rfl
          · intro Φ hΦ; refine O_fld rfl Try.underlying87 rfl (Try.sizeOf3 _) rfl ?_; exact hΦ
          (try simp only [Act.put, List.setIfInBounds_toArray, List.set_cons_succ, List.set_cons_zero])
          apply seq_op (V := .int .i64 x7.kind) rfl
          · intro Φ hΦ; refine L_1 0 _ _ rfl (Try.isAgg3 _) rfl H rfl rfl ?_; exact hΦ
          (try simp only [Act.put, List.setIfInBounds_toArray, List.set_cons_succ, List.set_cons_zero])
          apply seq_op (V := .bool (x7.kind == 1)) rfl
          · intro Φ hΦ; refine O_bin rfl rfl rfl eqg_int r_eql ?_; exact hΦ
          (try simp only [Act.put, List.setIfInBounds_toArray, List.set_cons_succ, List.set_cons_zero])
          refine OpG.list rfl ?_; refine F_put mk_I 1 85 _ _ _ rfl Try.underlying85 (k := x7.proc) (v := x7.kind == 1) h1e1 trivial rfl rfl rfl H rfl ?_; clear H; intro w1 H; simp only [List.set_cons_succ, List.set_cons_zero] at H
          (try simp only [Act.put, List.setIfInBounds_toArray, List.set_cons_succ, List.set_cons_zero])
          refine list_end ?_
          refine then_norm ?_
          refine wp_region_lit ?_
          apply seq_op (V := .map (some r22)) rfl
          · intro Φ hΦ; refine O_mv rfl rfl ?_; exact hΦ
          (try simp only [Act.put, List.setIfInBounds_toArray, List.set_cons_succ, List.set_cons_zero])
          apply seq_op (V := .pointer (some ⟨b9, 1, none⟩)) rfl
          · intro Φ hΦ; refine O_fld rfl Try.underlying87 rfl (Try.sizeOf3 _) rfl ?_; exact hΦ
          (try simp only [Act.put, List.setIfInBounds_toArray, List.set_cons_succ, List.set_cons_zero])
          apply seq_op (V := .int .i64 x7.proc) rfl
          · intro Φ hΦ; refine L_1 0 _ _ rfl (Try.isAgg3 _) rfl H rfl rfl ?_; exact hΦ
          (try simp only [Act.put, List.setIfInBounds_toArray, List.set_cons_succ, List.set_cons_zero])
          apply seq_op (V := .pointer (some ⟨b9, 0, none⟩)) rfl
          · intro Φ hΦ; refine O_fld rfl Try.underlying87 rfl (Try.sizeOf3 _) rfl ?_; exact hΦ
          (try simp only [Act.put, List.setIfInBounds_toArray, List.set_cons_succ, List.set_cons_zero])
          apply seq_op (V := .int .i64 x7.kind) rfl
          · intro Φ hΦ; refine L_1 0 _ _ rfl (Try.isAgg3 _) rfl H rfl rfl ?_; exact hΦ
          (try simp only [Act.put, List.setIfInBounds_toArray, List.set_cons_succ, List.set_cons_zero])
          apply seq_op (V := .bool (x7.kind == 4)) rfl
          · intro Φ hΦ; refine O_bin rfl rfl rfl eqg_int r_eql ?_; exact hΦ
          (try simp only [Act.put, List.setIfInBounds_toArray, List.set_cons_succ, List.set_cons_zero])
          refine OpG.list rfl ?_; refine F_put mk_I 2 85 _ _ _ rfl Try.underlying85 (k := x7.proc) (v := x7.kind == 4) h1e1 trivial rfl rfl rfl H rfl ?_; clear H; intro w1 H; simp only [List.set_cons_succ, List.set_cons_zero] at H
          (try simp only [Act.put, List.setIfInBounds_toArray, List.set_cons_succ, List.set_cons_zero])
          refine list_end ?_
          refine block_norm ?_
          refine then_norm ?_
          refine wp_region_lit ?_
          apply seq_op (V := .int .i64 (IntKind.i64.wrap ((k7 : Int) + 1))) rfl
          · intro Φ hΦ; refine O_bin rfl rfl rfl eqg_int r_add ?_; exact hΦ
          (try simp only [Act.put, List.setIfInBounds_toArray, List.set_cons_succ, List.set_cons_zero])
          apply seq_op (V := .int .i64 (IntKind.i64.wrap ((k7 : Int) + 1))) rfl
          · intro Φ hΦ; refine O_mv rfl rfl ?_; exact hΦ
          (try simp only [Act.put, List.setIfInBounds_toArray, List.set_cons_succ, List.set_cons_zero])
          refine list_end ?_
          refine then_norm ?_
          replace H := H.drop
          refine ⟨⟨⟨rfl, rfl, rfl, rfl, rfl, rfl, rfl, rfl, rfl, rfl, rfl, rfl, rfl, rfl, rfl, rfl, rfl, rfl, rfl, rfl, rfl, rfl, rfl, rfl, rfl⟩, rfl⟩, ⟨k7 + 1, _, (fset y7_p0 x7.proc (x7.kind == 1)), (fset y7_p1 x7.proc (x7.kind == 4)), hd7'', wrap_succ hl7 hn7, hq7, H⟩, ?_⟩
          exact meas_succ hl7 hn7
      · have hc2 := hc
        clear hc
        obtain rfl := rng_f hd7 hc2
        rw [assayerlaw03_PairGone_l7] at hq7
        refine wp_exit ?_
        refine then_exit ?_
        refine then_exit ?_
        subst hq7
        (try dsimp only at hm)
        refine block_exit ?_
        refine then_norm ?_
        refine wp_seq ?_
        refine wp_region_lit ?_
        apply seq_op (V := .bool true) rfl
        · intro Φ hΦ; refine O_as rfl rfl ?_; exact hΦ
        (try simp only [Act.put, List.setIfInBounds_toArray, List.set_cons_succ, List.set_cons_zero])
        refine list_end ?_
        refine then_norm ?_
        refine wp_ret ?_
        have hm := Option.some.inj hm
        subst hm
        replace H := H.dropAt 1 rfl; simp only [List.eraseIdx_cons_succ, List.eraseIdx_cons_zero] at H
        replace H := H.dropAt 0 rfl; simp only [List.eraseIdx_cons_succ, List.eraseIdx_cons_zero] at H
        exact ret1 rfl (rv_tmp rfl) rfl ⟨rfl, H⟩
end Go.Proofs.Ytemdmpgekegfhaa
