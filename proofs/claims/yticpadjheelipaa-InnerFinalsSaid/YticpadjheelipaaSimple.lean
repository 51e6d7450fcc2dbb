/- The simple questions of an operation. -/
import Derived.Test.YticpadjheelipaaView
import Derived.Test.YticpadjheelipaaWp
namespace Go.Proofs.Yticpadjheelipaa
open Go.RowKit
set_option linter.all false
set_option maxRecDepth 10000
def isListO (o : Op') : Bool := o.kind == 1 || o.kind == 2
def readO (o : Op') : Bool := (o.kind == 2 || o.kind == 4) && o.has

set_option maxHeartbeats 4000000 in
theorem reads_any {E : World} {s : SH} {L : List HP} {w : World} {k : Int} {key : ByteArray} {val : Int} {vl : Value} {has nl : Bool} (H : Holds E s L w) :
    Calls Try.prog 41 #[.agg #[.int .i64 k, .string key, .int .i64 val, vl, .bool has, .bool nl]] w fun e w' => e = .returned (.bool (has && (k == 2 || k == 4))) ∧ Holds E s L w' := by
  go_enter Try.func41, Try.ntmps41
  refine wp_seq ?_
  refine wp_region_lit ?_
  refine OpG.list rfl ?_; refine B_x 25 _ rfl rfl H ?_; clear H; intro b1 w1 H; (try simp only [Value.cells] at H)
  (try simp only [Act.put, List.setIfInBounds_toArray, List.set_cons_succ, List.set_cons_zero])
  apply seq_op rfl
  · intro Φ hΦ; go_simp; exact hΦ
  (try simp only [Act.put, List.setIfInBounds_toArray, List.set_cons_succ, List.set_cons_zero])
  refine list_end ?_
  refine then_norm ?_
  refine wp_seq ?_
  refine wp_plain_obO (k := 13) (sz := 15) (List.replicate 13 13) (fun _ => []) rfl rfl (by kernel_rfl) (by kernel_rfl) H (by simp only [List.take_succ_cons, List.take_zero]; exact rfl)
    (fun y => by simp only [ov, Act.put, List.setIfInBounds_toArray, List.set_cons_succ, List.set_cons_zero, Nat.zero_add, Nat.reduceAdd]; exact rfl) ?_
  apply ObO.valw
  · intro x; rfl
  · intro s' w' y Φ R hs H hG hΦ; skip; refine wantG rfl ?_; (go_simp; exact hΦ _ _ (Sub.refl _) H)
  apply ObO.valw
  · intro x; rfl
  · intro s' w' y Φ R hs H hG hΦ; simp only [List.nil_append, List.cons_append] at hG; have e0 : y 0 = _ := dh_get hG 0 rfl (by kernel_rfl); simp only [e0]; refine wantG rfl ?_; first | (refine L_1 0 _ _ rfl (Try.isAgg4 _) rfl H rfl rfl ?_; exact hΦ _ _ (Sub.refl _) H) | (refine G_pNi 0 _ _ rfl (Try.isAgg4 _) rfl H rfl (Try.sizeOf4 _) ?_; exact hΦ _ _ (Sub.refl _) H)
  apply ObO.valw
  · intro x; rfl
  · intro s' w' y Φ R hs H hG hΦ; simp only [List.nil_append, List.cons_append] at hG; have e1 : y 1 = _ := dh_get hG 1 rfl (by kernel_rfl); simp only [e1]; refine wantG rfl ?_; (go_simp; exact hΦ _ _ (Sub.refl _) H)
  apply ObO.valg
  · intro x; rfl
  · intro s' y hG; simp only [List.nil_append, List.cons_append] at hG; have eg : y 2 = _ := dh_get hG 2 rfl (by kernel_rfl); simp only [eg]; first | exact wanted_t rfl rfl rfl | exact wanted_vt rfl rfl rfl
  · intro hc s' w' y Φ R hs H hG hΦ; have HC := Lib.hid hc; clear hc; skip; (go_simp; exact hΦ _ _ (Sub.refl _) H)
  apply ObO.valg
  · intro x; rfl
  · intro s' y hG; simp only [List.nil_append, List.cons_append] at hG; have eg : y 2 = _ := dh_get hG 2 rfl (by kernel_rfl); simp only [eg]; first | exact wanted_t rfl rfl rfl | exact wanted_vt rfl rfl rfl
  · intro hc s' w' y Φ R hs H hG hΦ; simp only [List.nil_append, List.cons_append] at hG; have e3 : y 3 = _ := dh_get hG 3 rfl (by kernel_rfl); (first | rw [vg_of hc] at e3 | rw [vg_of (and_l hc)] at e3 | rw [vg_of (and_l (and_l hc))] at e3 | rw [vg_of (and_l (and_l (and_l hc)))] at e3 | rw [vg_and hc] at e3 | skip); have HC := Lib.hid hc; clear hc; simp only [e3]; first | (refine L_1 0 _ _ rfl (Try.isAgg3 _) rfl H rfl rfl ?_; exact hΦ _ _ (Sub.refl _) H) | (refine G_pNi 0 _ _ rfl (Try.isAgg3 _) rfl H rfl (Try.sizeOf3 _) ?_; exact hΦ _ _ (Sub.refl _) H)
  apply ObO.valg
  · intro x; rfl
  · intro s' y hG; simp only [List.nil_append, List.cons_append] at hG; have eg : y 2 = _ := dh_get hG 2 rfl (by kernel_rfl); simp only [eg]; first | exact wanted_t rfl rfl rfl | exact wanted_vt rfl rfl rfl
  · intro hc s' w' y Φ R hs H hG hΦ; simp only [List.nil_append, List.cons_append] at hG; have e4 : y 4 = _ := dh_get hG 4 rfl (by kernel_rfl); (first | rw [vg_of hc] at e4 | rw [vg_of (and_l hc)] at e4 | rw [vg_of (and_l (and_l hc))] at e4 | rw [vg_of (and_l (and_l (and_l hc)))] at e4 | rw [vg_and hc] at e4 | skip); have HC := Lib.hid hc; clear hc; simp only [e4]; (go_simp; exact hΦ _ _ (Sub.refl _) H)
  apply ObO.valg
  · intro x; rfl
  · intro s' y hG; simp only [List.nil_append, List.cons_append] at hG; have eg : y 2 = _ := dh_get hG 2 rfl (by kernel_rfl); simp only [eg]; first | exact wanted_t rfl rfl rfl | exact wanted_vt rfl rfl rfl
  · intro hc s' w' y Φ R hs H hG hΦ; simp only [List.nil_append, List.cons_append] at hG; have e5 : y 5 = _ := dh_get hG 5 rfl (by kernel_rfl); (first | rw [vg_of hc] at e5 | rw [vg_of (and_l hc)] at e5 | rw [vg_of (and_l (and_l hc))] at e5 | rw [vg_of (and_l (and_l (and_l hc)))] at e5 | rw [vg_and hc] at e5 | skip); have HC := Lib.hid hc; clear hc; simp only [e5]; (go_simp; exact hΦ _ _ (Sub.refl _) H)
  apply ObO.valg
  · intro x; rfl
  · intro s' y hG; simp only [List.nil_append, List.cons_append] at hG; have eg : y 6 = _ := dh_get hG 6 rfl (by kernel_rfl); simp only [eg]; first | exact wanted_f rfl rfl rfl | exact wanted_vf rfl rfl rfl
  · intro hc s' w' y Φ R hs H hG hΦ; have HC := Lib.hid hc; clear hc; skip; (go_simp; exact hΦ _ _ (Sub.refl _) H)
  apply ObO.valg
  · intro x; rfl
  · intro s' y hG; simp only [List.nil_append, List.cons_append] at hG; have eg : y 6 = _ := dh_get hG 6 rfl (by kernel_rfl); simp only [eg]; first | exact wanted_f rfl rfl rfl | exact wanted_vf rfl rfl rfl
  · intro hc s' w' y Φ R hs H hG hΦ; simp only [List.nil_append, List.cons_append] at hG; have e7 : y 7 = _ := dh_get hG 7 rfl (by kernel_rfl); (first | rw [vg_of hc] at e7 | rw [vg_of (and_l hc)] at e7 | rw [vg_of (and_l (and_l hc))] at e7 | rw [vg_of (and_l (and_l (and_l hc)))] at e7 | rw [vg_and hc] at e7 | skip); have HC := Lib.hid hc; clear hc; simp only [e7]; first | (refine L_1 0 _ _ rfl (Try.isAgg3 _) rfl H rfl rfl ?_; exact hΦ _ _ (Sub.refl _) H) | (refine G_pNi 0 _ _ rfl (Try.isAgg3 _) rfl H rfl (Try.sizeOf3 _) ?_; exact hΦ _ _ (Sub.refl _) H)
  apply ObO.valg
  · intro x; rfl
  · intro s' y hG; simp only [List.nil_append, List.cons_append] at hG; have eg : y 6 = _ := dh_get hG 6 rfl (by kernel_rfl); simp only [eg]; first | exact wanted_f rfl rfl rfl | exact wanted_vf rfl rfl rfl
  · intro hc s' w' y Φ R hs H hG hΦ; simp only [List.nil_append, List.cons_append] at hG; have e8 : y 8 = _ := dh_get hG 8 rfl (by kernel_rfl); (first | rw [vg_of hc] at e8 | rw [vg_of (and_l hc)] at e8 | rw [vg_of (and_l (and_l hc))] at e8 | rw [vg_of (and_l (and_l (and_l hc)))] at e8 | rw [vg_and hc] at e8 | skip); have HC := Lib.hid hc; clear hc; simp only [e8]; (go_simp; exact hΦ _ _ (Sub.refl _) H)
  apply ObO.valg
  · intro x; rfl
  · intro s' y hG; simp only [List.nil_append, List.cons_append] at hG; have eg : y 2 = _ := dh_get hG 2 rfl (by kernel_rfl); simp only [eg]; first | exact wanted_t rfl rfl rfl | exact wanted_vt rfl rfl rfl
  · intro hc s' w' y Φ R hs H hG hΦ; simp only [List.nil_append, List.cons_append] at hG; have e6 : y 6 = _ := dh_get hG 6 rfl (by kernel_rfl); have e9 : y 9 = _ := dh_get hG 9 rfl (by kernel_rfl); (first | rw [vg_of hc] at e6 | rw [vg_of (and_l hc)] at e6 | rw [vg_of (and_l (and_l hc))] at e6 | rw [vg_of (and_l (and_l (and_l hc)))] at e6 | rw [vg_and hc] at e6 | skip); (first | rw [vg_of hc] at e9 | rw [vg_of (and_l hc)] at e9 | rw [vg_of (and_l (and_l hc))] at e9 | rw [vg_of (and_l (and_l (and_l hc)))] at e9 | rw [vg_and hc] at e9 | skip); have HC := Lib.hid hc; clear hc; simp only [e6, e9]; (refine G_or _ _ _ rfl rfl rfl rfl ?_; exact hΦ _ _ (Sub.refl _) H)
  apply ObO.valw
  · intro x; rfl
  · intro s' w' y Φ R hs H hG hΦ; simp only [List.nil_append, List.cons_append] at hG; have e2 : y 2 = _ := dh_get hG 2 rfl (by kernel_rfl); have e10 : y 10 = _ := dh_get hG 10 rfl (by kernel_rfl); simp only [e2, e10]; refine wantG rfl ?_; (refine G_and _ _ _ rfl rfl rfl rfl ?_; exact hΦ _ _ (Sub.refl _) H)
  apply ObO.valw
  · intro x; rfl
  · intro s' w' y Φ R hs H hG hΦ; simp only [List.nil_append, List.cons_append] at hG; have e11 : y 11 = _ := dh_get hG 11 rfl (by kernel_rfl); simp only [e11]; refine wantG rfl ?_; (go_simp; exact hΦ _ _ (Sub.refl _) H)
  clear H
  intro s3 w3 yy hs3 H hG
  replace H := (show Holds _ _ ([] ++ _) _ from H); rw [List.nil_append] at H
  simp only [List.nil_append, List.cons_append] at hG
  have e0 : yy 0 = _ := gh_get hG 0 rfl
  have e1 : yy 1 = _ := gh_get hG 1 rfl
  have e2 : yy 2 = _ := gh_get hG 2 rfl
  have e3 : yy 3 = _ := gh_get hG 3 rfl
  have e4 : yy 4 = _ := gh_get hG 4 rfl
  have e5 : yy 5 = _ := gh_get hG 5 rfl
  have e6 : yy 6 = _ := gh_get hG 6 rfl
  have e7 : yy 7 = _ := gh_get hG 7 rfl
  have e8 : yy 8 = _ := gh_get hG 8 rfl
  have e9 : yy 9 = _ := gh_get hG 9 rfl
  have e10 : yy 10 = _ := gh_get hG 10 rfl
  have e11 : yy 11 = _ := gh_get hG 11 rfl
  have e12 : yy 12 = _ := gh_get hG 12 rfl
  simp only [e0, e1, e2, e3, e4, e5, e6, e7, e8, e9, e10, e11, e12]
  clear hG e0 e1 e2 e3 e4 e5 e6 e7 e8 e9 e10 e11 e12
  replace H := H.forget hs3
  refine list_end ?_
  refine then_norm ?_
  refine wp_ret ?_
  exact ret1 rfl (rv_tmp rfl) rfl ⟨rfl, H.drop⟩

set_option maxHeartbeats 4000000 in
theorem writes_any {E : World} {s : SH} {L : List HP} {w : World} {k : Int} {key : ByteArray} {val : Int} {vl : Value} {has nl : Bool} (H : Holds E s L w) :
    Calls Try.prog 47 #[.agg #[.int .i64 k, .string key, .int .i64 val, vl, .bool has, .bool nl]] w fun e w' => e = .returned (.bool (k == 1 || k == 3)) ∧ Holds E s L w' := by
  go_enter Try.func47, Try.ntmps47
  refine wp_seq ?_
  refine wp_region_lit ?_
  refine OpG.list rfl ?_; refine B_x 25 _ rfl rfl H ?_; clear H; intro b1 w1 H; (try simp only [Value.cells] at H)
  (try simp only [Act.put, List.setIfInBounds_toArray, List.set_cons_succ, List.set_cons_zero])
  apply seq_op rfl
  · intro Φ hΦ; go_simp; exact hΦ
  (try simp only [Act.put, List.setIfInBounds_toArray, List.set_cons_succ, List.set_cons_zero])
  refine list_end ?_
  refine then_norm ?_
  refine wp_seq ?_
  refine wp_plain_obO (k := 9) (sz := 11) (List.replicate 9 9) (fun _ => []) rfl rfl (by kernel_rfl) (by kernel_rfl) H (by simp only [List.take_succ_cons, List.take_zero]; exact rfl)
    (fun y => by simp only [ov, Act.put, List.setIfInBounds_toArray, List.set_cons_succ, List.set_cons_zero, Nat.zero_add, Nat.reduceAdd]; exact rfl) ?_
  apply ObO.valw
  · intro x; rfl
  · intro s' w' y Φ R hs H hG hΦ; skip; refine wantG rfl ?_; (go_simp; exact hΦ _ _ (Sub.refl _) H)
  apply ObO.valw
  · intro x; rfl
  · intro s' w' y Φ R hs H hG hΦ; simp only [List.nil_append, List.cons_append] at hG; have e0 : y 0 = _ := dh_get hG 0 rfl (by kernel_rfl); simp only [e0]; refine wantG rfl ?_; first | (refine L_1 0 _ _ rfl (Try.isAgg3 _) rfl H rfl rfl ?_; exact hΦ _ _ (Sub.refl _) H) | (refine G_pNi 0 _ _ rfl (Try.isAgg3 _) rfl H rfl (Try.sizeOf3 _) ?_; exact hΦ _ _ (Sub.refl _) H)
  apply ObO.valw
  · intro x; rfl
  · intro s' w' y Φ R hs H hG hΦ; simp only [List.nil_append, List.cons_append] at hG; have e1 : y 1 = _ := dh_get hG 1 rfl (by kernel_rfl); simp only [e1]; refine wantG rfl ?_; (go_simp; exact hΦ _ _ (Sub.refl _) H)
  apply ObO.valw
  · intro x; rfl
  · intro s' w' y Φ R hs H hG hΦ; simp only [List.nil_append, List.cons_append] at hG; have e2 : y 2 = _ := dh_get hG 2 rfl (by kernel_rfl); simp only [e2]; refine wantG rfl ?_; (go_simp; exact hΦ _ _ (Sub.refl _) H)
  apply ObO.valg
  · intro x; rfl
  · intro s' y hG; simp only [List.nil_append, List.cons_append] at hG; have eg : y 3 = _ := dh_get hG 3 rfl (by kernel_rfl); simp only [eg]; first | exact wanted_f rfl rfl rfl | exact wanted_vf rfl rfl rfl
  · intro hc s' w' y Φ R hs H hG hΦ; have HC := Lib.hid hc; clear hc; skip; (go_simp; exact hΦ _ _ (Sub.refl _) H)
  apply ObO.valg
  · intro x; rfl
  · intro s' y hG; simp only [List.nil_append, List.cons_append] at hG; have eg : y 3 = _ := dh_get hG 3 rfl (by kernel_rfl); simp only [eg]; first | exact wanted_f rfl rfl rfl | exact wanted_vf rfl rfl rfl
  · intro hc s' w' y Φ R hs H hG hΦ; simp only [List.nil_append, List.cons_append] at hG; have e4 : y 4 = _ := dh_get hG 4 rfl (by kernel_rfl); (first | rw [vg_of hc] at e4 | rw [vg_of (and_l hc)] at e4 | rw [vg_of (and_l (and_l hc))] at e4 | rw [vg_of (and_l (and_l (and_l hc)))] at e4 | rw [vg_and hc] at e4 | skip); have HC := Lib.hid hc; clear hc; simp only [e4]; first | (refine L_1 0 _ _ rfl (Try.isAgg3 _) rfl H rfl rfl ?_; exact hΦ _ _ (Sub.refl _) H) | (refine G_pNi 0 _ _ rfl (Try.isAgg3 _) rfl H rfl (Try.sizeOf3 _) ?_; exact hΦ _ _ (Sub.refl _) H)
  apply ObO.valg
  · intro x; rfl
  · intro s' y hG; simp only [List.nil_append, List.cons_append] at hG; have eg : y 3 = _ := dh_get hG 3 rfl (by kernel_rfl); simp only [eg]; first | exact wanted_f rfl rfl rfl | exact wanted_vf rfl rfl rfl
  · intro hc s' w' y Φ R hs H hG hΦ; simp only [List.nil_append, List.cons_append] at hG; have e5 : y 5 = _ := dh_get hG 5 rfl (by kernel_rfl); (first | rw [vg_of hc] at e5 | rw [vg_of (and_l hc)] at e5 | rw [vg_of (and_l (and_l hc))] at e5 | rw [vg_of (and_l (and_l (and_l hc)))] at e5 | rw [vg_and hc] at e5 | skip); have HC := Lib.hid hc; clear hc; simp only [e5]; (go_simp; exact hΦ _ _ (Sub.refl _) H)
  apply ObO.valw
  · intro x; rfl
  · intro s' w' y Φ R hs H hG hΦ; simp only [List.nil_append, List.cons_append] at hG; have e3 : y 3 = _ := dh_get hG 3 rfl (by kernel_rfl); have e6 : y 6 = _ := dh_get hG 6 rfl (by kernel_rfl); simp only [e3, e6]; refine wantG rfl ?_; (refine G_or _ _ _ rfl rfl rfl rfl ?_; exact hΦ _ _ (Sub.refl _) H)
  apply ObO.valw
  · intro x; rfl
  · intro s' w' y Φ R hs H hG hΦ; simp only [List.nil_append, List.cons_append] at hG; have e7 : y 7 = _ := dh_get hG 7 rfl (by kernel_rfl); simp only [e7]; refine wantG rfl ?_; (go_simp; exact hΦ _ _ (Sub.refl _) H)
  clear H
  intro s3 w3 yy hs3 H hG
  replace H := (show Holds _ _ ([] ++ _) _ from H); rw [List.nil_append] at H
  simp only [List.nil_append, List.cons_append] at hG
  have e0 : yy 0 = _ := gh_get hG 0 rfl
  have e1 : yy 1 = _ := gh_get hG 1 rfl
  have e2 : yy 2 = _ := gh_get hG 2 rfl
  have e3 : yy 3 = _ := gh_get hG 3 rfl
  have e4 : yy 4 = _ := gh_get hG 4 rfl
  have e5 : yy 5 = _ := gh_get hG 5 rfl
  have e6 : yy 6 = _ := gh_get hG 6 rfl
  have e7 : yy 7 = _ := gh_get hG 7 rfl
  have e8 : yy 8 = _ := gh_get hG 8 rfl
  simp only [e0, e1, e2, e3, e4, e5, e6, e7, e8]
  clear hG e0 e1 e2 e3 e4 e5 e6 e7 e8
  replace H := H.forget hs3
  refine list_end ?_
  refine then_norm ?_
  refine wp_ret ?_
  exact ret1 rfl (rv_tmp rfl) rfl ⟨rfl, H.drop⟩

set_option maxHeartbeats 4000000 in
theorem refWrite_any {E : World} {s : SH} {L : List HP} {w : World} {k : Int} {key : ByteArray} {val : Int} {vl : Value} {has nl : Bool} (H : Holds E s L w) :
    Calls Try.prog 52 #[.agg #[.int .i64 k, .string key, .int .i64 val, vl, .bool has, .bool nl]] w fun e w' => e = .returned (.bool (k == 1 || k == 3)) ∧ Holds E s L w' := by
  go_enter Try.func52, Try.ntmps52
  refine wp_seq ?_
  refine wp_region_lit ?_
  refine OpG.list rfl ?_; refine B_x 25 _ rfl rfl H ?_; clear H; intro b1 w1 H; (try simp only [Value.cells] at H)
  (try simp only [Act.put, List.setIfInBounds_toArray, List.set_cons_succ, List.set_cons_zero])
  apply seq_op rfl
  · intro Φ hΦ; go_simp; exact hΦ
  (try simp only [Act.put, List.setIfInBounds_toArray, List.set_cons_succ, List.set_cons_zero])
  refine list_end ?_
  refine then_norm ?_
  refine wp_seq ?_
  refine wp_plain_obO (k := 9) (sz := 11) (List.replicate 9 9) (fun _ => []) rfl rfl (by kernel_rfl) (by kernel_rfl) H (by simp only [List.take_succ_cons, List.take_zero]; exact rfl)
    (fun y => by simp only [ov, Act.put, List.setIfInBounds_toArray, List.set_cons_succ, List.set_cons_zero, Nat.zero_add, Nat.reduceAdd]; exact rfl) ?_
  apply ObO.valw
  · intro x; rfl
  · intro s' w' y Φ R hs H hG hΦ; skip; refine wantG rfl ?_; (go_simp; exact hΦ _ _ (Sub.refl _) H)
  apply ObO.valw
  · intro x; rfl
  · intro s' w' y Φ R hs H hG hΦ; simp only [List.nil_append, List.cons_append] at hG; have e0 : y 0 = _ := dh_get hG 0 rfl (by kernel_rfl); simp only [e0]; refine wantG rfl ?_; first | (refine L_1 0 _ _ rfl (Try.isAgg3 _) rfl H rfl rfl ?_; exact hΦ _ _ (Sub.refl _) H) | (refine G_pNi 0 _ _ rfl (Try.isAgg3 _) rfl H rfl (Try.sizeOf3 _) ?_; exact hΦ _ _ (Sub.refl _) H)
  apply ObO.valw
  · intro x; rfl
  · intro s' w' y Φ R hs H hG hΦ; simp only [List.nil_append, List.cons_append] at hG; have e1 : y 1 = _ := dh_get hG 1 rfl (by kernel_rfl); simp only [e1]; refine wantG rfl ?_; (go_simp; exact hΦ _ _ (Sub.refl _) H)
  apply ObO.valw
  · intro x; rfl
  · intro s' w' y Φ R hs H hG hΦ; simp only [List.nil_append, List.cons_append] at hG; have e2 : y 2 = _ := dh_get hG 2 rfl (by kernel_rfl); simp only [e2]; refine wantG rfl ?_; (go_simp; exact hΦ _ _ (Sub.refl _) H)
  apply ObO.valg
  · intro x; rfl
  · intro s' y hG; simp only [List.nil_append, List.cons_append] at hG; have eg : y 3 = _ := dh_get hG 3 rfl (by kernel_rfl); simp only [eg]; first | exact wanted_f rfl rfl rfl | exact wanted_vf rfl rfl rfl
  · intro hc s' w' y Φ R hs H hG hΦ; have HC := Lib.hid hc; clear hc; skip; (go_simp; exact hΦ _ _ (Sub.refl _) H)
  apply ObO.valg
  · intro x; rfl
  · intro s' y hG; simp only [List.nil_append, List.cons_append] at hG; have eg : y 3 = _ := dh_get hG 3 rfl (by kernel_rfl); simp only [eg]; first | exact wanted_f rfl rfl rfl | exact wanted_vf rfl rfl rfl
  · intro hc s' w' y Φ R hs H hG hΦ; simp only [List.nil_append, List.cons_append] at hG; have e4 : y 4 = _ := dh_get hG 4 rfl (by kernel_rfl); (first | rw [vg_of hc] at e4 | rw [vg_of (and_l hc)] at e4 | rw [vg_of (and_l (and_l hc))] at e4 | rw [vg_of (and_l (and_l (and_l hc)))] at e4 | rw [vg_and hc] at e4 | skip); have HC := Lib.hid hc; clear hc; simp only [e4]; first | (refine L_1 0 _ _ rfl (Try.isAgg3 _) rfl H rfl rfl ?_; exact hΦ _ _ (Sub.refl _) H) | (refine G_pNi 0 _ _ rfl (Try.isAgg3 _) rfl H rfl (Try.sizeOf3 _) ?_; exact hΦ _ _ (Sub.refl _) H)
  apply ObO.valg
  · intro x; rfl
  · intro s' y hG; simp only [List.nil_append, List.cons_append] at hG; have eg : y 3 = _ := dh_get hG 3 rfl (by kernel_rfl); simp only [eg]; first | exact wanted_f rfl rfl rfl | exact wanted_vf rfl rfl rfl
  · intro hc s' w' y Φ R hs H hG hΦ; simp only [List.nil_append, List.cons_append] at hG; have e5 : y 5 = _ := dh_get hG 5 rfl (by kernel_rfl); (first | rw [vg_of hc] at e5 | rw [vg_of (and_l hc)] at e5 | rw [vg_of (and_l (and_l hc))] at e5 | rw [vg_of (and_l (and_l (and_l hc)))] at e5 | rw [vg_and hc] at e5 | skip); have HC := Lib.hid hc; clear hc; simp only [e5]; (go_simp; exact hΦ _ _ (Sub.refl _) H)
  apply ObO.valw
  · intro x; rfl
  · intro s' w' y Φ R hs H hG hΦ; simp only [List.nil_append, List.cons_append] at hG; have e3 : y 3 = _ := dh_get hG 3 rfl (by kernel_rfl); have e6 : y 6 = _ := dh_get hG 6 rfl (by kernel_rfl); simp only [e3, e6]; refine wantG rfl ?_; (refine G_or _ _ _ rfl rfl rfl rfl ?_; exact hΦ _ _ (Sub.refl _) H)
  apply ObO.valw
  · intro x; rfl
  · intro s' w' y Φ R hs H hG hΦ; simp only [List.nil_append, List.cons_append] at hG; have e7 : y 7 = _ := dh_get hG 7 rfl (by kernel_rfl); simp only [e7]; refine wantG rfl ?_; (go_simp; exact hΦ _ _ (Sub.refl _) H)
  clear H
  intro s3 w3 yy hs3 H hG
  replace H := (show Holds _ _ ([] ++ _) _ from H); rw [List.nil_append] at H
  simp only [List.nil_append, List.cons_append] at hG
  have e0 : yy 0 = _ := gh_get hG 0 rfl
  have e1 : yy 1 = _ := gh_get hG 1 rfl
  have e2 : yy 2 = _ := gh_get hG 2 rfl
  have e3 : yy 3 = _ := gh_get hG 3 rfl
  have e4 : yy 4 = _ := gh_get hG 4 rfl
  have e5 : yy 5 = _ := gh_get hG 5 rfl
  have e6 : yy 6 = _ := gh_get hG 6 rfl
  have e7 : yy 7 = _ := gh_get hG 7 rfl
  have e8 : yy 8 = _ := gh_get hG 8 rfl
  simp only [e0, e1, e2, e3, e4, e5, e6, e7, e8]
  clear hG e0 e1 e2 e3 e4 e5 e6 e7 e8
  replace H := H.forget hs3
  refine list_end ?_
  refine then_norm ?_
  refine wp_ret ?_
  exact ret1 rfl (rv_tmp rfl) rfl ⟨rfl, H.drop⟩

set_option maxHeartbeats 4000000 in
theorem refRead_any {E : World} {s : SH} {L : List HP} {w : World} {k : Int} {key : ByteArray} {val : Int} {vl : Value} {has nl : Bool} (H : Holds E s L w) :
    Calls Try.prog 44 #[.agg #[.int .i64 k, .string key, .int .i64 val, vl, .bool has, .bool nl]] w fun e w' => e = .returned (.bool ((k == 2 || k == 4) && has)) ∧ Holds E s L w' := by
  go_enter Try.func44, Try.ntmps44
  refine wp_seq ?_
  refine wp_region_lit ?_
  refine OpG.list rfl ?_; refine B_x 25 _ rfl rfl H ?_; clear H; intro b1 w1 H; (try simp only [Value.cells] at H)
  (try simp only [Act.put, List.setIfInBounds_toArray, List.set_cons_succ, List.set_cons_zero])
  apply seq_op rfl
  · intro Φ hΦ; go_simp; exact hΦ
  (try simp only [Act.put, List.setIfInBounds_toArray, List.set_cons_succ, List.set_cons_zero])
  refine list_end ?_
  refine then_norm ?_
  refine wp_seq ?_
  refine wp_plain_obO (k := 13) (sz := 15) (List.replicate 13 13) (fun _ => []) rfl rfl (by kernel_rfl) (by kernel_rfl) H (by simp only [List.take_succ_cons, List.take_zero]; exact rfl)
    (fun y => by simp only [ov, Act.put, List.setIfInBounds_toArray, List.set_cons_succ, List.set_cons_zero, Nat.zero_add, Nat.reduceAdd]; exact rfl) ?_
  apply ObO.valw
  · intro x; rfl
  · intro s' w' y Φ R hs H hG hΦ; skip; refine wantG rfl ?_; (go_simp; exact hΦ _ _ (Sub.refl _) H)
  apply ObO.valw
  · intro x; rfl
  · intro s' w' y Φ R hs H hG hΦ; simp only [List.nil_append, List.cons_append] at hG; have e0 : y 0 = _ := dh_get hG 0 rfl (by kernel_rfl); simp only [e0]; refine wantG rfl ?_; first | (refine L_1 0 _ _ rfl (Try.isAgg3 _) rfl H rfl rfl ?_; exact hΦ _ _ (Sub.refl _) H) | (refine G_pNi 0 _ _ rfl (Try.isAgg3 _) rfl H rfl (Try.sizeOf3 _) ?_; exact hΦ _ _ (Sub.refl _) H)
  apply ObO.valw
  · intro x; rfl
  · intro s' w' y Φ R hs H hG hΦ; simp only [List.nil_append, List.cons_append] at hG; have e1 : y 1 = _ := dh_get hG 1 rfl (by kernel_rfl); simp only [e1]; refine wantG rfl ?_; (go_simp; exact hΦ _ _ (Sub.refl _) H)
  apply ObO.valw
  · intro x; rfl
  · intro s' w' y Φ R hs H hG hΦ; simp only [List.nil_append, List.cons_append] at hG; have e2 : y 2 = _ := dh_get hG 2 rfl (by kernel_rfl); simp only [e2]; refine wantG rfl ?_; (go_simp; exact hΦ _ _ (Sub.refl _) H)
  apply ObO.valg
  · intro x; rfl
  · intro s' y hG; simp only [List.nil_append, List.cons_append] at hG; have eg : y 3 = _ := dh_get hG 3 rfl (by kernel_rfl); simp only [eg]; first | exact wanted_f rfl rfl rfl | exact wanted_vf rfl rfl rfl
  · intro hc s' w' y Φ R hs H hG hΦ; have HC := Lib.hid hc; clear hc; skip; (go_simp; exact hΦ _ _ (Sub.refl _) H)
  apply ObO.valg
  · intro x; rfl
  · intro s' y hG; simp only [List.nil_append, List.cons_append] at hG; have eg : y 3 = _ := dh_get hG 3 rfl (by kernel_rfl); simp only [eg]; first | exact wanted_f rfl rfl rfl | exact wanted_vf rfl rfl rfl
  · intro hc s' w' y Φ R hs H hG hΦ; simp only [List.nil_append, List.cons_append] at hG; have e4 : y 4 = _ := dh_get hG 4 rfl (by kernel_rfl); (first | rw [vg_of hc] at e4 | rw [vg_of (and_l hc)] at e4 | rw [vg_of (and_l (and_l hc))] at e4 | rw [vg_of (and_l (and_l (and_l hc)))] at e4 | rw [vg_and hc] at e4 | skip); have HC := Lib.hid hc; clear hc; simp only [e4]; first | (refine L_1 0 _ _ rfl (Try.isAgg3 _) rfl H rfl rfl ?_; exact hΦ _ _ (Sub.refl _) H) | (refine G_pNi 0 _ _ rfl (Try.isAgg3 _) rfl H rfl (Try.sizeOf3 _) ?_; exact hΦ _ _ (Sub.refl _) H)
  apply ObO.valg
  · intro x; rfl
  · intro s' y hG; simp only [List.nil_append, List.cons_append] at hG; have eg : y 3 = _ := dh_get hG 3 rfl (by kernel_rfl); simp only [eg]; first | exact wanted_f rfl rfl rfl | exact wanted_vf rfl rfl rfl
  · intro hc s' w' y Φ R hs H hG hΦ; simp only [List.nil_append, List.cons_append] at hG; have e5 : y 5 = _ := dh_get hG 5 rfl (by kernel_rfl); (first | rw [vg_of hc] at e5 | rw [vg_of (and_l hc)] at e5 | rw [vg_of (and_l (and_l hc))] at e5 | rw [vg_of (and_l (and_l (and_l hc)))] at e5 | rw [vg_and hc] at e5 | skip); have HC := Lib.hid hc; clear hc; simp only [e5]; (go_simp; exact hΦ _ _ (Sub.refl _) H)
  apply ObO.valw
  · intro x; rfl
  · intro s' w' y Φ R hs H hG hΦ; simp only [List.nil_append, List.cons_append] at hG; have e3 : y 3 = _ := dh_get hG 3 rfl (by kernel_rfl); have e6 : y 6 = _ := dh_get hG 6 rfl (by kernel_rfl); simp only [e3, e6]; refine wantG rfl ?_; (refine G_or _ _ _ rfl rfl rfl rfl ?_; exact hΦ _ _ (Sub.refl _) H)
  apply ObO.valw
  · intro x; rfl
  · intro s' w' y Φ R hs H hG hΦ; simp only [List.nil_append, List.cons_append] at hG; have e7 : y 7 = _ := dh_get hG 7 rfl (by kernel_rfl); simp only [e7]; refine wantG rfl ?_; (go_simp; exact hΦ _ _ (Sub.refl _) H)
  apply ObO.valg
  · intro x; rfl
  · intro s' y hG; simp only [List.nil_append, List.cons_append] at hG; have eg : y 8 = _ := dh_get hG 8 rfl (by kernel_rfl); simp only [eg]; first | exact wanted_t rfl rfl rfl | exact wanted_vt rfl rfl rfl
  · intro hc s' w' y Φ R hs H hG hΦ; have HC := Lib.hid hc; clear hc; skip; (go_simp; exact hΦ _ _ (Sub.refl _) H)
  apply ObO.valg
  · intro x; rfl
  · intro s' y hG; simp only [List.nil_append, List.cons_append] at hG; have eg : y 8 = _ := dh_get hG 8 rfl (by kernel_rfl); simp only [eg]; first | exact wanted_t rfl rfl rfl | exact wanted_vt rfl rfl rfl
  · intro hc s' w' y Φ R hs H hG hΦ; simp only [List.nil_append, List.cons_append] at hG; have e9 : y 9 = _ := dh_get hG 9 rfl (by kernel_rfl); (first | rw [vg_of hc] at e9 | rw [vg_of (and_l hc)] at e9 | rw [vg_of (and_l (and_l hc))] at e9 | rw [vg_of (and_l (and_l (and_l hc)))] at e9 | rw [vg_and hc] at e9 | skip); have HC := Lib.hid hc; clear hc; simp only [e9]; first | (refine L_1 0 _ _ rfl (Try.isAgg4 _) rfl H rfl rfl ?_; exact hΦ _ _ (Sub.refl _) H) | (refine G_pNi 0 _ _ rfl (Try.isAgg4 _) rfl H rfl (Try.sizeOf4 _) ?_; exact hΦ _ _ (Sub.refl _) H)
  apply ObO.valw
  · intro x; rfl
  · intro s' w' y Φ R hs H hG hΦ; simp only [List.nil_append, List.cons_append] at hG; have e8 : y 8 = _ := dh_get hG 8 rfl (by kernel_rfl); have e10 : y 10 = _ := dh_get hG 10 rfl (by kernel_rfl); simp only [e8, e10]; refine wantG rfl ?_; (refine G_and _ _ _ rfl rfl rfl rfl ?_; exact hΦ _ _ (Sub.refl _) H)
  apply ObO.valw
  · intro x; rfl
  · intro s' w' y Φ R hs H hG hΦ; simp only [List.nil_append, List.cons_append] at hG; have e11 : y 11 = _ := dh_get hG 11 rfl (by kernel_rfl); simp only [e11]; refine wantG rfl ?_; (go_simp; exact hΦ _ _ (Sub.refl _) H)
  clear H
  intro s3 w3 yy hs3 H hG
  replace H := (show Holds _ _ ([] ++ _) _ from H); rw [List.nil_append] at H
  simp only [List.nil_append, List.cons_append] at hG
  have e0 : yy 0 = _ := gh_get hG 0 rfl
  have e1 : yy 1 = _ := gh_get hG 1 rfl
  have e2 : yy 2 = _ := gh_get hG 2 rfl
  have e3 : yy 3 = _ := gh_get hG 3 rfl
  have e4 : yy 4 = _ := gh_get hG 4 rfl
  have e5 : yy 5 = _ := gh_get hG 5 rfl
  have e6 : yy 6 = _ := gh_get hG 6 rfl
  have e7 : yy 7 = _ := gh_get hG 7 rfl
  have e8 : yy 8 = _ := gh_get hG 8 rfl
  have e9 : yy 9 = _ := gh_get hG 9 rfl
  have e10 : yy 10 = _ := gh_get hG 10 rfl
  have e11 : yy 11 = _ := gh_get hG 11 rfl
  have e12 : yy 12 = _ := gh_get hG 12 rfl
  simp only [e0, e1, e2, e3, e4, e5, e6, e7, e8, e9, e10, e11, e12]
  clear hG e0 e1 e2 e3 e4 e5 e6 e7 e8 e9 e10 e11 e12
  replace H := H.forget hs3
  refine list_end ?_
  refine then_norm ?_
  refine wp_ret ?_
  exact ret1 rfl (rv_tmp rfl) rfl ⟨rfl, H.drop⟩

set_option maxHeartbeats 4000000 in
theorem refIsList_any {E : World} {s : SH} {L : List HP} {w : World} {k : Int} {key : ByteArray} {val : Int} {vl : Value} {has nl : Bool} (H : Holds E s L w) :
    Calls Try.prog 67 #[.agg #[.int .i64 k, .string key, .int .i64 val, vl, .bool has, .bool nl]] w fun e w' => e = .returned (.bool (k == 1 || k == 2)) ∧ Holds E s L w' := by
  go_enter Try.func67, Try.ntmps67
  refine wp_seq ?_
  refine wp_region_lit ?_
  refine OpG.list rfl ?_; refine B_x 25 _ rfl rfl H ?_; clear H; intro b1 w1 H; (try simp only [Value.cells] at H)
  (try simp only [Act.put, List.setIfInBounds_toArray, List.set_cons_succ, List.set_cons_zero])
  apply seq_op rfl
  · intro Φ hΦ; go_simp; exact hΦ
  (try simp only [Act.put, List.setIfInBounds_toArray, List.set_cons_succ, List.set_cons_zero])
  refine list_end ?_
  refine then_norm ?_
  refine wp_seq ?_
  refine wp_plain_obO (k := 9) (sz := 11) (List.replicate 9 9) (fun _ => []) rfl rfl (by kernel_rfl) (by kernel_rfl) H (by simp only [List.take_succ_cons, List.take_zero]; exact rfl)
    (fun y => by simp only [ov, Act.put, List.setIfInBounds_toArray, List.set_cons_succ, List.set_cons_zero, Nat.zero_add, Nat.reduceAdd]; exact rfl) ?_
  apply ObO.valw
  · intro x; rfl
  · intro s' w' y Φ R hs H hG hΦ; skip; refine wantG rfl ?_; (go_simp; exact hΦ _ _ (Sub.refl _) H)
  apply ObO.valw
  · intro x; rfl
  · intro s' w' y Φ R hs H hG hΦ; simp only [List.nil_append, List.cons_append] at hG; have e0 : y 0 = _ := dh_get hG 0 rfl (by kernel_rfl); simp only [e0]; refine wantG rfl ?_; first | (refine L_1 0 _ _ rfl (Try.isAgg3 _) rfl H rfl rfl ?_; exact hΦ _ _ (Sub.refl _) H) | (refine G_pNi 0 _ _ rfl (Try.isAgg3 _) rfl H rfl (Try.sizeOf3 _) ?_; exact hΦ _ _ (Sub.refl _) H)
  apply ObO.valw
  · intro x; rfl
  · intro s' w' y Φ R hs H hG hΦ; simp only [List.nil_append, List.cons_append] at hG; have e1 : y 1 = _ := dh_get hG 1 rfl (by kernel_rfl); simp only [e1]; refine wantG rfl ?_; (go_simp; exact hΦ _ _ (Sub.refl _) H)
  apply ObO.valw
  · intro x; rfl
  · intro s' w' y Φ R hs H hG hΦ; simp only [List.nil_append, List.cons_append] at hG; have e2 : y 2 = _ := dh_get hG 2 rfl (by kernel_rfl); simp only [e2]; refine wantG rfl ?_; (go_simp; exact hΦ _ _ (Sub.refl _) H)
  apply ObO.valg
  · intro x; rfl
  · intro s' y hG; simp only [List.nil_append, List.cons_append] at hG; have eg : y 3 = _ := dh_get hG 3 rfl (by kernel_rfl); simp only [eg]; first | exact wanted_f rfl rfl rfl | exact wanted_vf rfl rfl rfl
  · intro hc s' w' y Φ R hs H hG hΦ; have HC := Lib.hid hc; clear hc; skip; (go_simp; exact hΦ _ _ (Sub.refl _) H)
  apply ObO.valg
  · intro x; rfl
  · intro s' y hG; simp only [List.nil_append, List.cons_append] at hG; have eg : y 3 = _ := dh_get hG 3 rfl (by kernel_rfl); simp only [eg]; first | exact wanted_f rfl rfl rfl | exact wanted_vf rfl rfl rfl
  · intro hc s' w' y Φ R hs H hG hΦ; simp only [List.nil_append, List.cons_append] at hG; have e4 : y 4 = _ := dh_get hG 4 rfl (by kernel_rfl); (first | rw [vg_of hc] at e4 | rw [vg_of (and_l hc)] at e4 | rw [vg_of (and_l (and_l hc))] at e4 | rw [vg_of (and_l (and_l (and_l hc)))] at e4 | rw [vg_and hc] at e4 | skip); have HC := Lib.hid hc; clear hc; simp only [e4]; first | (refine L_1 0 _ _ rfl (Try.isAgg3 _) rfl H rfl rfl ?_; exact hΦ _ _ (Sub.refl _) H) | (refine G_pNi 0 _ _ rfl (Try.isAgg3 _) rfl H rfl (Try.sizeOf3 _) ?_; exact hΦ _ _ (Sub.refl _) H)
  apply ObO.valg
  · intro x; rfl
  · intro s' y hG; simp only [List.nil_append, List.cons_append] at hG; have eg : y 3 = _ := dh_get hG 3 rfl (by kernel_rfl); simp only [eg]; first | exact wanted_f rfl rfl rfl | exact wanted_vf rfl rfl rfl
  · intro hc s' w' y Φ R hs H hG hΦ; simp only [List.nil_append, List.cons_append] at hG; have e5 : y 5 = _ := dh_get hG 5 rfl (by kernel_rfl); (first | rw [vg_of hc] at e5 | rw [vg_of (and_l hc)] at e5 | rw [vg_of (and_l (and_l hc))] at e5 | rw [vg_of (and_l (and_l (and_l hc)))] at e5 | rw [vg_and hc] at e5 | skip); have HC := Lib.hid hc; clear hc; simp only [e5]; (go_simp; exact hΦ _ _ (Sub.refl _) H)
  apply ObO.valw
  · intro x; rfl
  · intro s' w' y Φ R hs H hG hΦ; simp only [List.nil_append, List.cons_append] at hG; have e3 : y 3 = _ := dh_get hG 3 rfl (by kernel_rfl); have e6 : y 6 = _ := dh_get hG 6 rfl (by kernel_rfl); simp only [e3, e6]; refine wantG rfl ?_; (refine G_or _ _ _ rfl rfl rfl rfl ?_; exact hΦ _ _ (Sub.refl _) H)
  apply ObO.valw
  · intro x; rfl
  · intro s' w' y Φ R hs H hG hΦ; simp only [List.nil_append, List.cons_append] at hG; have e7 : y 7 = _ := dh_get hG 7 rfl (by kernel_rfl); simp only [e7]; refine wantG rfl ?_; (go_simp; exact hΦ _ _ (Sub.refl _) H)
  clear H
  intro s3 w3 yy hs3 H hG
  replace H := (show Holds _ _ ([] ++ _) _ from H); rw [List.nil_append] at H
  simp only [List.nil_append, List.cons_append] at hG
  have e0 : yy 0 = _ := gh_get hG 0 rfl
  have e1 : yy 1 = _ := gh_get hG 1 rfl
  have e2 : yy 2 = _ := gh_get hG 2 rfl
  have e3 : yy 3 = _ := gh_get hG 3 rfl
  have e4 : yy 4 = _ := gh_get hG 4 rfl
  have e5 : yy 5 = _ := gh_get hG 5 rfl
  have e6 : yy 6 = _ := gh_get hG 6 rfl
  have e7 : yy 7 = _ := gh_get hG 7 rfl
  have e8 : yy 8 = _ := gh_get hG 8 rfl
  simp only [e0, e1, e2, e3, e4, e5, e6, e7, e8]
  clear hG e0 e1 e2 e3 e4 e5 e6 e7 e8
  replace H := H.forget hs3
  refine list_end ?_
  refine then_norm ?_
  refine wp_ret ?_
  exact ret1 rfl (rv_tmp rfl) rfl ⟨rfl, H.drop⟩
end Go.Proofs.Yticpadjheelipaa
