/- The inner layer: what an operation is of. -/
import Derived.Test.YticpadjheelipaaView
import Derived.Test.YticpadjheelipaaGd
import Derived.Test.YticpadjheelipaaRet
namespace Go.Proofs.Yticpadjheelipaa
open Go.RowKit
set_option linter.all false
set_option maxRecDepth 10000

set_option maxHeartbeats 4000000 in
theorem of_spec {E : World} {s : SH} {L : List HP} {w : World} (o : Op') (vl : Value) (H : Holds E s L w) :
    Calls Try.prog 40 #[opv o vl] w fun e w' => e = .returned (.tuple #[encT (thingOf o), .bool (isOf o)]) ∧ Holds E s L w' := by
  unfold opv
  obtain ⟨k, key, val, li, has, nl⟩ := o
  simp only [thingOf, isOf, encT]
  go_enter Try.func40, Try.ntmps40
  go_wp2_with ((with_reducible refine OpG.list rfl ?_); first
    | (refine G_box 25 _ rfl (v := Value.agg #[.int .i64 _, .string key, .int .i64 val, vl, .bool has, .bool nl]) rfl H ?_; clear H; intro b w1 H; simp only [Value.cells] at H)
    | (refine G_alloc 73 rfl (Try.zeroValue73 _) H ?_; clear H; intro g w1 H; simp only [Value.cells] at H))
  refine wp_draw_obO (k := 21) (sz := 23) (List.replicate 21 21) (fun i => if i = 19 then [pt g (.cells #[.bool false, .string ⟨#[]⟩] 73 (0, 0))] else []) mixed (by simp) rfl (by kernel_rfl) (by kernel_rfl) (by kernel_rfl) H (by simp only [List.take_succ_cons, List.take_zero]; exact rfl) (by simp only [List.drop_succ_cons, List.drop_zero]; exact rfl)
    (fun y => by simp only [ov, Act.put, List.setIfInBounds_toArray, List.set_cons_succ, List.set_cons_zero, Nat.zero_add, Nat.reduceAdd]; exact rfl) ?_
  apply ObO.valw
  · intro x; rfl
  · intro s' w' y Φ R hs H hG hΦ; skip; refine wantG rfl ?_; (go_simp; exact hΦ _ _ (Sub.refl _) H)
  apply ObO.valw
  · intro x; rfl
  · intro s' w' y Φ R hs H hG hΦ; simp only [List.nil_append, List.cons_append] at hG; have e0 : y 0 = _ := dh_get hG 0 rfl (by kernel_rfl); simp only [e0]; refine wantG rfl ?_; first | (refine G_p1i 0 _ _ rfl (Try.isAgg3 _) rfl H rfl rfl ?_; exact hΦ _ _ (Sub.refl _) H) | (refine G_p1i 0 _ _ rfl (Try.isAgg9 _) rfl H rfl rfl ?_; exact hΦ _ _ (Sub.refl _) H)
  apply ObO.valw
  · intro x; rfl
  · intro s' w' y Φ R hs H hG hΦ; simp only [List.nil_append, List.cons_append] at hG; have e1 : y 1 = _ := dh_get hG 1 rfl (by kernel_rfl); simp only [e1]; refine wantG rfl ?_; (go_simp; exact hΦ _ _ (Sub.refl _) H)
  apply ObO.valw
  · intro x; rfl
  · intro s' w' y Φ R hs H hG hΦ; simp only [List.nil_append, List.cons_append] at hG; have e2 : y 2 = _ := dh_get hG 2 rfl (by kernel_rfl); simp only [e2]; refine wantG rfl ?_; (go_simp; exact hΦ _ _ (Sub.refl _) H)
  apply ObO.valg
  · intro x; rfl
  · intro s' y hG; simp only [List.nil_append, List.cons_append] at hG; have eg : y 3 = _ := dh_get hG 3 rfl (by kernel_rfl); simp only [eg]; first | exact wanted_f rfl rfl rfl | exact wanted_vf rfl rfl rfl
  · intro hc s' w' y Φ R hs H hG hΦ; have HC := Lib.hid hc; clear hc; skip; (go_simp; exact hΦ _ _ (Sub.refl _) H)
  apply ObO.valg
  · intro x; rfl
  · intro s' y hG; simp only [List.nil_append, List.cons_append] at hG; have eg : y 3 = _ := dh_get hG 3 rfl (by kernel_rfl); simp only [eg]; first | exact wanted_f rfl rfl rfl | exact wanted_vf rfl rfl rfl
  · intro hc s' w' y Φ R hs H hG hΦ; simp only [List.nil_append, List.cons_append] at hG; have e4 : y 4 = _ := dh_get hG 4 rfl (by kernel_rfl); (first | rw [vg_of hc] at e4 | rw [vg_of (and_l hc)] at e4 | rw [vg_of (and_l (and_l hc))] at e4 | rw [vg_of (and_l (and_l (and_l hc)))] at e4 | rw [vg_and hc] at e4 | skip); have HC := Lib.hid hc; clear hc; simp only [e4]; first | (refine G_p1i 0 _ _ rfl (Try.isAgg3 _) rfl H rfl rfl ?_; exact hΦ _ _ (Sub.refl _) H) | (refine G_p1i 0 _ _ rfl (Try.isAgg9 _) rfl H rfl rfl ?_; exact hΦ _ _ (Sub.refl _) H)
  apply ObO.valg
  · intro x; rfl
  · intro s' y hG; simp only [List.nil_append, List.cons_append] at hG; have eg : y 3 = _ := dh_get hG 3 rfl (by kernel_rfl); simp only [eg]; first | exact wanted_f rfl rfl rfl | exact wanted_vf rfl rfl rfl
  · intro hc s' w' y Φ R hs H hG hΦ; simp only [List.nil_append, List.cons_append] at hG; have e5 : y 5 = _ := dh_get hG 5 rfl (by kernel_rfl); (first | rw [vg_of hc] at e5 | rw [vg_of (and_l hc)] at e5 | rw [vg_of (and_l (and_l hc))] at e5 | rw [vg_of (and_l (and_l (and_l hc)))] at e5 | rw [vg_and hc] at e5 | skip); have HC := Lib.hid hc; clear hc; simp only [e5]; (go_simp; exact hΦ _ _ (Sub.refl _) H)
  apply ObO.valw
  · intro x; rfl
  · intro s' w' y Φ R hs H hG hΦ; simp only [List.nil_append, List.cons_append] at hG; have e3 : y 3 = _ := dh_get hG 3 rfl (by kernel_rfl); have e6 : y 6 = _ := dh_get hG 6 rfl (by kernel_rfl); simp only [e3, e6]; refine wantG rfl ?_; (refine G_or _ _ _ rfl rfl rfl rfl ?_; exact hΦ _ _ (Sub.refl _) H)
  apply ObO.valw
  · intro x; rfl
  · intro s' w' y Φ R hs H hG hΦ; skip; refine wantG rfl ?_; (go_simp; exact hΦ _ _ (Sub.refl _) H)
  apply ObO.valw
  · intro x; rfl
  · intro s' w' y Φ R hs H hG hΦ; simp only [List.nil_append, List.cons_append] at hG; have e8 : y 8 = _ := dh_get hG 8 rfl (by kernel_rfl); simp only [e8]; refine wantG rfl ?_; first | (refine G_p1i 0 _ _ rfl (Try.isAgg3 _) rfl H rfl rfl ?_; exact hΦ _ _ (Sub.refl _) H) | (refine G_p1i 0 _ _ rfl (Try.isAgg9 _) rfl H rfl rfl ?_; exact hΦ _ _ (Sub.refl _) H)
  apply ObO.valw
  · intro x; rfl
  · intro s' w' y Φ R hs H hG hΦ; simp only [List.nil_append, List.cons_append] at hG; have e7 : y 7 = _ := dh_get hG 7 rfl (by kernel_rfl); have e9 : y 9 = _ := dh_get hG 9 rfl (by kernel_rfl); simp only [e7, e9]; refine wantG rfl ?_; (go_simp; exact hΦ _ _ (Sub.refl _) H)
  apply ObO.valw
  · intro x; rfl
  · intro s' w' y Φ R hs H hG hΦ; skip; refine wantG rfl ?_; (go_simp; exact hΦ _ _ (Sub.refl _) H)
  apply ObO.valw
  · intro x; rfl
  · intro s' w' y Φ R hs H hG hΦ; simp only [List.nil_append, List.cons_append] at hG; have e11 : y 11 = _ := dh_get hG 11 rfl (by kernel_rfl); simp only [e11]; refine wantG rfl ?_; first | (refine G_p1i 0 _ _ rfl (Try.isAgg3 _) rfl H rfl rfl ?_; exact hΦ _ _ (Sub.refl _) H) | (refine G_p1i 0 _ _ rfl (Try.isAgg9 _) rfl H rfl rfl ?_; exact hΦ _ _ (Sub.refl _) H)
  apply ObO.valw
  · intro x; rfl
  · intro s' w' y Φ R hs H hG hΦ; simp only [List.nil_append, List.cons_append] at hG; have e12 : y 12 = _ := dh_get hG 12 rfl (by kernel_rfl); simp only [e12]; refine wantG rfl ?_; (go_simp; exact hΦ _ _ (Sub.refl _) H)
  apply ObO.valw
  · intro x; rfl
  · intro s' w' y Φ R hs H hG hΦ; simp only [List.nil_append, List.cons_append] at hG; have e13 : y 13 = _ := dh_get hG 13 rfl (by kernel_rfl); simp only [e13]; refine wantG rfl ?_; (go_simp; exact hΦ _ _ (Sub.refl _) H)
  apply ObO.valg
  · intro x; rfl
  · intro s' y hG; simp only [List.nil_append, List.cons_append] at hG; have eg : y 14 = _ := dh_get hG 14 rfl (by kernel_rfl); simp only [eg]; first | exact wanted_t rfl rfl rfl | exact wanted_vt rfl rfl rfl
  · intro hc s' w' y Φ R hs H hG hΦ; have HC := Lib.hid hc; clear hc; skip; (go_simp; exact hΦ _ _ (Sub.refl _) H)
  apply ObO.valg
  · intro x; rfl
  · intro s' y hG; simp only [List.nil_append, List.cons_append] at hG; have eg : y 14 = _ := dh_get hG 14 rfl (by kernel_rfl); simp only [eg]; first | exact wanted_t rfl rfl rfl | exact wanted_vt rfl rfl rfl
  · intro hc s' w' y Φ R hs H hG hΦ; simp only [List.nil_append, List.cons_append] at hG; have e15 : y 15 = _ := dh_get hG 15 rfl (by kernel_rfl); (first | rw [vg_of hc] at e15 | rw [vg_of (and_l hc)] at e15 | rw [vg_of (and_l (and_l hc))] at e15 | rw [vg_of (and_l (and_l (and_l hc)))] at e15 | rw [vg_and hc] at e15 | skip); have HC := Lib.hid hc; clear hc; simp only [e15]; first | (refine G_p1i 0 _ _ rfl (Try.isAgg3 _) rfl H rfl rfl ?_; exact hΦ _ _ (Sub.refl _) H) | (refine G_p1i 0 _ _ rfl (Try.isAgg9 _) rfl H rfl rfl ?_; exact hΦ _ _ (Sub.refl _) H)
  apply ObO.valg
  · intro x; rfl
  · intro s' y hG; simp only [List.nil_append, List.cons_append] at hG; have eg : y 14 = _ := dh_get hG 14 rfl (by kernel_rfl); simp only [eg]; first | exact wanted_t rfl rfl rfl | exact wanted_vt rfl rfl rfl
  · intro hc s' w' y Φ R hs H hG hΦ; simp only [List.nil_append, List.cons_append] at hG; have e16 : y 16 = _ := dh_get hG 16 rfl (by kernel_rfl); (first | rw [vg_of hc] at e16 | rw [vg_of (and_l hc)] at e16 | rw [vg_of (and_l (and_l hc))] at e16 | rw [vg_of (and_l (and_l (and_l hc)))] at e16 | rw [vg_and hc] at e16 | skip); have HC := Lib.hid hc; clear hc; simp only [e16]; (go_simp; exact hΦ _ _ (Sub.refl _) H)
  apply ObO.valw
  · intro x; rfl
  · intro s' w' y Φ R hs H hG hΦ; simp only [List.nil_append, List.cons_append] at hG; have e14 : y 14 = _ := dh_get hG 14 rfl (by kernel_rfl); have e17 : y 17 = _ := dh_get hG 17 rfl (by kernel_rfl); simp only [e14, e17]; refine wantG rfl ?_; (refine G_and _ _ _ rfl rfl rfl rfl ?_; exact hΦ _ _ (Sub.refl _) H)
  refine ObO.own (fun _ _ => True) (fun _ => [pt g (.cells #[.bool (k == 1 || k == 2), .string key] 73 (0, 0))]) (fun _ _ _ _ h => h) ?_ ?_
  · intro s' w' y Φ R hs H hG hΦ
    replace H : Holds E s' (pt g (.cells #[.bool false, .string ⟨#[]⟩] 73 (0, 0)) :: ((pt b (.cells #[.int .i64 k, .string key, .int .i64 val, vl, .bool has, .bool nl] 25 (0, 0)) :: L) ++ R)) w' := H
    simp [dh, isV, dep, Region.binds] at hG
    (try simp only [hG])
    refine wantY rfl ?_
    refine G_setN (c := [.bool (k == 1 || k == 2), .string key]) _ _ _ rfl (Try.sizeOf73 _) rfl rfl (by simp [Value.oneCell']) H rfl ?_
    intro w5 H
    exact hΦ _ _ _ (Sub.refl _) H trivial
  apply ObO.valw
  · intro x; rfl
  · intro s' w' y Φ R hs H hG hΦ; simp only [List.nil_append, List.cons_append] at hG; have e18 : y 18 = _ := dh_get hG 18 rfl (by kernel_rfl); simp only [e18]; refine wantG rfl ?_; (go_simp; exact hΦ _ _ (Sub.refl _) H)
  clear H
  intro s3 w3 yy hs3 H hG
  replace H : Holds E s3 (pt g (.cells #[.bool (k == 1 || k == 2), .string key] 73 (0, 0)) :: (pt b (.cells #[.int .i64 k, .string key, .int .i64 val, vl, .bool has, .bool nl] 25 (0, 0)) :: L)) w3 := H
  simp only [List.nil_append, List.cons_append] at hG
  have e0 : yy 0 = _ := gh_get hG 0 rfl
  have e1 : yy 1 = _ := gh_get hG 1 rfl
  have e2 : yy 2 = _ := gh_get hG 2 rfl
  have e3 : yy 3 = _ := gh_get hG 3 rfl
  have e4 : yy 4 = _ := gh_get hG 4 rfl
  have e5 : yy 5 = _ := gh_get hG 5 rfl
  have e6 : yy 6 = _ := gh_get hG 6 rfl
  have e7 : yy 7 = _ := gh_get hG 7 rfl
  have e8 : yy 8 = _ := gh_get hG 8 rfl
  have e9 : yy 9 = _ := gh_get hG 9 rfl
  have e10 : yy 10 = _ := gh_get hG 10 rfl
  have e11 : yy 11 = _ := gh_get hG 11 rfl
  have e12 : yy 12 = _ := gh_get hG 12 rfl
  have e13 : yy 13 = _ := gh_get hG 13 rfl
  have e14 : yy 14 = _ := gh_get hG 14 rfl
  have e15 : yy 15 = _ := gh_get hG 15 rfl
  have e16 : yy 16 = _ := gh_get hG 16 rfl
  have e17 : yy 17 = _ := gh_get hG 17 rfl
  have e18 : yy 18 = _ := gh_get hG 18 rfl
  have e20 : yy 20 = _ := gh_get hG 20 rfl
  simp only [e0, e1, e2, e3, e4, e5, e6, e7, e8, e9, e10, e11, e12, e13, e14, e15, e16, e17, e18, e20]
  clear hG e0 e1 e2 e3 e4 e5 e6 e7 e8 e9 e10 e11 e12 e13 e14 e15 e16 e17 e18 e20
  go_wp2
  exact ret2 rfl (rv_cellN 0 (c := [.bool (k == 1 || k == 2), .string key]) H rfl rfl (Try.isAgg73 _) (Try.sizeOf73 _)) (rv_tmp rfl) rfl ⟨rfl, (H.drop.drop).forget hs3⟩
end Go.Proofs.Yticpadjheelipaa
