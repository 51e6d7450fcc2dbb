/- The inner layer: whether a read is what a view has. -/
import Derived.Test.YticpadjheelipaaView
import Derived.Test.YticpadjheelipaaSlc
import Derived.Lib.Hide
namespace Go.Proofs.Yticpadjheelipaa
open Go.RowKit
set_option linter.all false
set_option maxRecDepth 10000

set_option maxHeartbeats 4000000 in
theorem rightV_spec {E : World} {s : SH} {L : List HP} {w : World} (x : View) (o : Op') (vl ol : Value) (hv : kI.Sl s vl x.list) (ho : kI.Sl s ol o.list) (H : Holds E s L w) :
    Calls Try.prog 42 #[viewv x vl, opv o ol] w fun e w' => e = .returned (.bool (rightV x o)) ∧ Holds E s L w' := by
  unfold opv viewv
  obtain ⟨k, key, val, li, has, nl⟩ := o
  obtain ⟨whole, list, none_, value⟩ := x
  simp only at hv ho
  have hv0 := hv
  have ho0 := ho
  obtain ⟨Av, cv, rfl, hv1, hv2, -⟩ := hv
  obtain ⟨Ao, co, rfl, ho1, ho2, -⟩ := ho
  have hv2' : list.length * 8 ≤ 140737488355328 := hv2
  have ho2' : li.length * 8 ≤ 140737488355328 := ho2
  clear hv2 ho2
  obtain ⟨n, hn⟩ : ∃ n : Int, n = (li.length : Int) - list.length := ⟨_, rfl⟩
  have hn1 : n ≤ li.length := by omega
  have hw : IntKind.i64.wrap ((li.length : Int) - list.length) = n := by rw [i64w (by omega) (by omega), hn]
  have HN := Lib.hid hn
  clear hn
  go_enter Try.func42, Try.ntmps42
  refine wp_seq ?_
  refine wp_region_lit ?_
  refine OpG.list rfl ?_; refine B_x 77 _ rfl rfl H ?_; clear H; intro b2 w1 H; (try simp only [Value.cells] at H)
  (try simp only [Act.put, List.setIfInBounds_toArray, List.set_cons_succ, List.set_cons_zero])
  refine OpG.list rfl ?_; refine B_x 25 _ rfl rfl H ?_; clear H; intro b3 w1 H; (try simp only [Value.cells] at H)
  (try simp only [Act.put, List.setIfInBounds_toArray, List.set_cons_succ, List.set_cons_zero])
  apply seq_op rfl
  · intro Φ hΦ; go_simp; exact hΦ
  (try simp only [Act.put, List.setIfInBounds_toArray, List.set_cons_succ, List.set_cons_zero])
  refine list_end ?_
  refine then_norm ?_
  refine wp_seq ?_
  refine wp_seq ?_
  refine wp_region_lit ?_
  apply seq_op rfl
  · intro Φ hΦ; go_simp; exact hΦ
  (try simp only [Act.put, List.setIfInBounds_toArray, List.set_cons_succ, List.set_cons_zero])
  apply seq_op rfl
  · intro Φ hΦ; first | (refine L_1 0 _ _ rfl (Try.isAgg3 _) rfl H rfl rfl ?_; exact hΦ) | (refine L_1 1 _ _ rfl (Try.isAgg3 _) rfl H rfl rfl ?_; exact hΦ) | (refine G_pNi 0 _ _ rfl (Try.isAgg3 _) rfl H rfl (Try.sizeOf3 _) ?_; exact hΦ) | (refine G_pNi 1 _ _ rfl (Try.isAgg3 _) rfl H rfl (Try.sizeOf3 _) ?_; exact hΦ)
  (try simp only [Act.put, List.setIfInBounds_toArray, List.set_cons_succ, List.set_cons_zero])
  apply seq_op rfl
  · intro Φ hΦ; go_simp; exact hΦ
  (try simp only [Act.put, List.setIfInBounds_toArray, List.set_cons_succ, List.set_cons_zero])
  refine list_end ?_
  refine then_norm ?_
  refine wp_cond_split rfl (fun hc => ?_) (fun hc => ?_)
  · skip
    refine wp_seq ?_
    refine wp_plain_obO (k := 22) (sz := 57) (List.replicate 22 22) (fun _ => []) rfl rfl (by kernel_rfl) (by kernel_rfl) H (by simp only [List.take_succ_cons, List.take_zero]; exact rfl)
      (fun y => by simp only [ov, Act.put, List.setIfInBounds_toArray, List.set_cons_succ, List.set_cons_zero, Nat.zero_add, Nat.reduceAdd]; exact rfl) ?_
    apply ObO.valw
    · intro x; rfl
    · intro s' w' y Φ R hs H hG hΦ; skip; refine wantG rfl ?_; (go_simp; exact hΦ _ _ (Sub.refl _) H)
    apply ObO.valw
    · intro x; rfl
    · intro s' w' y Φ R hs H hG hΦ; simp only [List.nil_append, List.cons_append] at hG; have e0 : y 0 = _ := dh_get hG 0 rfl (by kernel_rfl); simp only [e0]; refine wantG rfl ?_; first | (refine L_1 0 _ _ rfl (Try.isAgg4 _) rfl H rfl rfl ?_; exact hΦ _ _ (Sub.refl _) H) | (refine L_1 1 _ _ rfl (Try.isAgg4 _) rfl H rfl rfl ?_; exact hΦ _ _ (Sub.refl _) H) | (refine G_pNi 0 _ _ rfl (Try.isAgg4 _) rfl H rfl (Try.sizeOf4 _) ?_; exact hΦ _ _ (Sub.refl _) H) | (refine G_pNi 1 _ _ rfl (Try.isAgg4 _) rfl H rfl (Try.sizeOf4 _) ?_; exact hΦ _ _ (Sub.refl _) H)
    apply ObO.valw
    · intro x; rfl
    · intro s' w' y Φ R hs H hG hΦ; simp only [List.nil_append, List.cons_append] at hG; have e1 : y 1 = _ := dh_get hG 1 rfl (by kernel_rfl); simp only [e1]; refine wantG rfl ?_; (go_simp; exact hΦ _ _ (Sub.refl _) H)
    apply ObO.valw
    · intro x; rfl
    · intro s' w' y Φ R hs H hG hΦ; simp only [List.nil_append, List.cons_append] at hG; have e2 : y 2 = _ := dh_get hG 2 rfl (by kernel_rfl); simp only [e2]; refine wantG rfl ?_; (go_simp; exact hΦ _ _ (Sub.refl _) H)
    apply ObO.valg
    · intro x; rfl
    · intro s' y hG; simp only [List.nil_append, List.cons_append] at hG; have eg : y 3 = _ := dh_get hG 3 rfl (by kernel_rfl); simp only [eg]; first | exact wanted_f rfl rfl rfl | exact wanted_vf rfl rfl rfl
    · intro hc s' w' y Φ R hs H hG hΦ; have HC := Lib.hid hc; clear hc; skip; (go_simp; exact hΦ _ _ (Sub.refl _) H)
    apply ObO.valg
    · intro x; rfl
    · intro s' y hG; simp only [List.nil_append, List.cons_append] at hG; have eg : y 3 = _ := dh_get hG 3 rfl (by kernel_rfl); simp only [eg]; first | exact wanted_f rfl rfl rfl | exact wanted_vf rfl rfl rfl
    · intro hc s' w' y Φ R hs H hG hΦ; simp only [List.nil_append, List.cons_append] at hG; have e4 : y 4 = _ := dh_get hG 4 rfl (by kernel_rfl); (first | rw [vg_of hc] at e4 | rw [vg_of (and_l hc)] at e4 | rw [vg_of (and_l (and_l hc))] at e4 | rw [vg_of (and_l (and_l (and_l hc)))] at e4 | rw [vg_and hc] at e4 | skip); have HC := Lib.hid hc; clear hc; simp only [e4]; first | (refine L_1 0 _ _ rfl (Try.isAgg4 _) rfl H rfl rfl ?_; exact hΦ _ _ (Sub.refl _) H) | (refine L_1 1 _ _ rfl (Try.isAgg4 _) rfl H rfl rfl ?_; exact hΦ _ _ (Sub.refl _) H) | (refine G_pNi 0 _ _ rfl (Try.isAgg4 _) rfl H rfl (Try.sizeOf4 _) ?_; exact hΦ _ _ (Sub.refl _) H) | (refine G_pNi 1 _ _ rfl (Try.isAgg4 _) rfl H rfl (Try.sizeOf4 _) ?_; exact hΦ _ _ (Sub.refl _) H)
    apply ObO.valg
    · intro x; rfl
    · intro s' y hG; simp only [List.nil_append, List.cons_append] at hG; have eg : y 3 = _ := dh_get hG 3 rfl (by kernel_rfl); simp only [eg]; first | exact wanted_f rfl rfl rfl | exact wanted_vf rfl rfl rfl
    · intro hc s' w' y Φ R hs H hG hΦ; have HC := Lib.hid hc; clear hc; skip; (go_simp; exact hΦ _ _ (Sub.refl _) H)
    apply ObO.valg
    · intro x; rfl
    · intro s' y hG; simp only [List.nil_append, List.cons_append] at hG; have eg : y 3 = _ := dh_get hG 3 rfl (by kernel_rfl); simp only [eg]; first | exact wanted_f rfl rfl rfl | exact wanted_vf rfl rfl rfl
    · intro hc s' w' y Φ R hs H hG hΦ; simp only [List.nil_append, List.cons_append] at hG; have e6 : y 6 = _ := dh_get hG 6 rfl (by kernel_rfl); (first | rw [vg_of hc] at e6 | rw [vg_of (and_l hc)] at e6 | rw [vg_of (and_l (and_l hc))] at e6 | rw [vg_of (and_l (and_l (and_l hc)))] at e6 | rw [vg_and hc] at e6 | skip); have HC := Lib.hid hc; clear hc; simp only [e6]; first | (refine L_1 0 _ _ rfl (Try.isAgg4 _) rfl H rfl rfl ?_; exact hΦ _ _ (Sub.refl _) H) | (refine L_1 1 _ _ rfl (Try.isAgg4 _) rfl H rfl rfl ?_; exact hΦ _ _ (Sub.refl _) H) | (refine G_pNi 0 _ _ rfl (Try.isAgg4 _) rfl H rfl (Try.sizeOf4 _) ?_; exact hΦ _ _ (Sub.refl _) H) | (refine G_pNi 1 _ _ rfl (Try.isAgg4 _) rfl H rfl (Try.sizeOf4 _) ?_; exact hΦ _ _ (Sub.refl _) H)
    apply ObO.valg
    · intro x; rfl
    · intro s' y hG; simp only [List.nil_append, List.cons_append] at hG; have eg : y 3 = _ := dh_get hG 3 rfl (by kernel_rfl); simp only [eg]; first | exact wanted_f rfl rfl rfl | exact wanted_vf rfl rfl rfl
    · intro hc s' w' y Φ R hs H hG hΦ; simp only [List.nil_append, List.cons_append] at hG; have e5 : y 5 = _ := dh_get hG 5 rfl (by kernel_rfl); have e7 : y 7 = _ := dh_get hG 7 rfl (by kernel_rfl); (first | rw [vg_of hc] at e5 | rw [vg_of (and_l hc)] at e5 | rw [vg_of (and_l (and_l hc))] at e5 | rw [vg_of (and_l (and_l (and_l hc)))] at e5 | rw [vg_and hc] at e5 | skip); (first | rw [vg_of hc] at e7 | rw [vg_of (and_l hc)] at e7 | rw [vg_of (and_l (and_l hc))] at e7 | rw [vg_of (and_l (and_l (and_l hc)))] at e7 | rw [vg_and hc] at e7 | skip); have HC := Lib.hid hc; clear hc; simp only [e5, e7]; (go_simp; exact hΦ _ _ (Sub.refl _) H)
    apply ObO.valg
    · intro x; rfl
    · intro s' y hG; simp only [List.nil_append, List.cons_append] at hG; have eg : y 3 = _ := dh_get hG 3 rfl (by kernel_rfl); simp only [eg]; first | exact wanted_f rfl rfl rfl | exact wanted_vf rfl rfl rfl
    · intro hc s' w' y Φ R hs H hG hΦ; simp only [List.nil_append, List.cons_append] at hG; have e8 : y 8 = _ := dh_get hG 8 rfl (by kernel_rfl); (first | rw [vg_of hc] at e8 | rw [vg_of (and_l hc)] at e8 | rw [vg_of (and_l (and_l hc))] at e8 | rw [vg_of (and_l (and_l (and_l hc)))] at e8 | rw [vg_and hc] at e8 | skip); have HC := Lib.hid hc; clear hc; simp only [e8]; (go_simp; exact hΦ _ _ (Sub.refl _) H)
    apply ObO.valg
    · intro x; rfl
    · intro s' y hG; simp only [List.nil_append, List.cons_append] at hG; have eg : y 9 = _ := dh_get hG 9 rfl (by kernel_rfl); simp only [eg]; first | exact wanted_t rfl rfl rfl | exact wanted_vt rfl rfl rfl
    · intro hc s' w' y Φ R hs H hG hΦ; have HC := Lib.hid hc; clear hc; skip; (go_simp; exact hΦ _ _ (Sub.refl _) H)
    apply ObO.valg
    · intro x; rfl
    · intro s' y hG; simp only [List.nil_append, List.cons_append] at hG; have eg : y 9 = _ := dh_get hG 9 rfl (by kernel_rfl); simp only [eg]; first | exact wanted_t rfl rfl rfl | exact wanted_vt rfl rfl rfl
    · intro hc s' w' y Φ R hs H hG hΦ; simp only [List.nil_append, List.cons_append] at hG; have e10 : y 10 = _ := dh_get hG 10 rfl (by kernel_rfl); (first | rw [vg_of hc] at e10 | rw [vg_of (and_l hc)] at e10 | rw [vg_of (and_l (and_l hc))] at e10 | rw [vg_of (and_l (and_l (and_l hc)))] at e10 | rw [vg_and hc] at e10 | skip); have HC := Lib.hid hc; clear hc; simp only [e10]; first | (refine L_1 0 _ _ rfl (Try.isAgg4 _) rfl H rfl rfl ?_; exact hΦ _ _ (Sub.refl _) H) | (refine L_1 1 _ _ rfl (Try.isAgg4 _) rfl H rfl rfl ?_; exact hΦ _ _ (Sub.refl _) H) | (refine G_pNi 0 _ _ rfl (Try.isAgg4 _) rfl H rfl (Try.sizeOf4 _) ?_; exact hΦ _ _ (Sub.refl _) H) | (refine G_pNi 1 _ _ rfl (Try.isAgg4 _) rfl H rfl (Try.sizeOf4 _) ?_; exact hΦ _ _ (Sub.refl _) H)
    apply ObO.valg
    · intro x; rfl
    · intro s' y hG; simp only [List.nil_append, List.cons_append] at hG; have eg : y 9 = _ := dh_get hG 9 rfl (by kernel_rfl); simp only [eg]; first | exact wanted_t rfl rfl rfl | exact wanted_vt rfl rfl rfl
    · intro hc s' w' y Φ R hs H hG hΦ; simp only [List.nil_append, List.cons_append] at hG; have e11 : y 11 = _ := dh_get hG 11 rfl (by kernel_rfl); (first | rw [vg_of hc] at e11 | rw [vg_of (and_l hc)] at e11 | rw [vg_of (and_l (and_l hc))] at e11 | rw [vg_of (and_l (and_l (and_l hc)))] at e11 | rw [vg_and hc] at e11 | skip); have HC := Lib.hid hc; clear hc; simp only [e11]; (go_simp; exact hΦ _ _ (Sub.refl _) H)
    apply ObO.valg
    · intro x; rfl
    · intro s' y hG; simp only [List.nil_append, List.cons_append] at hG; have eg : y 12 = _ := dh_get hG 12 rfl (by kernel_rfl); simp only [eg]; first | exact wanted_f rfl rfl rfl | exact wanted_vf rfl rfl rfl
    · intro hc s' w' y Φ R hs H hG hΦ; have HC := Lib.hid hc; clear hc; skip; (go_simp; exact hΦ _ _ (Sub.refl _) H)
    apply ObO.valg
    · intro x; rfl
    · intro s' y hG; simp only [List.nil_append, List.cons_append] at hG; have eg : y 12 = _ := dh_get hG 12 rfl (by kernel_rfl); simp only [eg]; first | exact wanted_f rfl rfl rfl | exact wanted_vf rfl rfl rfl
    · intro hc s' w' y Φ R hs H hG hΦ; simp only [List.nil_append, List.cons_append] at hG; have e13 : y 13 = _ := dh_get hG 13 rfl (by kernel_rfl); (first | rw [vg_of hc] at e13 | rw [vg_of (and_l hc)] at e13 | rw [vg_of (and_l (and_l hc))] at e13 | rw [vg_of (and_l (and_l (and_l hc)))] at e13 | rw [vg_and hc] at e13 | skip); have HC := Lib.hid hc; clear hc; simp only [e13]; first | (refine L_1 0 _ _ rfl (Try.isAgg3 _) rfl H rfl rfl ?_; exact hΦ _ _ (Sub.refl _) H) | (refine L_1 1 _ _ rfl (Try.isAgg3 _) rfl H rfl rfl ?_; exact hΦ _ _ (Sub.refl _) H) | (refine G_pNi 0 _ _ rfl (Try.isAgg3 _) rfl H rfl (Try.sizeOf3 _) ?_; exact hΦ _ _ (Sub.refl _) H) | (refine G_pNi 1 _ _ rfl (Try.isAgg3 _) rfl H rfl (Try.sizeOf3 _) ?_; exact hΦ _ _ (Sub.refl _) H)
    apply ObO.valg
    · intro x; rfl
    · intro s' y hG; simp only [List.nil_append, List.cons_append] at hG; have eg : y 12 = _ := dh_get hG 12 rfl (by kernel_rfl); simp only [eg]; first | exact wanted_f rfl rfl rfl | exact wanted_vf rfl rfl rfl
    · intro hc s' w' y Φ R hs H hG hΦ; have HC := Lib.hid hc; clear hc; skip; (go_simp; exact hΦ _ _ (Sub.refl _) H)
    apply ObO.valg
    · intro x; rfl
    · intro s' y hG; simp only [List.nil_append, List.cons_append] at hG; have eg : y 12 = _ := dh_get hG 12 rfl (by kernel_rfl); simp only [eg]; first | exact wanted_f rfl rfl rfl | exact wanted_vf rfl rfl rfl
    · intro hc s' w' y Φ R hs H hG hΦ; simp only [List.nil_append, List.cons_append] at hG; have e15 : y 15 = _ := dh_get hG 15 rfl (by kernel_rfl); (first | rw [vg_of hc] at e15 | rw [vg_of (and_l hc)] at e15 | rw [vg_of (and_l (and_l hc))] at e15 | rw [vg_of (and_l (and_l (and_l hc)))] at e15 | rw [vg_and hc] at e15 | skip); have HC := Lib.hid hc; clear hc; simp only [e15]; first | (refine L_1 0 _ _ rfl (Try.isAgg3 _) rfl H rfl rfl ?_; exact hΦ _ _ (Sub.refl _) H) | (refine L_1 1 _ _ rfl (Try.isAgg3 _) rfl H rfl rfl ?_; exact hΦ _ _ (Sub.refl _) H) | (refine G_pNi 0 _ _ rfl (Try.isAgg3 _) rfl H rfl (Try.sizeOf3 _) ?_; exact hΦ _ _ (Sub.refl _) H) | (refine G_pNi 1 _ _ rfl (Try.isAgg3 _) rfl H rfl (Try.sizeOf3 _) ?_; exact hΦ _ _ (Sub.refl _) H)
    apply ObO.valg
    · intro x; rfl
    · intro s' y hG; simp only [List.nil_append, List.cons_append] at hG; have eg : y 12 = _ := dh_get hG 12 rfl (by kernel_rfl); simp only [eg]; first | exact wanted_f rfl rfl rfl | exact wanted_vf rfl rfl rfl
    · intro hc s' w' y Φ R hs H hG hΦ; simp only [List.nil_append, List.cons_append] at hG; have e14 : y 14 = _ := dh_get hG 14 rfl (by kernel_rfl); have e16 : y 16 = _ := dh_get hG 16 rfl (by kernel_rfl); (first | rw [vg_of hc] at e14 | rw [vg_of (and_l hc)] at e14 | rw [vg_of (and_l (and_l hc))] at e14 | rw [vg_of (and_l (and_l (and_l hc)))] at e14 | rw [vg_and hc] at e14 | skip); (first | rw [vg_of hc] at e16 | rw [vg_of (and_l hc)] at e16 | rw [vg_of (and_l (and_l hc))] at e16 | rw [vg_of (and_l (and_l (and_l hc)))] at e16 | rw [vg_and hc] at e16 | skip); have HC := Lib.hid hc; clear hc; simp only [e14, e16]; (go_simp; exact hΦ _ _ (Sub.refl _) H)
    apply ObO.valg
    · intro x; rfl
    · intro s' y hG; simp only [List.nil_append, List.cons_append] at hG; have eg : y 9 = _ := dh_get hG 9 rfl (by kernel_rfl); simp only [eg]; first | exact wanted_t rfl rfl rfl | exact wanted_vt rfl rfl rfl
    · intro hc s' w' y Φ R hs H hG hΦ; simp only [List.nil_append, List.cons_append] at hG; have e12 : y 12 = _ := dh_get hG 12 rfl (by kernel_rfl); have e17 : y 17 = _ := dh_get hG 17 rfl (by kernel_rfl); (first | rw [vg_of hc] at e12 | rw [vg_of (and_l hc)] at e12 | rw [vg_of (and_l (and_l hc))] at e12 | rw [vg_of (and_l (and_l (and_l hc)))] at e12 | rw [vg_and hc] at e12 | skip); (first | rw [vg_of hc] at e17 | rw [vg_of (and_l hc)] at e17 | rw [vg_of (and_l (and_l hc))] at e17 | rw [vg_of (and_l (and_l (and_l hc)))] at e17 | rw [vg_and hc] at e17 | skip); have HC := Lib.hid hc; clear hc; simp only [e12, e17]; (refine G_or _ _ _ rfl rfl rfl rfl ?_; exact hΦ _ _ (Sub.refl _) H)
    apply ObO.valg
    · intro x; rfl
    · intro s' y hG; simp only [List.nil_append, List.cons_append] at hG; have eg : y 3 = _ := dh_get hG 3 rfl (by kernel_rfl); simp only [eg]; first | exact wanted_f rfl rfl rfl | exact wanted_vf rfl rfl rfl
    · intro hc s' w' y Φ R hs H hG hΦ; simp only [List.nil_append, List.cons_append] at hG; have e9 : y 9 = _ := dh_get hG 9 rfl (by kernel_rfl); have e18 : y 18 = _ := dh_get hG 18 rfl (by kernel_rfl); (first | rw [vg_of hc] at e9 | rw [vg_of (and_l hc)] at e9 | rw [vg_of (and_l (and_l hc))] at e9 | rw [vg_of (and_l (and_l (and_l hc)))] at e9 | rw [vg_and hc] at e9 | skip); (first | rw [vg_of hc] at e18 | rw [vg_of (and_l hc)] at e18 | rw [vg_of (and_l (and_l hc))] at e18 | rw [vg_of (and_l (and_l (and_l hc)))] at e18 | rw [vg_and hc] at e18 | skip); have HC := Lib.hid hc; clear hc; simp only [e9, e18]; (refine G_and _ _ _ rfl rfl rfl rfl ?_; exact hΦ _ _ (Sub.refl _) H)
    apply ObO.valw
    · intro x; rfl
    · intro s' w' y Φ R hs H hG hΦ; simp only [List.nil_append, List.cons_append] at hG; have e3 : y 3 = _ := dh_get hG 3 rfl (by kernel_rfl); have e19 : y 19 = _ := dh_get hG 19 rfl (by kernel_rfl); simp only [e3, e19]; refine wantG rfl ?_; (refine G_or _ _ _ rfl rfl rfl rfl ?_; exact hΦ _ _ (Sub.refl _) H)
    apply ObO.valw
    · intro x; rfl
    · intro s' w' y Φ R hs H hG hΦ; simp only [List.nil_append, List.cons_append] at hG; have e20 : y 20 = _ := dh_get hG 20 rfl (by kernel_rfl); simp only [e20]; refine wantG rfl ?_; (go_simp; exact hΦ _ _ (Sub.refl _) H)
    clear H
    intro s3 w3 yy hs3 H hG
    replace H := (show Holds _ _ ([] ++ _) _ from H); rw [List.nil_append] at H
    simp only [List.nil_append, List.cons_append] at hG
    have e0 : yy 0 = _ := gh_get hG 0 rfl
    have e1 : yy 1 = _ := gh_get hG 1 rfl
    have e2 : yy 2 = _ := gh_get hG 2 rfl
    have e3 : yy 3 = _ := gh_get hG 3 rfl
    have e4 : yy 4 = _ := gh_get hG 4 rfl
    have e5 : yy 5 = _ := gh_get hG 5 rfl
    have e6 : yy 6 = _ := gh_get hG 6 rfl
    have e7 : yy 7 = _ := gh_get hG 7 rfl
    have e8 : yy 8 = _ := gh_get hG 8 rfl
    have e9 : yy 9 = _ := gh_get hG 9 rfl
    have e10 : yy 10 = _ := gh_get hG 10 rfl
    have e11 : yy 11 = _ := gh_get hG 11 rfl
    have e12 : yy 12 = _ := gh_get hG 12 rfl
    have e13 : yy 13 = _ := gh_get hG 13 rfl
    have e14 : yy 14 = _ := gh_get hG 14 rfl
    have e15 : yy 15 = _ := gh_get hG 15 rfl
    have e16 : yy 16 = _ := gh_get hG 16 rfl
    have e17 : yy 17 = _ := gh_get hG 17 rfl
    have e18 : yy 18 = _ := gh_get hG 18 rfl
    have e19 : yy 19 = _ := gh_get hG 19 rfl
    have e20 : yy 20 = _ := gh_get hG 20 rfl
    have e21 : yy 21 = _ := gh_get hG 21 rfl
    simp only [e0, e1, e2, e3, e4, e5, e6, e7, e8, e9, e10, e11, e12, e13, e14, e15, e16, e17, e18, e19, e20, e21]
    clear hG e0 e1 e2 e3 e4 e5 e6 e7 e8 e9 e10 e11 e12 e13 e14 e15 e16 e17 e18 e19 e20 e21
    replace H := H.forget hs3
    refine list_end ?_
    refine then_norm ?_
    refine wp_ret ?_
    refine then_ret ?_
    have hk' : k = 4 := by simpa using hc
    simp only [rightV, hk', if_true]
    exact ret1 rfl (rv_tmp rfl) rfl ⟨rfl, H.drop.drop⟩
  · skip
    refine wp_skip ?_
    refine then_norm ?_
    refine wp_seq ?_
    refine wp_region_lit ?_
    apply seq_op rfl
    · intro Φ hΦ; go_simp; exact hΦ
    (try simp only [Act.put, List.setIfInBounds_toArray, List.set_cons_succ, List.set_cons_zero])
    apply seq_op rfl
    · intro Φ hΦ; first | (refine L_1 0 _ _ rfl (Try.isAgg23 _) rfl H rfl rfl ?_; exact hΦ) | (refine L_1 1 _ _ rfl (Try.isAgg23 _) rfl H rfl rfl ?_; exact hΦ) | (refine G_pNi 0 _ _ rfl (Try.isAgg23 _) rfl H rfl (Try.sizeOf23 _) ?_; exact hΦ) | (refine G_pNi 1 _ _ rfl (Try.isAgg23 _) rfl H rfl (Try.sizeOf23 _) ?_; exact hΦ)
    (try simp only [Act.put, List.setIfInBounds_toArray, List.set_cons_succ, List.set_cons_zero])
    apply seq_op rfl
    · intro Φ hΦ; go_simp; exact hΦ
    (try simp only [Act.put, List.setIfInBounds_toArray, List.set_cons_succ, List.set_cons_zero])
    apply seq_op rfl
    · intro Φ hΦ; go_simp; exact hΦ
    (try simp only [Act.put, List.setIfInBounds_toArray, List.set_cons_succ, List.set_cons_zero])
    apply seq_op rfl
    · intro Φ hΦ; first | (refine L_1 0 _ _ rfl (Try.isAgg23 _) rfl H rfl rfl ?_; exact hΦ) | (refine L_1 1 _ _ rfl (Try.isAgg23 _) rfl H rfl rfl ?_; exact hΦ) | (refine G_pNi 0 _ _ rfl (Try.isAgg23 _) rfl H rfl (Try.sizeOf23 _) ?_; exact hΦ) | (refine G_pNi 1 _ _ rfl (Try.isAgg23 _) rfl H rfl (Try.sizeOf23 _) ?_; exact hΦ)
    (try simp only [Act.put, List.setIfInBounds_toArray, List.set_cons_succ, List.set_cons_zero])
    apply seq_op rfl
    · intro Φ hΦ; go_simp; exact hΦ
    (try simp only [Act.put, List.setIfInBounds_toArray, List.set_cons_succ, List.set_cons_zero])
    apply seq_op rfl
    · intro Φ hΦ; go_simp; exact hΦ
    (try simp only [Act.put, List.setIfInBounds_toArray, List.set_cons_succ, List.set_cons_zero])
    apply seq_op rfl
    · intro Φ hΦ; go_simp; exact hΦ
    (try simp only [Act.put, List.setIfInBounds_toArray, List.set_cons_succ, List.set_cons_zero])
    refine list_end ?_
    refine then_norm ?_
    refine wp_seq ?_
    refine wp_draw_obO (k := 21) (sz := 57) (List.replicate 21 21) (fun _ => []) mixed (by simp) rfl (by kernel_rfl) (by kernel_rfl) (by kernel_rfl) H (by simp only [List.take_succ_cons, List.take_zero]; exact rfl) (by simp only [List.drop_succ_cons, List.drop_zero]; exact rfl)
      (fun y => by simp only [ov, Act.put, List.setIfInBounds_toArray, List.set_cons_succ, List.set_cons_zero, Nat.zero_add, Nat.reduceAdd]; exact rfl) ?_
    apply ObO.valw
    · intro x; rfl
    · intro s' w' y Φ R hs H hG hΦ; skip; refine wantG rfl ?_; (go_simp; exact hΦ _ _ (Sub.refl _) H)
    apply ObO.valw
    · intro x; rfl
    · intro s' w' y Φ R hs H hG hΦ; simp only [List.nil_append, List.cons_append] at hG; have e0 : y 0 = _ := dh_get hG 0 rfl (by kernel_rfl); simp only [e0]; refine wantG rfl ?_; (go_simp; exact hΦ _ _ (Sub.refl _) H)
    apply ObO.valw
    · intro x; rfl
    · intro s' w' y Φ R hs H hG hΦ; simp only [List.nil_append, List.cons_append] at hG; have e1 : y 1 = _ := dh_get hG 1 rfl (by kernel_rfl); simp only [e1]; refine wantG rfl ?_; (go_simp; exact hΦ _ _ (Sub.refl _) H)
    apply ObO.valg
    · intro x; rfl
    · intro s' y hG; simp only [List.nil_append, List.cons_append] at hG; have eg : y 2 = _ := dh_get hG 2 rfl (by kernel_rfl); simp only [eg]; first | exact wanted_t rfl rfl rfl | exact wanted_vt rfl rfl rfl
    · intro hc s' w' y Φ R hs H hG hΦ; have HC := Lib.hid hc; clear hc; skip; (go_simp; exact hΦ _ _ (Sub.refl _) H)
    apply ObO.valg
    · intro x; rfl
    · intro s' y hG; simp only [List.nil_append, List.cons_append] at hG; have eg : y 2 = _ := dh_get hG 2 rfl (by kernel_rfl); simp only [eg]; first | exact wanted_t rfl rfl rfl | exact wanted_vt rfl rfl rfl
    · intro hc s' w' y Φ R hs H hG hΦ; simp only [List.nil_append, List.cons_append] at hG; have e3 : y 3 = _ := dh_get hG 3 rfl (by kernel_rfl); (first | rw [vg_of hc] at e3 | rw [vg_of (and_l hc)] at e3 | rw [vg_of (and_l (and_l hc))] at e3 | rw [vg_of (and_l (and_l (and_l hc)))] at e3 | rw [vg_and hc] at e3 | skip); have HC := Lib.hid hc; clear hc; simp only [e3]; (go_simp; exact hΦ _ _ (Sub.refl _) H)
    apply ObO.valg
    · intro x; rfl
    · intro s' y hG; simp only [List.nil_append, List.cons_append] at hG; have eg : y 2 = _ := dh_get hG 2 rfl (by kernel_rfl); simp only [eg]; first | exact wanted_t rfl rfl rfl | exact wanted_vt rfl rfl rfl
    · intro hc s' w' y Φ R hs H hG hΦ; simp only [List.nil_append, List.cons_append] at hG; have e4 : y 4 = _ := dh_get hG 4 rfl (by kernel_rfl); (first | rw [vg_of hc] at e4 | rw [vg_of (and_l hc)] at e4 | rw [vg_of (and_l (and_l hc))] at e4 | rw [vg_of (and_l (and_l (and_l hc)))] at e4 | rw [vg_and hc] at e4 | skip); have HC := Lib.hid hc; clear hc; simp only [e4]; (go_simp; exact hΦ _ _ (Sub.refl _) H)
    apply ObO.valg
    · intro x; rfl
    · intro s' y hG; simp only [List.nil_append, List.cons_append] at hG; have eg : y 5 = _ := dh_get hG 5 rfl (by kernel_rfl); simp only [eg]; first | exact wanted_f rfl rfl rfl | exact wanted_vf rfl rfl rfl
    · intro hc s' w' y Φ R hs H hG hΦ; have HC := Lib.hid hc; clear hc; skip; (go_simp; exact hΦ _ _ (Sub.refl _) H)
    apply ObO.valg
    · intro x; rfl
    · intro s' y hG; simp only [List.nil_append, List.cons_append] at hG; have eg : y 5 = _ := dh_get hG 5 rfl (by kernel_rfl); simp only [eg]; first | exact wanted_f rfl rfl rfl | exact wanted_vf rfl rfl rfl
    · intro hc s' w' y Φ R hs H hG hΦ; simp only [List.nil_append, List.cons_append] at hG; have e6 : y 6 = _ := dh_get hG 6 rfl (by kernel_rfl); (first | rw [vg_of hc] at e6 | rw [vg_of (and_l hc)] at e6 | rw [vg_of (and_l (and_l hc))] at e6 | rw [vg_of (and_l (and_l (and_l hc)))] at e6 | rw [vg_and hc] at e6 | skip); have HC := Lib.hid hc; clear hc; simp only [e6]; first | (refine L_1 0 _ _ rfl (Try.isAgg4 _) rfl H rfl rfl ?_; exact hΦ _ _ (Sub.refl _) H) | (refine L_1 1 _ _ rfl (Try.isAgg4 _) rfl H rfl rfl ?_; exact hΦ _ _ (Sub.refl _) H) | (refine G_pNi 0 _ _ rfl (Try.isAgg4 _) rfl H rfl (Try.sizeOf4 _) ?_; exact hΦ _ _ (Sub.refl _) H) | (refine G_pNi 1 _ _ rfl (Try.isAgg4 _) rfl H rfl (Try.sizeOf4 _) ?_; exact hΦ _ _ (Sub.refl _) H)
    apply ObO.valg
    · intro x; rfl
    · intro s' y hG; simp only [List.nil_append, List.cons_append] at hG; have eg : y 5 = _ := dh_get hG 5 rfl (by kernel_rfl); simp only [eg]; first | exact wanted_f rfl rfl rfl | exact wanted_vf rfl rfl rfl
    · intro hc s' w' y Φ R hs H hG hΦ; simp only [List.nil_append, List.cons_append] at hG; have e7 : y 7 = _ := dh_get hG 7 rfl (by kernel_rfl); (first | rw [vg_of hc] at e7 | rw [vg_of (and_l hc)] at e7 | rw [vg_of (and_l (and_l hc))] at e7 | rw [vg_of (and_l (and_l (and_l hc)))] at e7 | rw [vg_and hc] at e7 | skip); have HC := Lib.hid hc; clear hc; simp only [e7]; (go_simp; exact hΦ _ _ (Sub.refl _) H)
    apply ObO.valg
    · intro x; rfl
    · intro s' y hG; simp only [List.nil_append, List.cons_append] at hG; have eg : y 2 = _ := dh_get hG 2 rfl (by kernel_rfl); simp only [eg]; first | exact wanted_t rfl rfl rfl | exact wanted_vt rfl rfl rfl
    · intro hc s' w' y Φ R hs H hG hΦ; simp only [List.nil_append, List.cons_append] at hG; have e5 : y 5 = _ := dh_get hG 5 rfl (by kernel_rfl); have e8 : y 8 = _ := dh_get hG 8 rfl (by kernel_rfl); (first | rw [vg_of hc] at e5 | rw [vg_of (and_l hc)] at e5 | rw [vg_of (and_l (and_l hc))] at e5 | rw [vg_of (and_l (and_l (and_l hc)))] at e5 | rw [vg_and hc] at e5 | skip); (first | rw [vg_of hc] at e8 | rw [vg_of (and_l hc)] at e8 | rw [vg_of (and_l (and_l hc))] at e8 | rw [vg_of (and_l (and_l (and_l hc)))] at e8 | rw [vg_and hc] at e8 | skip); have HC := Lib.hid hc; clear hc; simp only [e5, e8]; (refine G_or _ _ _ rfl rfl rfl rfl ?_; exact hΦ _ _ (Sub.refl _) H)
    apply ObO.valw
    · intro x; rfl
    · intro s' w' y Φ R hs H hG hΦ; simp only [List.nil_append, List.cons_append] at hG; have e2 : y 2 = _ := dh_get hG 2 rfl (by kernel_rfl); have e9 : y 9 = _ := dh_get hG 9 rfl (by kernel_rfl); simp only [e2, e9]; refine wantG rfl ?_; (refine G_and _ _ _ rfl rfl rfl rfl ?_; exact hΦ _ _ (Sub.refl _) H)
    apply ObO.valw
    · intro x; rfl
    · intro s' w' y Φ R hs H hG hΦ; simp only [List.nil_append, List.cons_append] at hG; have e10 : y 10 = _ := dh_get hG 10 rfl (by kernel_rfl); simp only [e10]; refine wantG rfl ?_; (go_simp; exact hΦ _ _ (Sub.refl _) H)
    apply ObO.valg
    · intro x; rfl
    · intro s' y hG; simp only [List.nil_append, List.cons_append] at hG; have eg : y 11 = _ := dh_get hG 11 rfl (by kernel_rfl); simp only [eg]; first | exact wanted_t rfl rfl rfl | exact wanted_vt rfl rfl rfl
    · intro hc s' w' y Φ R hs H hG hΦ; have HC := Lib.hid hc; clear hc; skip; (go_simp; exact hΦ _ _ (Sub.refl _) H)
    apply ObO.valg
    · intro x; rfl
    · intro s' y hG; simp only [List.nil_append, List.cons_append] at hG; have eg : y 11 = _ := dh_get hG 11 rfl (by kernel_rfl); simp only [eg]; first | exact wanted_t rfl rfl rfl | exact wanted_vt rfl rfl rfl
    · intro hc s' w' y Φ R hs H hG hΦ; simp only [List.nil_append, List.cons_append] at hG; have e12 : y 12 = _ := dh_get hG 12 rfl (by kernel_rfl); (first | rw [vg_of hc] at e12 | rw [vg_of (and_l hc)] at e12 | rw [vg_of (and_l (and_l hc))] at e12 | rw [vg_of (and_l (and_l (and_l hc)))] at e12 | rw [vg_and hc] at e12 | skip); have HC := Lib.hid hc; clear hc; simp only [e12]; first | (refine L_1 0 _ _ rfl (Try.isAgg23 _) rfl H rfl rfl ?_; exact hΦ _ _ (Sub.refl _) H) | (refine L_1 1 _ _ rfl (Try.isAgg23 _) rfl H rfl rfl ?_; exact hΦ _ _ (Sub.refl _) H) | (refine G_pNi 0 _ _ rfl (Try.isAgg23 _) rfl H rfl (Try.sizeOf23 _) ?_; exact hΦ _ _ (Sub.refl _) H) | (refine G_pNi 1 _ _ rfl (Try.isAgg23 _) rfl H rfl (Try.sizeOf23 _) ?_; exact hΦ _ _ (Sub.refl _) H)
    apply ObO.valg
    · intro x; rfl
    · intro s' y hG; simp only [List.nil_append, List.cons_append] at hG; have eg : y 11 = _ := dh_get hG 11 rfl (by kernel_rfl); simp only [eg]; first | exact wanted_t rfl rfl rfl | exact wanted_vt rfl rfl rfl
    · intro hc s' w' y Φ R hs H hG hΦ; have HC := Lib.hid hc; clear hc; skip; (go_simp; exact hΦ _ _ (Sub.refl _) H)
    apply ObO.valg
    · intro x; rfl
    · intro s' y hG; simp only [List.nil_append, List.cons_append] at hG; have eg : y 11 = _ := dh_get hG 11 rfl (by kernel_rfl); simp only [eg]; first | exact wanted_t rfl rfl rfl | exact wanted_vt rfl rfl rfl
    · intro hc s' w' y Φ R hs H hG hΦ; simp only [List.nil_append, List.cons_append] at hG; have e13 : y 13 = _ := dh_get hG 13 rfl (by kernel_rfl); have e14 : y 14 = _ := dh_get hG 14 rfl (by kernel_rfl); (first | rw [vg_of hc] at e13 | rw [vg_of (and_l hc)] at e13 | rw [vg_of (and_l (and_l hc))] at e13 | rw [vg_of (and_l (and_l (and_l hc)))] at e13 | rw [vg_and hc] at e13 | skip); (first | rw [vg_of hc] at e14 | rw [vg_of (and_l hc)] at e14 | rw [vg_of (and_l (and_l hc))] at e14 | rw [vg_of (and_l (and_l (and_l hc)))] at e14 | rw [vg_and hc] at e14 | skip); have HC := Lib.hid hc; clear hc; simp only [e13, e14]; (have h0 : 0 ≤ n := of_decide_eq_true (and_l HC.out); refine G_slice_l kI_at _ _ rfl rfl rfl h0 hn1 ?_; exact hΦ _ _ (Sub.refl _) H)
    apply ObO.valg
    · intro x; rfl
    · intro s' y hG; simp only [List.nil_append, List.cons_append] at hG; have eg : y 11 = _ := dh_get hG 11 rfl (by kernel_rfl); simp only [eg]; first | exact wanted_t rfl rfl rfl | exact wanted_vt rfl rfl rfl
    · intro hc s' w' y Φ R hs H hG hΦ; have HC := Lib.hid hc; clear hc; skip; (go_simp; exact hΦ _ _ (Sub.refl _) H)
    apply ObO.valg
    · intro x; rfl
    · intro s' y hG; simp only [List.nil_append, List.cons_append] at hG; have eg : y 11 = _ := dh_get hG 11 rfl (by kernel_rfl); simp only [eg]; first | exact wanted_t rfl rfl rfl | exact wanted_vt rfl rfl rfl
    · intro hc s' w' y Φ R hs H hG hΦ; simp only [List.nil_append, List.cons_append] at hG; have e16 : y 16 = _ := dh_get hG 16 rfl (by kernel_rfl); (first | rw [vg_of hc] at e16 | rw [vg_of (and_l hc)] at e16 | rw [vg_of (and_l (and_l hc))] at e16 | rw [vg_of (and_l (and_l (and_l hc)))] at e16 | rw [vg_and hc] at e16 | skip); have HC := Lib.hid hc; clear hc; simp only [e16]; first | (refine L_1 0 _ _ rfl (Try.isAgg23 _) rfl H rfl rfl ?_; exact hΦ _ _ (Sub.refl _) H) | (refine L_1 1 _ _ rfl (Try.isAgg23 _) rfl H rfl rfl ?_; exact hΦ _ _ (Sub.refl _) H) | (refine G_pNi 0 _ _ rfl (Try.isAgg23 _) rfl H rfl (Try.sizeOf23 _) ?_; exact hΦ _ _ (Sub.refl _) H) | (refine G_pNi 1 _ _ rfl (Try.isAgg23 _) rfl H rfl (Try.sizeOf23 _) ?_; exact hΦ _ _ (Sub.refl _) H)
    apply ObO.valg
    · intro x; rfl
    · intro s' y hG; simp only [List.nil_append, List.cons_append] at hG; have eg : y 11 = _ := dh_get hG 11 rfl (by kernel_rfl); simp only [eg]; first | exact wanted_t rfl rfl rfl | exact wanted_vt rfl rfl rfl
    · intro hc s' w' y Φ R hs H hG hΦ; simp only [List.nil_append, List.cons_append] at hG; have e15 : y 15 = _ := dh_get hG 15 rfl (by kernel_rfl); have e17 : y 17 = _ := dh_get hG 17 rfl (by kernel_rfl); (first | rw [vg_of hc] at e15 | rw [vg_of (and_l hc)] at e15 | rw [vg_of (and_l (and_l hc))] at e15 | rw [vg_of (and_l (and_l (and_l hc)))] at e15 | rw [vg_and hc] at e15 | skip); (first | rw [vg_of hc] at e17 | rw [vg_of (and_l hc)] at e17 | rw [vg_of (and_l (and_l hc))] at e17 | rw [vg_of (and_l (and_l (and_l hc)))] at e17 | rw [vg_and hc] at e17 | skip); have HC := Lib.hid hc; clear hc; simp only [e15, e17]; (have h0 : 0 ≤ n := of_decide_eq_true (and_l HC.out); go_simp; refine (eqIntsD ((ho0.drop n.toNat (by omega)).mono hs) (hv0.mono hs) H).mono ?_; rintro e w2 ⟨rfl, H⟩; exact ⟨_, rfl, hΦ _ _ (Sub.refl _) H⟩)
    apply ObO.valw
    · intro x; rfl
    · intro s' w' y Φ R hs H hG hΦ; simp only [List.nil_append, List.cons_append] at hG; have e11 : y 11 = _ := dh_get hG 11 rfl (by kernel_rfl); have e18 : y 18 = _ := dh_get hG 18 rfl (by kernel_rfl); simp only [e11, e18]; refine wantG rfl ?_; (refine G_and _ _ _ rfl rfl rfl rfl ?_; exact hΦ _ _ (Sub.refl _) H)
    apply ObO.valw
    · intro x; rfl
    · intro s' w' y Φ R hs H hG hΦ; simp only [List.nil_append, List.cons_append] at hG; have e19 : y 19 = _ := dh_get hG 19 rfl (by kernel_rfl); simp only [e19]; refine wantG rfl ?_; (go_simp; exact hΦ _ _ (Sub.refl _) H)
    clear H
    intro s3 w3 yy hs3 H hG
    replace H := (show Holds _ _ ([] ++ _) _ from H); rw [List.nil_append] at H
    simp only [List.nil_append, List.cons_append] at hG
    have e0 : yy 0 = _ := gh_get hG 0 rfl
    have e1 : yy 1 = _ := gh_get hG 1 rfl
    have e2 : yy 2 = _ := gh_get hG 2 rfl
    have e3 : yy 3 = _ := gh_get hG 3 rfl
    have e4 : yy 4 = _ := gh_get hG 4 rfl
    have e5 : yy 5 = _ := gh_get hG 5 rfl
    have e6 : yy 6 = _ := gh_get hG 6 rfl
    have e7 : yy 7 = _ := gh_get hG 7 rfl
    have e8 : yy 8 = _ := gh_get hG 8 rfl
    have e9 : yy 9 = _ := gh_get hG 9 rfl
    have e10 : yy 10 = _ := gh_get hG 10 rfl
    have e11 : yy 11 = _ := gh_get hG 11 rfl
    have e12 : yy 12 = _ := gh_get hG 12 rfl
    have e13 : yy 13 = _ := gh_get hG 13 rfl
    have e14 : yy 14 = _ := gh_get hG 14 rfl
    have e15 : yy 15 = _ := gh_get hG 15 rfl
    have e16 : yy 16 = _ := gh_get hG 16 rfl
    have e17 : yy 17 = _ := gh_get hG 17 rfl
    have e18 : yy 18 = _ := gh_get hG 18 rfl
    have e19 : yy 19 = _ := gh_get hG 19 rfl
    have e20 : yy 20 = _ := gh_get hG 20 rfl
    simp only [e0, e1, e2, e3, e4, e5, e6, e7, e8, e9, e10, e11, e12, e13, e14, e15, e16, e17, e18, e19, e20]
    clear hG e0 e1 e2 e3 e4 e5 e6 e7 e8 e9 e10 e11 e12 e13 e14 e15 e16 e17 e18 e19 e20
    replace H := H.forget hs3
    refine list_end ?_
    refine then_norm ?_
    refine wp_ret ?_
    have hk' : ¬ k = 4 := by simpa using hc
    simp only [rightV, hk', if_false]
    rw [← HN.out]
    exact ret1 rfl (rv_tmp rfl) rfl ⟨rfl, H.drop.drop⟩
end Go.Proofs.Yticpadjheelipaa
