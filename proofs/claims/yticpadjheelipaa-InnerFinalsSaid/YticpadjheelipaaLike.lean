/- Whether two operations are of one list, or one register. -/
import Derived.Test.YticpadjheelipaaSimple
namespace Go.Proofs.Yticpadjheelipaa
open Go.RowKit
set_option linter.all false
set_option maxRecDepth 10000
def rwK (k : Int) : Bool := k == 1 || k == 3 || k == 2 || k == 4
def likeF (k k2 : Int) (key key2 : ByteArray) : Bool := rwK k && rwK k2 && (key.toList == key2.toList) && ((k == 1 || k == 2) == (k2 == 1 || k2 == 2))
set_option maxHeartbeats 4000000 in
theorem like_any {E : World} {s : SH} {L : List HP} {w : World} {k k2 : Int} {key key2 : ByteArray} {val val2 : Int} {vl vl2 : Value} {has nl has2 nl2 : Bool} (H : Holds E s L w) :
    Calls Try.prog 51 #[.agg #[.int .i64 k, .string key, .int .i64 val, vl, .bool has, .bool nl], .agg #[.int .i64 k2, .string key2, .int .i64 val2, vl2, .bool has2, .bool nl2]] w
      fun e w' => e = .returned (.bool (likeF k k2 key key2)) ∧ Holds E s L w' := by
  go_enter Try.func51, Try.ntmps51
  refine wp_seq ?_
  refine wp_region_lit ?_
  refine OpG.list rfl ?_; refine B_x 25 _ rfl rfl H ?_; clear H; intro b2 w1 H; (try simp only [Value.cells] at H)
  (try simp only [Act.put, List.setIfInBounds_toArray, List.set_cons_succ, List.set_cons_zero])
  refine OpG.list rfl ?_; refine B_x 25 _ rfl rfl H ?_; clear H; intro b3 w1 H; (try simp only [Value.cells] at H)
  (try simp only [Act.put, List.setIfInBounds_toArray, List.set_cons_succ, List.set_cons_zero])
  apply seq_op rfl
  · intro Φ hΦ; go_simp; exact hΦ
  (try simp only [Act.put, List.setIfInBounds_toArray, List.set_cons_succ, List.set_cons_zero])
  refine list_end ?_
  refine then_norm ?_
  refine wp_seq ?_
  refine wp_draw_obO (k := 41) (sz := 45) (List.replicate 41 41) (fun _ => []) mixed (by simp) rfl (by kernel_rfl) (by kernel_rfl) (by kernel_rfl) H (by simp only [List.take_succ_cons, List.take_zero]; exact rfl) (by simp only [List.drop_succ_cons, List.drop_zero]; exact rfl)
    (fun y => by simp only [ov, Act.put, List.setIfInBounds_toArray, List.set_cons_succ, List.set_cons_zero, Nat.zero_add, Nat.reduceAdd]; exact rfl) ?_
  apply ObO.valw
  · intro x; rfl
  · intro s' w' y Φ R hs H hG hΦ; skip; refine wantG rfl ?_; first | (refine L_1 0 _ _ rfl (Try.isAgg25 _) rfl H rfl rfl ?_; exact hΦ _ _ (Sub.refl _) H) | (refine L_1 1 _ _ rfl (Try.isAgg25 _) rfl H rfl rfl ?_; exact hΦ _ _ (Sub.refl _) H) | (refine G_pNi 0 _ _ rfl (Try.isAgg25 _) rfl H rfl (Try.sizeOf25 _) ?_; exact hΦ _ _ (Sub.refl _) H) | (refine G_pNi 1 _ _ rfl (Try.isAgg25 _) rfl H rfl (Try.sizeOf25 _) ?_; exact hΦ _ _ (Sub.refl _) H)
  apply ObO.valw
  · intro x; rfl
  · intro s' w' y Φ R hs H hG hΦ; simp only [List.nil_append, List.cons_append] at hG; have e0 : y 0 = _ := dh_get hG 0 rfl (by kernel_rfl); simp only [e0]; refine wantG rfl ?_; (go_simp; refine (refWrite_any H).mono ?_; rintro e w2 ⟨rfl, H⟩; exact ⟨_, rfl, hΦ _ _ (Sub.refl _) H⟩)
  apply ObO.valw
  · intro x; rfl
  · intro s' w' y Φ R hs H hG hΦ; simp only [List.nil_append, List.cons_append] at hG; have e1 : y 1 = _ := dh_get hG 1 rfl (by kernel_rfl); simp only [e1]; refine wantG rfl ?_; (go_simp; exact hΦ _ _ (Sub.refl _) H)
  apply ObO.valg
  · intro x; rfl
  · intro s' y hG; simp only [List.nil_append, List.cons_append] at hG; have eg : y 2 = _ := dh_get hG 2 rfl (by kernel_rfl); simp only [eg]; first | exact wanted_f rfl rfl rfl | exact wanted_vf rfl rfl rfl
  · intro hc s' w' y Φ R hs H hG hΦ; have HC := Lib.hid hc; clear hc; skip; (go_simp; exact hΦ _ _ (Sub.refl _) H)
  apply ObO.valg
  · intro x; rfl
  · intro s' y hG; simp only [List.nil_append, List.cons_append] at hG; have eg : y 2 = _ := dh_get hG 2 rfl (by kernel_rfl); simp only [eg]; first | exact wanted_f rfl rfl rfl | exact wanted_vf rfl rfl rfl
  · intro hc s' w' y Φ R hs H hG hΦ; simp only [List.nil_append, List.cons_append] at hG; have e3 : y 3 = _ := dh_get hG 3 rfl (by kernel_rfl); (first | rw [vg_of hc] at e3 | rw [vg_of (and_l hc)] at e3 | rw [vg_of (and_l (and_l hc))] at e3 | rw [vg_of (and_l (and_l (and_l hc)))] at e3 | rw [vg_and hc] at e3 | skip); have HC := Lib.hid hc; clear hc; simp only [e3]; first | (refine L_1 0 _ _ rfl (Try.isAgg3 _) rfl H rfl rfl ?_; exact hΦ _ _ (Sub.refl _) H) | (refine L_1 1 _ _ rfl (Try.isAgg3 _) rfl H rfl rfl ?_; exact hΦ _ _ (Sub.refl _) H) | (refine G_pNi 0 _ _ rfl (Try.isAgg3 _) rfl H rfl (Try.sizeOf3 _) ?_; exact hΦ _ _ (Sub.refl _) H) | (refine G_pNi 1 _ _ rfl (Try.isAgg3 _) rfl H rfl (Try.sizeOf3 _) ?_; exact hΦ _ _ (Sub.refl _) H)
  apply ObO.valg
  · intro x; rfl
  · intro s' y hG; simp only [List.nil_append, List.cons_append] at hG; have eg : y 2 = _ := dh_get hG 2 rfl (by kernel_rfl); simp only [eg]; first | exact wanted_f rfl rfl rfl | exact wanted_vf rfl rfl rfl
  · intro hc s' w' y Φ R hs H hG hΦ; simp only [List.nil_append, List.cons_append] at hG; have e4 : y 4 = _ := dh_get hG 4 rfl (by kernel_rfl); (first | rw [vg_of hc] at e4 | rw [vg_of (and_l hc)] at e4 | rw [vg_of (and_l (and_l hc))] at e4 | rw [vg_of (and_l (and_l (and_l hc)))] at e4 | rw [vg_and hc] at e4 | skip); have HC := Lib.hid hc; clear hc; simp only [e4]; (go_simp; exact hΦ _ _ (Sub.refl _) H)
  apply ObO.valw
  · intro x; rfl
  · intro s' w' y Φ R hs H hG hΦ; simp only [List.nil_append, List.cons_append] at hG; have e2 : y 2 = _ := dh_get hG 2 rfl (by kernel_rfl); have e5 : y 5 = _ := dh_get hG 5 rfl (by kernel_rfl); simp only [e2, e5]; refine wantG rfl ?_; (refine G_or _ _ _ rfl rfl rfl rfl ?_; exact hΦ _ _ (Sub.refl _) H)
  apply ObO.valw
  · intro x; rfl
  · intro s' w' y Φ R hs H hG hΦ; simp only [List.nil_append, List.cons_append] at hG; have e6 : y 6 = _ := dh_get hG 6 rfl (by kernel_rfl); simp only [e6]; refine wantG rfl ?_; (go_simp; exact hΦ _ _ (Sub.refl _) H)
  apply ObO.valg
  · intro x; rfl
  · intro s' y hG; simp only [List.nil_append, List.cons_append] at hG; have eg : y 7 = _ := dh_get hG 7 rfl (by kernel_rfl); simp only [eg]; first | exact wanted_f rfl rfl rfl | exact wanted_vf rfl rfl rfl
  · intro hc s' w' y Φ R hs H hG hΦ; have HC := Lib.hid hc; clear hc; skip; (go_simp; exact hΦ _ _ (Sub.refl _) H)
  apply ObO.valg
  · intro x; rfl
  · intro s' y hG; simp only [List.nil_append, List.cons_append] at hG; have eg : y 7 = _ := dh_get hG 7 rfl (by kernel_rfl); simp only [eg]; first | exact wanted_f rfl rfl rfl | exact wanted_vf rfl rfl rfl
  · intro hc s' w' y Φ R hs H hG hΦ; simp only [List.nil_append, List.cons_append] at hG; have e8 : y 8 = _ := dh_get hG 8 rfl (by kernel_rfl); (first | rw [vg_of hc] at e8 | rw [vg_of (and_l hc)] at e8 | rw [vg_of (and_l (and_l hc))] at e8 | rw [vg_of (and_l (and_l (and_l hc)))] at e8 | rw [vg_and hc] at e8 | skip); have HC := Lib.hid hc; clear hc; simp only [e8]; first | (refine L_1 0 _ _ rfl (Try.isAgg3 _) rfl H rfl rfl ?_; exact hΦ _ _ (Sub.refl _) H) | (refine L_1 1 _ _ rfl (Try.isAgg3 _) rfl H rfl rfl ?_; exact hΦ _ _ (Sub.refl _) H) | (refine G_pNi 0 _ _ rfl (Try.isAgg3 _) rfl H rfl (Try.sizeOf3 _) ?_; exact hΦ _ _ (Sub.refl _) H) | (refine G_pNi 1 _ _ rfl (Try.isAgg3 _) rfl H rfl (Try.sizeOf3 _) ?_; exact hΦ _ _ (Sub.refl _) H)
  apply ObO.valg
  · intro x; rfl
  · intro s' y hG; simp only [List.nil_append, List.cons_append] at hG; have eg : y 7 = _ := dh_get hG 7 rfl (by kernel_rfl); simp only [eg]; first | exact wanted_f rfl rfl rfl | exact wanted_vf rfl rfl rfl
  · intro hc s' w' y Φ R hs H hG hΦ; simp only [List.nil_append, List.cons_append] at hG; have e9 : y 9 = _ := dh_get hG 9 rfl (by kernel_rfl); (first | rw [vg_of hc] at e9 | rw [vg_of (and_l hc)] at e9 | rw [vg_of (and_l (and_l hc))] at e9 | rw [vg_of (and_l (and_l (and_l hc)))] at e9 | rw [vg_and hc] at e9 | skip); have HC := Lib.hid hc; clear hc; simp only [e9]; (go_simp; exact hΦ _ _ (Sub.refl _) H)
  apply ObO.valw
  · intro x; rfl
  · intro s' w' y Φ R hs H hG hΦ; simp only [List.nil_append, List.cons_append] at hG; have e7 : y 7 = _ := dh_get hG 7 rfl (by kernel_rfl); have e10 : y 10 = _ := dh_get hG 10 rfl (by kernel_rfl); simp only [e7, e10]; refine wantG rfl ?_; (refine G_or _ _ _ rfl rfl rfl rfl ?_; exact hΦ _ _ (Sub.refl _) H)
  apply ObO.valw
  · intro x; rfl
  · intro s' w' y Φ R hs H hG hΦ; simp only [List.nil_append, List.cons_append] at hG; have e11 : y 11 = _ := dh_get hG 11 rfl (by kernel_rfl); simp only [e11]; refine wantG rfl ?_; (go_simp; exact hΦ _ _ (Sub.refl _) H)
  apply ObO.valg
  · intro x; rfl
  · intro s' y hG; simp only [List.nil_append, List.cons_append] at hG; have eg : y 12 = _ := dh_get hG 12 rfl (by kernel_rfl); simp only [eg]; first | exact wanted_t rfl rfl rfl | exact wanted_vt rfl rfl rfl
  · intro hc s' w' y Φ R hs H hG hΦ; have HC := Lib.hid hc; clear hc; skip; first | (refine L_1 0 _ _ rfl (Try.isAgg25 _) rfl H rfl rfl ?_; exact hΦ _ _ (Sub.refl _) H) | (refine L_1 1 _ _ rfl (Try.isAgg25 _) rfl H rfl rfl ?_; exact hΦ _ _ (Sub.refl _) H) | (refine G_pNi 0 _ _ rfl (Try.isAgg25 _) rfl H rfl (Try.sizeOf25 _) ?_; exact hΦ _ _ (Sub.refl _) H) | (refine G_pNi 1 _ _ rfl (Try.isAgg25 _) rfl H rfl (Try.sizeOf25 _) ?_; exact hΦ _ _ (Sub.refl _) H)
  apply ObO.valg
  · intro x; rfl
  · intro s' y hG; simp only [List.nil_append, List.cons_append] at hG; have eg : y 12 = _ := dh_get hG 12 rfl (by kernel_rfl); simp only [eg]; first | exact wanted_t rfl rfl rfl | exact wanted_vt rfl rfl rfl
  · intro hc s' w' y Φ R hs H hG hΦ; simp only [List.nil_append, List.cons_append] at hG; have e13 : y 13 = _ := dh_get hG 13 rfl (by kernel_rfl); (first | rw [vg_of hc] at e13 | rw [vg_of (and_l hc)] at e13 | rw [vg_of (and_l (and_l hc))] at e13 | rw [vg_of (and_l (and_l (and_l hc)))] at e13 | rw [vg_and hc] at e13 | skip); have HC := Lib.hid hc; clear hc; simp only [e13]; (go_simp; refine (refWrite_any H).mono ?_; rintro e w2 ⟨rfl, H⟩; exact ⟨_, rfl, hΦ _ _ (Sub.refl _) H⟩)
  apply ObO.valg
  · intro x; rfl
  · intro s' y hG; simp only [List.nil_append, List.cons_append] at hG; have eg : y 12 = _ := dh_get hG 12 rfl (by kernel_rfl); simp only [eg]; first | exact wanted_t rfl rfl rfl | exact wanted_vt rfl rfl rfl
  · intro hc s' w' y Φ R hs H hG hΦ; simp only [List.nil_append, List.cons_append] at hG; have e14 : y 14 = _ := dh_get hG 14 rfl (by kernel_rfl); (first | rw [vg_of hc] at e14 | rw [vg_of (and_l hc)] at e14 | rw [vg_of (and_l (and_l hc))] at e14 | rw [vg_of (and_l (and_l (and_l hc)))] at e14 | rw [vg_and hc] at e14 | skip); have HC := Lib.hid hc; clear hc; simp only [e14]; (go_simp; exact hΦ _ _ (Sub.refl _) H)
  apply ObO.valg
  · intro x; rfl
  · intro s' y hG; simp only [List.nil_append, List.cons_append] at hG; have eg : y 15 = _ := dh_get hG 15 rfl (by kernel_rfl); simp only [eg]; first | exact wanted_f rfl rfl rfl | exact wanted_vf rfl rfl rfl
  · intro hc s' w' y Φ R hs H hG hΦ; have HC := Lib.hid hc; clear hc; skip; (go_simp; exact hΦ _ _ (Sub.refl _) H)
  apply ObO.valg
  · intro x; rfl
  · intro s' y hG; simp only [List.nil_append, List.cons_append] at hG; have eg : y 15 = _ := dh_get hG 15 rfl (by kernel_rfl); simp only [eg]; first | exact wanted_f rfl rfl rfl | exact wanted_vf rfl rfl rfl
  · intro hc s' w' y Φ R hs H hG hΦ; simp only [List.nil_append, List.cons_append] at hG; have e16 : y 16 = _ := dh_get hG 16 rfl (by kernel_rfl); (first | rw [vg_of hc] at e16 | rw [vg_of (and_l hc)] at e16 | rw [vg_of (and_l (and_l hc))] at e16 | rw [vg_of (and_l (and_l (and_l hc)))] at e16 | rw [vg_and hc] at e16 | skip); have HC := Lib.hid hc; clear hc; simp only [e16]; first | (refine L_1 0 _ _ rfl (Try.isAgg3 _) rfl H rfl rfl ?_; exact hΦ _ _ (Sub.refl _) H) | (refine L_1 1 _ _ rfl (Try.isAgg3 _) rfl H rfl rfl ?_; exact hΦ _ _ (Sub.refl _) H) | (refine G_pNi 0 _ _ rfl (Try.isAgg3 _) rfl H rfl (Try.sizeOf3 _) ?_; exact hΦ _ _ (Sub.refl _) H) | (refine G_pNi 1 _ _ rfl (Try.isAgg3 _) rfl H rfl (Try.sizeOf3 _) ?_; exact hΦ _ _ (Sub.refl _) H)
  apply ObO.valg
  · intro x; rfl
  · intro s' y hG; simp only [List.nil_append, List.cons_append] at hG; have eg : y 15 = _ := dh_get hG 15 rfl (by kernel_rfl); simp only [eg]; first | exact wanted_f rfl rfl rfl | exact wanted_vf rfl rfl rfl
  · intro hc s' w' y Φ R hs H hG hΦ; simp only [List.nil_append, List.cons_append] at hG; have e17 : y 17 = _ := dh_get hG 17 rfl (by kernel_rfl); (first | rw [vg_of hc] at e17 | rw [vg_of (and_l hc)] at e17 | rw [vg_of (and_l (and_l hc))] at e17 | rw [vg_of (and_l (and_l (and_l hc)))] at e17 | rw [vg_and hc] at e17 | skip); have HC := Lib.hid hc; clear hc; simp only [e17]; (go_simp; exact hΦ _ _ (Sub.refl _) H)
  apply ObO.valg
  · intro x; rfl
  · intro s' y hG; simp only [List.nil_append, List.cons_append] at hG; have eg : y 12 = _ := dh_get hG 12 rfl (by kernel_rfl); simp only [eg]; first | exact wanted_t rfl rfl rfl | exact wanted_vt rfl rfl rfl
  · intro hc s' w' y Φ R hs H hG hΦ; simp only [List.nil_append, List.cons_append] at hG; have e15 : y 15 = _ := dh_get hG 15 rfl (by kernel_rfl); have e18 : y 18 = _ := dh_get hG 18 rfl (by kernel_rfl); (first | rw [vg_of hc] at e15 | rw [vg_of (and_l hc)] at e15 | rw [vg_of (and_l (and_l hc))] at e15 | rw [vg_of (and_l (and_l (and_l hc)))] at e15 | rw [vg_and hc] at e15 | skip); (first | rw [vg_of hc] at e18 | rw [vg_of (and_l hc)] at e18 | rw [vg_of (and_l (and_l hc))] at e18 | rw [vg_of (and_l (and_l (and_l hc)))] at e18 | rw [vg_and hc] at e18 | skip); have HC := Lib.hid hc; clear hc; simp only [e15, e18]; (refine G_or _ _ _ rfl rfl rfl rfl ?_; exact hΦ _ _ (Sub.refl _) H)
  apply ObO.valg
  · intro x; rfl
  · intro s' y hG; simp only [List.nil_append, List.cons_append] at hG; have eg : y 12 = _ := dh_get hG 12 rfl (by kernel_rfl); simp only [eg]; first | exact wanted_t rfl rfl rfl | exact wanted_vt rfl rfl rfl
  · intro hc s' w' y Φ R hs H hG hΦ; simp only [List.nil_append, List.cons_append] at hG; have e19 : y 19 = _ := dh_get hG 19 rfl (by kernel_rfl); (first | rw [vg_of hc] at e19 | rw [vg_of (and_l hc)] at e19 | rw [vg_of (and_l (and_l hc))] at e19 | rw [vg_of (and_l (and_l (and_l hc)))] at e19 | rw [vg_and hc] at e19 | skip); have HC := Lib.hid hc; clear hc; simp only [e19]; (go_simp; exact hΦ _ _ (Sub.refl _) H)
  apply ObO.valg
  · intro x; rfl
  · intro s' y hG; simp only [List.nil_append, List.cons_append] at hG; have eg : y 20 = _ := dh_get hG 20 rfl (by kernel_rfl); simp only [eg]; first | exact wanted_f rfl rfl rfl | exact wanted_vf rfl rfl rfl
  · intro hc s' w' y Φ R hs H hG hΦ; have HC := Lib.hid hc; clear hc; skip; (go_simp; exact hΦ _ _ (Sub.refl _) H)
  apply ObO.valg
  · intro x; rfl
  · intro s' y hG; simp only [List.nil_append, List.cons_append] at hG; have eg : y 20 = _ := dh_get hG 20 rfl (by kernel_rfl); simp only [eg]; first | exact wanted_f rfl rfl rfl | exact wanted_vf rfl rfl rfl
  · intro hc s' w' y Φ R hs H hG hΦ; simp only [List.nil_append, List.cons_append] at hG; have e21 : y 21 = _ := dh_get hG 21 rfl (by kernel_rfl); (first | rw [vg_of hc] at e21 | rw [vg_of (and_l hc)] at e21 | rw [vg_of (and_l (and_l hc))] at e21 | rw [vg_of (and_l (and_l (and_l hc)))] at e21 | rw [vg_and hc] at e21 | skip); have HC := Lib.hid hc; clear hc; simp only [e21]; first | (refine L_1 0 _ _ rfl (Try.isAgg3 _) rfl H rfl rfl ?_; exact hΦ _ _ (Sub.refl _) H) | (refine L_1 1 _ _ rfl (Try.isAgg3 _) rfl H rfl rfl ?_; exact hΦ _ _ (Sub.refl _) H) | (refine G_pNi 0 _ _ rfl (Try.isAgg3 _) rfl H rfl (Try.sizeOf3 _) ?_; exact hΦ _ _ (Sub.refl _) H) | (refine G_pNi 1 _ _ rfl (Try.isAgg3 _) rfl H rfl (Try.sizeOf3 _) ?_; exact hΦ _ _ (Sub.refl _) H)
  apply ObO.valg
  · intro x; rfl
  · intro s' y hG; simp only [List.nil_append, List.cons_append] at hG; have eg : y 20 = _ := dh_get hG 20 rfl (by kernel_rfl); simp only [eg]; first | exact wanted_f rfl rfl rfl | exact wanted_vf rfl rfl rfl
  · intro hc s' w' y Φ R hs H hG hΦ; simp only [List.nil_append, List.cons_append] at hG; have e22 : y 22 = _ := dh_get hG 22 rfl (by kernel_rfl); (first | rw [vg_of hc] at e22 | rw [vg_of (and_l hc)] at e22 | rw [vg_of (and_l (and_l hc))] at e22 | rw [vg_of (and_l (and_l (and_l hc)))] at e22 | rw [vg_and hc] at e22 | skip); have HC := Lib.hid hc; clear hc; simp only [e22]; (go_simp; exact hΦ _ _ (Sub.refl _) H)
  apply ObO.valg
  · intro x; rfl
  · intro s' y hG; simp only [List.nil_append, List.cons_append] at hG; have eg : y 12 = _ := dh_get hG 12 rfl (by kernel_rfl); simp only [eg]; first | exact wanted_t rfl rfl rfl | exact wanted_vt rfl rfl rfl
  · intro hc s' w' y Φ R hs H hG hΦ; simp only [List.nil_append, List.cons_append] at hG; have e20 : y 20 = _ := dh_get hG 20 rfl (by kernel_rfl); have e23 : y 23 = _ := dh_get hG 23 rfl (by kernel_rfl); (first | rw [vg_of hc] at e20 | rw [vg_of (and_l hc)] at e20 | rw [vg_of (and_l (and_l hc))] at e20 | rw [vg_of (and_l (and_l (and_l hc)))] at e20 | rw [vg_and hc] at e20 | skip); (first | rw [vg_of hc] at e23 | rw [vg_of (and_l hc)] at e23 | rw [vg_of (and_l (and_l hc))] at e23 | rw [vg_of (and_l (and_l (and_l hc)))] at e23 | rw [vg_and hc] at e23 | skip); have HC := Lib.hid hc; clear hc; simp only [e20, e23]; (refine G_or _ _ _ rfl rfl rfl rfl ?_; exact hΦ _ _ (Sub.refl _) H)
  apply ObO.valw
  · intro x; rfl
  · intro s' w' y Φ R hs H hG hΦ; simp only [List.nil_append, List.cons_append] at hG; have e12 : y 12 = _ := dh_get hG 12 rfl (by kernel_rfl); have e24 : y 24 = _ := dh_get hG 24 rfl (by kernel_rfl); simp only [e12, e24]; refine wantG rfl ?_; (refine G_and _ _ _ rfl rfl rfl rfl ?_; exact hΦ _ _ (Sub.refl _) H)
  apply ObO.valw
  · intro x; rfl
  · intro s' w' y Φ R hs H hG hΦ; simp only [List.nil_append, List.cons_append] at hG; have e25 : y 25 = _ := dh_get hG 25 rfl (by kernel_rfl); simp only [e25]; refine wantG rfl ?_; (go_simp; exact hΦ _ _ (Sub.refl _) H)
  apply ObO.valg
  · intro x; rfl
  · intro s' y hG; simp only [List.nil_append, List.cons_append] at hG; have eg : y 26 = _ := dh_get hG 26 rfl (by kernel_rfl); simp only [eg]; first | exact wanted_t rfl rfl rfl | exact wanted_vt rfl rfl rfl
  · intro hc s' w' y Φ R hs H hG hΦ; have HC := Lib.hid hc; clear hc; skip; (go_simp; exact hΦ _ _ (Sub.refl _) H)
  apply ObO.valg
  · intro x; rfl
  · intro s' y hG; simp only [List.nil_append, List.cons_append] at hG; have eg : y 26 = _ := dh_get hG 26 rfl (by kernel_rfl); simp only [eg]; first | exact wanted_t rfl rfl rfl | exact wanted_vt rfl rfl rfl
  · intro hc s' w' y Φ R hs H hG hΦ; simp only [List.nil_append, List.cons_append] at hG; have e27 : y 27 = _ := dh_get hG 27 rfl (by kernel_rfl); (first | rw [vg_of hc] at e27 | rw [vg_of (and_l hc)] at e27 | rw [vg_of (and_l (and_l hc))] at e27 | rw [vg_of (and_l (and_l (and_l hc)))] at e27 | rw [vg_and hc] at e27 | skip); have HC := Lib.hid hc; clear hc; simp only [e27]; first | (refine L_1 0 _ _ rfl (Try.isAgg9 _) rfl H rfl rfl ?_; exact hΦ _ _ (Sub.refl _) H) | (refine L_1 1 _ _ rfl (Try.isAgg9 _) rfl H rfl rfl ?_; exact hΦ _ _ (Sub.refl _) H) | (refine G_pNi 0 _ _ rfl (Try.isAgg9 _) rfl H rfl (Try.sizeOf9 _) ?_; exact hΦ _ _ (Sub.refl _) H) | (refine G_pNi 1 _ _ rfl (Try.isAgg9 _) rfl H rfl (Try.sizeOf9 _) ?_; exact hΦ _ _ (Sub.refl _) H)
  apply ObO.valg
  · intro x; rfl
  · intro s' y hG; simp only [List.nil_append, List.cons_append] at hG; have eg : y 26 = _ := dh_get hG 26 rfl (by kernel_rfl); simp only [eg]; first | exact wanted_t rfl rfl rfl | exact wanted_vt rfl rfl rfl
  · intro hc s' w' y Φ R hs H hG hΦ; have HC := Lib.hid hc; clear hc; skip; (go_simp; exact hΦ _ _ (Sub.refl _) H)
  apply ObO.valg
  · intro x; rfl
  · intro s' y hG; simp only [List.nil_append, List.cons_append] at hG; have eg : y 26 = _ := dh_get hG 26 rfl (by kernel_rfl); simp only [eg]; first | exact wanted_t rfl rfl rfl | exact wanted_vt rfl rfl rfl
  · intro hc s' w' y Φ R hs H hG hΦ; simp only [List.nil_append, List.cons_append] at hG; have e29 : y 29 = _ := dh_get hG 29 rfl (by kernel_rfl); (first | rw [vg_of hc] at e29 | rw [vg_of (and_l hc)] at e29 | rw [vg_of (and_l (and_l hc))] at e29 | rw [vg_of (and_l (and_l (and_l hc)))] at e29 | rw [vg_and hc] at e29 | skip); have HC := Lib.hid hc; clear hc; simp only [e29]; first | (refine L_1 0 _ _ rfl (Try.isAgg9 _) rfl H rfl rfl ?_; exact hΦ _ _ (Sub.refl _) H) | (refine L_1 1 _ _ rfl (Try.isAgg9 _) rfl H rfl rfl ?_; exact hΦ _ _ (Sub.refl _) H) | (refine G_pNi 0 _ _ rfl (Try.isAgg9 _) rfl H rfl (Try.sizeOf9 _) ?_; exact hΦ _ _ (Sub.refl _) H) | (refine G_pNi 1 _ _ rfl (Try.isAgg9 _) rfl H rfl (Try.sizeOf9 _) ?_; exact hΦ _ _ (Sub.refl _) H)
  apply ObO.valg
  · intro x; rfl
  · intro s' y hG; simp only [List.nil_append, List.cons_append] at hG; have eg : y 26 = _ := dh_get hG 26 rfl (by kernel_rfl); simp only [eg]; first | exact wanted_t rfl rfl rfl | exact wanted_vt rfl rfl rfl
  · intro hc s' w' y Φ R hs H hG hΦ; simp only [List.nil_append, List.cons_append] at hG; have e28 : y 28 = _ := dh_get hG 28 rfl (by kernel_rfl); have e30 : y 30 = _ := dh_get hG 30 rfl (by kernel_rfl); (first | rw [vg_of hc] at e28 | rw [vg_of (and_l hc)] at e28 | rw [vg_of (and_l (and_l hc))] at e28 | rw [vg_of (and_l (and_l (and_l hc)))] at e28 | rw [vg_and hc] at e28 | skip); (first | rw [vg_of hc] at e30 | rw [vg_of (and_l hc)] at e30 | rw [vg_of (and_l (and_l hc))] at e30 | rw [vg_of (and_l (and_l (and_l hc)))] at e30 | rw [vg_and hc] at e30 | skip); have HC := Lib.hid hc; clear hc; simp only [e28, e30]; (go_simp; exact hΦ _ _ (Sub.refl _) H)
  apply ObO.valw
  · intro x; rfl
  · intro s' w' y Φ R hs H hG hΦ; simp only [List.nil_append, List.cons_append] at hG; have e26 : y 26 = _ := dh_get hG 26 rfl (by kernel_rfl); have e31 : y 31 = _ := dh_get hG 31 rfl (by kernel_rfl); simp only [e26, e31]; refine wantG rfl ?_; (refine G_and _ _ _ rfl rfl rfl rfl ?_; exact hΦ _ _ (Sub.refl _) H)
  apply ObO.valw
  · intro x; rfl
  · intro s' w' y Φ R hs H hG hΦ; simp only [List.nil_append, List.cons_append] at hG; have e32 : y 32 = _ := dh_get hG 32 rfl (by kernel_rfl); simp only [e32]; refine wantG rfl ?_; (go_simp; exact hΦ _ _ (Sub.refl _) H)
  apply ObO.valg
  · intro x; rfl
  · intro s' y hG; simp only [List.nil_append, List.cons_append] at hG; have eg : y 33 = _ := dh_get hG 33 rfl (by kernel_rfl); simp only [eg]; first | exact wanted_t rfl rfl rfl | exact wanted_vt rfl rfl rfl
  · intro hc s' w' y Φ R hs H hG hΦ; have HC := Lib.hid hc; clear hc; skip; first | (refine L_1 0 _ _ rfl (Try.isAgg25 _) rfl H rfl rfl ?_; exact hΦ _ _ (Sub.refl _) H) | (refine L_1 1 _ _ rfl (Try.isAgg25 _) rfl H rfl rfl ?_; exact hΦ _ _ (Sub.refl _) H) | (refine G_pNi 0 _ _ rfl (Try.isAgg25 _) rfl H rfl (Try.sizeOf25 _) ?_; exact hΦ _ _ (Sub.refl _) H) | (refine G_pNi 1 _ _ rfl (Try.isAgg25 _) rfl H rfl (Try.sizeOf25 _) ?_; exact hΦ _ _ (Sub.refl _) H)
  apply ObO.valg
  · intro x; rfl
  · intro s' y hG; simp only [List.nil_append, List.cons_append] at hG; have eg : y 33 = _ := dh_get hG 33 rfl (by kernel_rfl); simp only [eg]; first | exact wanted_t rfl rfl rfl | exact wanted_vt rfl rfl rfl
  · intro hc s' w' y Φ R hs H hG hΦ; simp only [List.nil_append, List.cons_append] at hG; have e34 : y 34 = _ := dh_get hG 34 rfl (by kernel_rfl); (first | rw [vg_of hc] at e34 | rw [vg_of (and_l hc)] at e34 | rw [vg_of (and_l (and_l hc))] at e34 | rw [vg_of (and_l (and_l (and_l hc)))] at e34 | rw [vg_and hc] at e34 | skip); have HC := Lib.hid hc; clear hc; simp only [e34]; (go_simp; refine (refIsList_any H).mono ?_; rintro e w2 ⟨rfl, H⟩; exact ⟨_, rfl, hΦ _ _ (Sub.refl _) H⟩)
  apply ObO.valg
  · intro x; rfl
  · intro s' y hG; simp only [List.nil_append, List.cons_append] at hG; have eg : y 33 = _ := dh_get hG 33 rfl (by kernel_rfl); simp only [eg]; first | exact wanted_t rfl rfl rfl | exact wanted_vt rfl rfl rfl
  · intro hc s' w' y Φ R hs H hG hΦ; have HC := Lib.hid hc; clear hc; skip; first | (refine L_1 0 _ _ rfl (Try.isAgg25 _) rfl H rfl rfl ?_; exact hΦ _ _ (Sub.refl _) H) | (refine L_1 1 _ _ rfl (Try.isAgg25 _) rfl H rfl rfl ?_; exact hΦ _ _ (Sub.refl _) H) | (refine G_pNi 0 _ _ rfl (Try.isAgg25 _) rfl H rfl (Try.sizeOf25 _) ?_; exact hΦ _ _ (Sub.refl _) H) | (refine G_pNi 1 _ _ rfl (Try.isAgg25 _) rfl H rfl (Try.sizeOf25 _) ?_; exact hΦ _ _ (Sub.refl _) H)
  apply ObO.valg
  · intro x; rfl
  · intro s' y hG; simp only [List.nil_append, List.cons_append] at hG; have eg : y 33 = _ := dh_get hG 33 rfl (by kernel_rfl); simp only [eg]; first | exact wanted_t rfl rfl rfl | exact wanted_vt rfl rfl rfl
  · intro hc s' w' y Φ R hs H hG hΦ; simp only [List.nil_append, List.cons_append] at hG; have e36 : y 36 = _ := dh_get hG 36 rfl (by kernel_rfl); (first | rw [vg_of hc] at e36 | rw [vg_of (and_l hc)] at e36 | rw [vg_of (and_l (and_l hc))] at e36 | rw [vg_of (and_l (and_l (and_l hc)))] at e36 | rw [vg_and hc] at e36 | skip); have HC := Lib.hid hc; clear hc; simp only [e36]; (go_simp; refine (refIsList_any H).mono ?_; rintro e w2 ⟨rfl, H⟩; exact ⟨_, rfl, hΦ _ _ (Sub.refl _) H⟩)
  apply ObO.valg
  · intro x; rfl
  · intro s' y hG; simp only [List.nil_append, List.cons_append] at hG; have eg : y 33 = _ := dh_get hG 33 rfl (by kernel_rfl); simp only [eg]; first | exact wanted_t rfl rfl rfl | exact wanted_vt rfl rfl rfl
  · intro hc s' w' y Φ R hs H hG hΦ; simp only [List.nil_append, List.cons_append] at hG; have e35 : y 35 = _ := dh_get hG 35 rfl (by kernel_rfl); have e37 : y 37 = _ := dh_get hG 37 rfl (by kernel_rfl); (first | rw [vg_of hc] at e35 | rw [vg_of (and_l hc)] at e35 | rw [vg_of (and_l (and_l hc))] at e35 | rw [vg_of (and_l (and_l (and_l hc)))] at e35 | rw [vg_and hc] at e35 | skip); (first | rw [vg_of hc] at e37 | rw [vg_of (and_l hc)] at e37 | rw [vg_of (and_l (and_l hc))] at e37 | rw [vg_of (and_l (and_l (and_l hc)))] at e37 | rw [vg_and hc] at e37 | skip); have HC := Lib.hid hc; clear hc; simp only [e35, e37]; (go_simp; exact hΦ _ _ (Sub.refl _) H)
  apply ObO.valw
  · intro x; rfl
  · intro s' w' y Φ R hs H hG hΦ; simp only [List.nil_append, List.cons_append] at hG; have e33 : y 33 = _ := dh_get hG 33 rfl (by kernel_rfl); have e38 : y 38 = _ := dh_get hG 38 rfl (by kernel_rfl); simp only [e33, e38]; refine wantG rfl ?_; (refine G_and _ _ _ rfl rfl rfl rfl ?_; exact hΦ _ _ (Sub.refl _) H)
  apply ObO.valw
  · intro x; rfl
  · intro s' w' y Φ R hs H hG hΦ; simp only [List.nil_append, List.cons_append] at hG; have e39 : y 39 = _ := dh_get hG 39 rfl (by kernel_rfl); simp only [e39]; refine wantG rfl ?_; (go_simp; exact hΦ _ _ (Sub.refl _) H)
  clear H
  intro s3 w3 yy hs3 H hG
  replace H := (show Holds _ _ ([] ++ _) _ from H); rw [List.nil_append] at H
  simp only [List.nil_append, List.cons_append] at hG
  have e0 : yy 0 = _ := gh_get hG 0 rfl
  have e1 : yy 1 = _ := gh_get hG 1 rfl
  have e2 : yy 2 = _ := gh_get hG 2 rfl
  have e3 : yy 3 = _ := gh_get hG 3 rfl
  have e4 : yy 4 = _ := gh_get hG 4 rfl
  have e5 : yy 5 = _ := gh_get hG 5 rfl
  have e6 : yy 6 = _ := gh_get hG 6 rfl
  have e7 : yy 7 = _ := gh_get hG 7 rfl
  have e8 : yy 8 = _ := gh_get hG 8 rfl
  have e9 : yy 9 = _ := gh_get hG 9 rfl
  have e10 : yy 10 = _ := gh_get hG 10 rfl
  have e11 : yy 11 = _ := gh_get hG 11 rfl
  have e12 : yy 12 = _ := gh_get hG 12 rfl
  have e13 : yy 13 = _ := gh_get hG 13 rfl
  have e14 : yy 14 = _ := gh_get hG 14 rfl
  have e15 : yy 15 = _ := gh_get hG 15 rfl
  have e16 : yy 16 = _ := gh_get hG 16 rfl
  have e17 : yy 17 = _ := gh_get hG 17 rfl
  have e18 : yy 18 = _ := gh_get hG 18 rfl
  have e19 : yy 19 = _ := gh_get hG 19 rfl
  have e20 : yy 20 = _ := gh_get hG 20 rfl
  have e21 : yy 21 = _ := gh_get hG 21 rfl
  have e22 : yy 22 = _ := gh_get hG 22 rfl
  have e23 : yy 23 = _ := gh_get hG 23 rfl
  have e24 : yy 24 = _ := gh_get hG 24 rfl
  have e25 : yy 25 = _ := gh_get hG 25 rfl
  have e26 : yy 26 = _ := gh_get hG 26 rfl
  have e27 : yy 27 = _ := gh_get hG 27 rfl
  have e28 : yy 28 = _ := gh_get hG 28 rfl
  have e29 : yy 29 = _ := gh_get hG 29 rfl
  have e30 : yy 30 = _ := gh_get hG 30 rfl
  have e31 : yy 31 = _ := gh_get hG 31 rfl
  have e32 : yy 32 = _ := gh_get hG 32 rfl
  have e33 : yy 33 = _ := gh_get hG 33 rfl
  have e34 : yy 34 = _ := gh_get hG 34 rfl
  have e35 : yy 35 = _ := gh_get hG 35 rfl
  have e36 : yy 36 = _ := gh_get hG 36 rfl
  have e37 : yy 37 = _ := gh_get hG 37 rfl
  have e38 : yy 38 = _ := gh_get hG 38 rfl
  have e39 : yy 39 = _ := gh_get hG 39 rfl
  have e40 : yy 40 = _ := gh_get hG 40 rfl
  simp only [e0, e1, e2, e3, e4, e5, e6, e7, e8, e9, e10, e11, e12, e13, e14, e15, e16, e17, e18, e19, e20, e21, e22, e23, e24, e25, e26, e27, e28, e29, e30, e31, e32, e33, e34, e35, e36, e37, e38, e39, e40]
  clear hG e0 e1 e2 e3 e4 e5 e6 e7 e8 e9 e10 e11 e12 e13 e14 e15 e16 e17 e18 e19 e20 e21 e22 e23 e24 e25 e26 e27 e28 e29 e30 e31 e32 e33 e34 e35 e36 e37 e38 e39 e40
  replace H := H.forget hs3
  refine list_end ?_
  refine then_norm ?_
  refine wp_ret ?_
  exact ret1 rfl (rv_tmp rfl) rfl ⟨rfl, H.drop.drop⟩
end Go.Proofs.Yticpadjheelipaa
