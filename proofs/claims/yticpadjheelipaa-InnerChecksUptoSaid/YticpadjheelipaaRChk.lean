/- The inner layer's reference: the first operation that reads otherwise than it must, walked. -/
import Derived.Test.YticpadjheelipaaRList
import Derived.Test.YticpadjheelipaaRReg
namespace Go.Proofs.Yticpadjheelipaa
open Go.RowKit
set_option linter.all false
set_option maxRecDepth 10000

set_option maxHeartbeats 4000000 in
theorem refCheck_spec {E : World} {s : SH} {L : List HP} {w : World} {v : Value} {xs : List Op'} (B : Nat) (hB : ∀ o ∈ xs, o.list.length ≤ B) (hn : (∀ o ∈ xs, o.kind ≠ 1) ∨ (B + xs.length + 1) * 8 ≤ 140737488355328) (hv : kOp.Sl s v xs) (H : Holds E s L w) :
    Calls Try.prog 14 #[v] w fun e w' => e = .returned (.int .i64 (refChk xs 0 xs)) ∧ ∃ s', Sub s s' ∧ Holds E s' L w' := by
  have hv0 := hv
  obtain ⟨A, cap, rfl, h1, h2, -⟩ := hv
  have h2' : xs.length * 64 ≤ 140737488355328 := h2
  clear h2
  go_enter Try.func14, Try.ntmps14
  refine wp_seq ?_
  refine wp_region_lit ?_
  apply seq_op rfl
  · intro Φ hΦ; go_simp; exact hΦ
  (try simp only [Act.put, List.setIfInBounds_toArray, List.set_cons_succ, List.set_cons_zero])
  refine list_end ?_
  refine then_norm ?_
  refine wp_seq ?_
  refine wp_seq ?_
  refine wp_region_lit ?_
  apply seq_op rfl
  · intro Φ hΦ; go_simp; exact hΦ
  (try simp only [Act.put, List.setIfInBounds_toArray, List.set_cons_succ, List.set_cons_zero])
  apply seq_op rfl
  · intro Φ hΦ; go_simp; exact hΦ
  (try simp only [Act.put, List.setIfInBounds_toArray, List.set_cons_succ, List.set_cons_zero])
  apply seq_op rfl
  · intro Φ hΦ; go_simp; exact hΦ
  (try simp only [Act.put, List.setIfInBounds_toArray, List.set_cons_succ, List.set_cons_zero])
  refine list_end ?_
  refine then_norm ?_
  refine wp_block ?_
  refine wp_loopF [none, none, some 2, some 3, some 4, none, none, some 7, some 8, some 9, some 10, some 11, some 12, some 13, some 14, some 15, some 16, some 17, some 18, some 19, some 20, some 21, some 22, some 23, some 24, some 25, some 26, some 27, some 28, some 29, some 30, some 31, some 32, some 33, some 34, some 35, some 36] rfl (by simp) (fun f w => ∃ k : Nat, ∃ s', k ≤ xs.length ∧ f 7 = .int .i64 k ∧ refChk xs k (xs.drop k) = refChk xs 0 xs ∧ Sub s s' ∧ Holds E s' L w) (fun f w => xs.length - (intOf (f 7)).toNat) ?_ ?_
  · skip
    exact ⟨0, s, Nat.zero_le _, rfl, by rw [List.drop_zero], Sub.refl s, H⟩
  · intro f w hI
    clear H
    obtain ⟨k, s1, hk, h7, hR, hs1, H⟩ := hI
    have HR := Lib.hid hR
    clear hR
    simp only [ovm, mixM]
    simp only [h7]
    clear h7
    refine wp_seq ?_
    refine wp_region_lit ?_
    apply seq_op rfl
    · intro Φ hΦ; go_simp; exact hΦ
    (try simp only [Act.put, List.setIfInBounds_toArray, List.set_cons_succ, List.set_cons_zero])
    refine list_end ?_
    refine then_norm ?_
    refine wp_seq ?_
    refine wp_cond_split rfl (fun hc => ?_) (fun hc => ?_)
    · skip
      refine wp_skip ?_
      refine then_norm ?_
      refine wp_seq ?_
      refine wp_block ?_
      refine wp_seq ?_
      have hlt : k < xs.length := by simpa using hc
      obtain ⟨b, off, o, Al, cl, rfl, hdr0, hmem, hC, hol, hkind, hkey, hval⟩ := elemOp (hv0.mono hs1) k hlt
      have hok : xs[k] = o := by
        rw [List.drop_eq_getElem_cons hlt] at hdr0
        simp only [List.cons.injEq, and_true] at hdr0; exact hdr0
      have HOK := Lib.hid hok
      clear hok
      have hdr := Lib.hid hdr0
      clear hdr0
      refine wp_region_lit ?_
      apply seq_op rfl
      · intro Φ hΦ; go_simp; exact hΦ
      (try simp only [Act.put, List.setIfInBounds_toArray, List.set_cons_succ, List.set_cons_zero])
      apply seq_op rfl
      · intro Φ hΦ; go_simp; exact hΦ
      (try simp only [Act.put, List.setIfInBounds_toArray, List.set_cons_succ, List.set_cons_zero])
      apply seq_op rfl
      · intro Φ hΦ; first | (refine L_1 0 _ _ rfl (Try.isAgg25 _) rfl H rfl rfl ?_; exact hΦ) | (refine G_pNi 0 _ _ rfl (Try.isAgg25 _) rfl H rfl (Try.sizeOf25 _) ?_; exact hΦ) | (refine G_s1 _ _ rfl (Try.isAgg25 _) rfl H hC 0 rfl rfl ?_; exact hΦ) | (refine G_s1 _ _ rfl (Try.isAgg25 _) rfl H hC _ rfl rfl ?_; exact hΦ) | (refine G_sN _ _ rfl (Try.isAgg25 _) rfl H hC (Try.sizeOf25 _) ?_; exact hΦ)
      (try simp only [Act.put, List.setIfInBounds_toArray, List.set_cons_succ, List.set_cons_zero])
      refine OpG.list rfl ?_; refine G_alloc 25 rfl (Try.zeroValue25 _) H ?_; clear H; intro b4 w1 H; (try simp only [Value.cells] at H)
      (try simp only [Act.put, List.setIfInBounds_toArray, List.set_cons_succ, List.set_cons_zero])
      apply seq_op rfl
      · intro Φ hΦ; go_simp; exact hΦ
      (try simp only [Act.put, List.setIfInBounds_toArray, List.set_cons_succ, List.set_cons_zero])
      refine OpG.list rfl ?_; first | (refine S_1 0 _ _ _ rfl (Try.sizeOf25 _) rfl rfl H rfl ?_ ?_ ?_; (focus (first | (simp [Value.oneCell']; done) | assumption)); (focus (simp; done))) | (refine G_setNi 0 _ _ _ rfl (Try.sizeOf25 _) rfl rfl ?_ H rfl rfl ?_; (focus (first | (simp [Value.oneCell']; done) | assumption)))
      clear H; intro w1 H; simp only [List.set_cons_succ, List.set_cons_zero] at H
      refine list_end ?_
      refine then_norm ?_
      refine wp_seq ?_
      refine wp_seq ?_
      refine wp_region_lit ?_
      apply seq_op rfl
      · intro Φ hΦ; first | (refine L_1 0 _ _ rfl (Try.isAgg25 _) rfl H rfl rfl ?_; exact hΦ) | (refine G_pNi 0 _ _ rfl (Try.isAgg25 _) rfl H rfl (Try.sizeOf25 _) ?_; exact hΦ) | (refine G_s1 _ _ rfl (Try.isAgg25 _) rfl H hC 0 rfl rfl ?_; exact hΦ) | (refine G_s1 _ _ rfl (Try.isAgg25 _) rfl H hC _ rfl rfl ?_; exact hΦ) | (refine G_sN _ _ rfl (Try.isAgg25 _) rfl H hC (Try.sizeOf25 _) ?_; exact hΦ)
      (try simp only [Act.put, List.setIfInBounds_toArray, List.set_cons_succ, List.set_cons_zero])
      refine seq_call rfl (fun Φ hΦ => by go_simp; (try exact hΦ)) (refRead_any H) ?_
      clear H; rintro e w1 ⟨rfl, H⟩; refine ⟨_, rfl, ?_⟩
      (try simp only [Act.put, List.setIfInBounds_toArray, List.set_cons_succ, List.set_cons_zero])
      apply seq_op rfl
      · intro Φ hΦ; go_simp; exact hΦ
      (try simp only [Act.put, List.setIfInBounds_toArray, List.set_cons_succ, List.set_cons_zero])
      refine list_end ?_
      refine then_norm ?_
      refine wp_cond_split rfl (fun hc => ?_) (fun hc => ?_)
      · skip
        have hcl := Lib.hid (show (!((o.kind == 2 || o.kind == 4) && o.has)) = true by simp only [Bool.not_and, Bool.not_or]; exact hc)
        refine wp_exit ?_
        refine then_exit ?_
        refine block_exit ?_
        refine then_norm ?_
        have hw := i64w (n := (k : Int) + 1) (by omega) (by omega)
        refine wp_region_lit ?_
        apply seq_op rfl
        · intro Φ hΦ; go_simp; exact hΦ
        (try simp only [Act.put, List.setIfInBounds_toArray, List.set_cons_succ, List.set_cons_zero])
        apply seq_op rfl
        · intro Φ hΦ; go_simp; exact hΦ
        (try simp only [Act.put, List.setIfInBounds_toArray, List.set_cons_succ, List.set_cons_zero])
        refine list_end ?_
        refine then_norm ?_
        refine ⟨⟨⟨rfl, rfl, rfl, rfl, rfl⟩, rfl⟩, ?_, by simp [intOf]; omega⟩
        exact ⟨k + 1, s1, by omega, by go_num, by rw [← HR.out, hdr.out]; simp only [refChk]; rw [if_pos hcl.out], hs1, H.drop⟩
      · skip
        have hcl := Lib.hid (show (!((o.kind == 2 || o.kind == 4) && o.has)) = false by simp only [Bool.not_and, Bool.not_or]; exact hc)
        refine wp_skip ?_
        refine then_norm ?_
        refine wp_seq ?_
        refine wp_plain_obO (k := 20) (sz := 37) (List.replicate 20 20) (fun _ => []) rfl rfl (by kernel_rfl) (by kernel_rfl) H (by simp only [List.take_succ_cons, List.take_zero]; exact rfl)
          (fun y => by simp only [ov, Act.put, List.setIfInBounds_toArray, List.set_cons_succ, List.set_cons_zero, Nat.zero_add, Nat.reduceAdd]; exact rfl) ?_
        apply ObO.valw
        · intro x; rfl
        · intro s' w' y Φ R hs H hG hΦ; skip; refine wantG rfl ?_; (go_simp; exact hΦ _ _ (Sub.refl _) H)
        apply ObO.valw
        · intro x; rfl
        · intro s' w' y Φ R hs H hG hΦ; simp only [List.nil_append, List.cons_append] at hG; have e0 : y 0 = _ := dh_get hG 0 rfl (by kernel_rfl); simp only [e0]; refine wantG rfl ?_; first | (refine L_1 0 _ _ rfl (Try.isAgg3 _) rfl H rfl rfl ?_; exact hΦ _ _ (Sub.refl _) H) | (refine G_pNi 0 _ _ rfl (Try.isAgg3 _) rfl H rfl (Try.sizeOf3 _) ?_; exact hΦ _ _ (Sub.refl _) H) | (refine G_s1 _ _ rfl (Try.isAgg3 _) rfl H (hC.mono hs) 0 rfl rfl ?_; exact hΦ _ _ (Sub.refl _) H) | (refine G_s1 _ _ rfl (Try.isAgg3 _) rfl H (hC.mono hs) _ rfl rfl ?_; exact hΦ _ _ (Sub.refl _) H) | (refine G_sN _ _ rfl (Try.isAgg3 _) rfl H (hC.mono hs) (Try.sizeOf3 _) ?_; exact hΦ _ _ (Sub.refl _) H)
        apply ObO.valw
        · intro x; rfl
        · intro s' w' y Φ R hs H hG hΦ; simp only [List.nil_append, List.cons_append] at hG; have e1 : y 1 = _ := dh_get hG 1 rfl (by kernel_rfl); simp only [e1]; refine wantG rfl ?_; (go_simp; exact hΦ _ _ (Sub.refl _) H)
        apply ObO.valw
        · intro x; rfl
        · intro s' w' y Φ R hs H hG hΦ; simp only [List.nil_append, List.cons_append] at hG; have e2 : y 2 = _ := dh_get hG 2 rfl (by kernel_rfl); simp only [e2]; refine wantG rfl ?_; (go_simp; exact hΦ _ _ (Sub.refl _) H)
        apply ObO.valg
        · intro x; rfl
        · intro s' y hG; simp only [List.nil_append, List.cons_append] at hG; have eg : y 3 = _ := dh_get hG 3 rfl (by kernel_rfl); simp only [eg]; first | exact wanted_t rfl rfl rfl | exact wanted_vt rfl rfl rfl
        · intro hc s' w' y Φ R hs H hG hΦ; have HC := Lib.hid hc; clear hc; skip; (go_simp; exact hΦ _ _ (Sub.refl _) H)
        apply ObO.valg
        · intro x; rfl
        · intro s' y hG; simp only [List.nil_append, List.cons_append] at hG; have eg : y 3 = _ := dh_get hG 3 rfl (by kernel_rfl); simp only [eg]; first | exact wanted_t rfl rfl rfl | exact wanted_vt rfl rfl rfl
        · intro hc s' w' y Φ R hs H hG hΦ; have HC := Lib.hid hc; clear hc; skip; (go_simp; exact hΦ _ _ (Sub.refl _) H)
        apply ObO.valg
        · intro x; rfl
        · intro s' y hG; simp only [List.nil_append, List.cons_append] at hG; have eg : y 3 = _ := dh_get hG 3 rfl (by kernel_rfl); simp only [eg]; first | exact wanted_t rfl rfl rfl | exact wanted_vt rfl rfl rfl
        · intro hc s' w' y Φ R hs H hG hΦ; simp only [List.nil_append, List.cons_append] at hG; have e4 : y 4 = _ := dh_get hG 4 rfl (by kernel_rfl); have e5 : y 5 = _ := dh_get hG 5 rfl (by kernel_rfl); (first | rw [vg_of hc] at e4 | rw [vg_of (and_l hc)] at e4 | rw [vg_of (and_l (and_l hc))] at e4 | rw [vg_of (and_l (and_l (and_l hc)))] at e4 | rw [vg_and hc] at e4 | skip); (first | rw [vg_of hc] at e5 | rw [vg_of (and_l hc)] at e5 | rw [vg_of (and_l (and_l hc))] at e5 | rw [vg_of (and_l (and_l (and_l hc)))] at e5 | rw [vg_and hc] at e5 | skip); have HC := Lib.hid hc; clear hc; simp only [e4, e5]; (go_simp; refine (rightList_spec B hB hn (hv0.mono (hs1.trans hs)) k hlt H).mono ?_; rintro e w2 ⟨rfl, s9, hs9, H⟩; exact ⟨_, rfl, hΦ _ _ hs9 H⟩)
        apply ObO.valg
        · intro x; rfl
        · intro s' y hG; simp only [List.nil_append, List.cons_append] at hG; have eg : y 3 = _ := dh_get hG 3 rfl (by kernel_rfl); simp only [eg]; first | exact wanted_t rfl rfl rfl | exact wanted_vt rfl rfl rfl
        · intro hc s' w' y Φ R hs H hG hΦ; simp only [List.nil_append, List.cons_append] at hG; have e6 : y 6 = _ := dh_get hG 6 rfl (by kernel_rfl); (first | rw [vg_of hc] at e6 | rw [vg_of (and_l hc)] at e6 | rw [vg_of (and_l (and_l hc))] at e6 | rw [vg_of (and_l (and_l (and_l hc)))] at e6 | rw [vg_and hc] at e6 | skip); have HC := Lib.hid hc; clear hc; simp only [e6]; (go_simp; exact hΦ _ _ (Sub.refl _) H)
        apply ObO.valw
        · intro x; rfl
        · intro s' w' y Φ R hs H hG hΦ; simp only [List.nil_append, List.cons_append] at hG; have e3 : y 3 = _ := dh_get hG 3 rfl (by kernel_rfl); have e7 : y 7 = _ := dh_get hG 7 rfl (by kernel_rfl); simp only [e3, e7]; refine wantG rfl ?_; (refine G_and _ _ _ rfl rfl rfl rfl ?_; exact hΦ _ _ (Sub.refl _) H)
        apply ObO.valw
        · intro x; rfl
        · intro s' w' y Φ R hs H hG hΦ; simp only [List.nil_append, List.cons_append] at hG; have e8 : y 8 = _ := dh_get hG 8 rfl (by kernel_rfl); simp only [e8]; refine wantG rfl ?_; (go_simp; exact hΦ _ _ (Sub.refl _) H)
        apply ObO.valg
        · intro x; rfl
        · intro s' y hG; simp only [List.nil_append, List.cons_append] at hG; have eg : y 9 = _ := dh_get hG 9 rfl (by kernel_rfl); simp only [eg]; first | exact wanted_f rfl rfl rfl | exact wanted_vf rfl rfl rfl
        · intro hc s' w' y Φ R hs H hG hΦ; have HC := Lib.hid hc; clear hc; skip; (go_simp; exact hΦ _ _ (Sub.refl _) H)
        apply ObO.valg
        · intro x; rfl
        · intro s' y hG; simp only [List.nil_append, List.cons_append] at hG; have eg : y 9 = _ := dh_get hG 9 rfl (by kernel_rfl); simp only [eg]; first | exact wanted_f rfl rfl rfl | exact wanted_vf rfl rfl rfl
        · intro hc s' w' y Φ R hs H hG hΦ; simp only [List.nil_append, List.cons_append] at hG; have e10 : y 10 = _ := dh_get hG 10 rfl (by kernel_rfl); (first | rw [vg_of hc] at e10 | rw [vg_of (and_l hc)] at e10 | rw [vg_of (and_l (and_l hc))] at e10 | rw [vg_of (and_l (and_l (and_l hc)))] at e10 | rw [vg_and hc] at e10 | skip); have HC := Lib.hid hc; clear hc; simp only [e10]; first | (refine L_1 0 _ _ rfl (Try.isAgg3 _) rfl H rfl rfl ?_; exact hΦ _ _ (Sub.refl _) H) | (refine G_pNi 0 _ _ rfl (Try.isAgg3 _) rfl H rfl (Try.sizeOf3 _) ?_; exact hΦ _ _ (Sub.refl _) H) | (refine G_s1 _ _ rfl (Try.isAgg3 _) rfl H (hC.mono hs) 0 rfl rfl ?_; exact hΦ _ _ (Sub.refl _) H) | (refine G_s1 _ _ rfl (Try.isAgg3 _) rfl H (hC.mono hs) _ rfl rfl ?_; exact hΦ _ _ (Sub.refl _) H) | (refine G_sN _ _ rfl (Try.isAgg3 _) rfl H (hC.mono hs) (Try.sizeOf3 _) ?_; exact hΦ _ _ (Sub.refl _) H)
        apply ObO.valg
        · intro x; rfl
        · intro s' y hG; simp only [List.nil_append, List.cons_append] at hG; have eg : y 9 = _ := dh_get hG 9 rfl (by kernel_rfl); simp only [eg]; first | exact wanted_f rfl rfl rfl | exact wanted_vf rfl rfl rfl
        · intro hc s' w' y Φ R hs H hG hΦ; simp only [List.nil_append, List.cons_append] at hG; have e11 : y 11 = _ := dh_get hG 11 rfl (by kernel_rfl); (first | rw [vg_of hc] at e11 | rw [vg_of (and_l hc)] at e11 | rw [vg_of (and_l (and_l hc))] at e11 | rw [vg_of (and_l (and_l (and_l hc)))] at e11 | rw [vg_and hc] at e11 | skip); have HC := Lib.hid hc; clear hc; simp only [e11]; (go_simp; exact hΦ _ _ (Sub.refl _) H)
        apply ObO.valg
        · intro x; rfl
        · intro s' y hG; simp only [List.nil_append, List.cons_append] at hG; have eg : y 9 = _ := dh_get hG 9 rfl (by kernel_rfl); simp only [eg]; first | exact wanted_f rfl rfl rfl | exact wanted_vf rfl rfl rfl
        · intro hc s' w' y Φ R hs H hG hΦ; simp only [List.nil_append, List.cons_append] at hG; have e12 : y 12 = _ := dh_get hG 12 rfl (by kernel_rfl); (first | rw [vg_of hc] at e12 | rw [vg_of (and_l hc)] at e12 | rw [vg_of (and_l (and_l hc))] at e12 | rw [vg_of (and_l (and_l (and_l hc)))] at e12 | rw [vg_and hc] at e12 | skip); have HC := Lib.hid hc; clear hc; simp only [e12]; (go_simp; exact hΦ _ _ (Sub.refl _) H)
        apply ObO.valg
        · intro x; rfl
        · intro s' y hG; simp only [List.nil_append, List.cons_append] at hG; have eg : y 13 = _ := dh_get hG 13 rfl (by kernel_rfl); simp only [eg]; first | exact wanted_t rfl rfl rfl | exact wanted_vt rfl rfl rfl
        · intro hc s' w' y Φ R hs H hG hΦ; have HC := Lib.hid hc; clear hc; skip; (go_simp; exact hΦ _ _ (Sub.refl _) H)
        apply ObO.valg
        · intro x; rfl
        · intro s' y hG; simp only [List.nil_append, List.cons_append] at hG; have eg : y 13 = _ := dh_get hG 13 rfl (by kernel_rfl); simp only [eg]; first | exact wanted_t rfl rfl rfl | exact wanted_vt rfl rfl rfl
        · intro hc s' w' y Φ R hs H hG hΦ; have HC := Lib.hid hc; clear hc; skip; (go_simp; exact hΦ _ _ (Sub.refl _) H)
        apply ObO.valg
        · intro x; rfl
        · intro s' y hG; simp only [List.nil_append, List.cons_append] at hG; have eg : y 13 = _ := dh_get hG 13 rfl (by kernel_rfl); simp only [eg]; first | exact wanted_t rfl rfl rfl | exact wanted_vt rfl rfl rfl
        · intro hc s' w' y Φ R hs H hG hΦ; simp only [List.nil_append, List.cons_append] at hG; have e14 : y 14 = _ := dh_get hG 14 rfl (by kernel_rfl); have e15 : y 15 = _ := dh_get hG 15 rfl (by kernel_rfl); (first | rw [vg_of hc] at e14 | rw [vg_of (and_l hc)] at e14 | rw [vg_of (and_l (and_l hc))] at e14 | rw [vg_of (and_l (and_l (and_l hc)))] at e14 | rw [vg_and hc] at e14 | skip); (first | rw [vg_of hc] at e15 | rw [vg_of (and_l hc)] at e15 | rw [vg_of (and_l (and_l hc))] at e15 | rw [vg_of (and_l (and_l (and_l hc)))] at e15 | rw [vg_and hc] at e15 | skip); have HC := Lib.hid hc; clear hc; simp only [e14, e15]; (go_simp; refine (rightReg_spec (hv0.mono (hs1.trans hs)) k hlt H).mono ?_; rintro e w2 ⟨rfl, H⟩; exact ⟨_, rfl, hΦ _ _ (Sub.refl _) H⟩)
        apply ObO.valg
        · intro x; rfl
        · intro s' y hG; simp only [List.nil_append, List.cons_append] at hG; have eg : y 13 = _ := dh_get hG 13 rfl (by kernel_rfl); simp only [eg]; first | exact wanted_t rfl rfl rfl | exact wanted_vt rfl rfl rfl
        · intro hc s' w' y Φ R hs H hG hΦ; simp only [List.nil_append, List.cons_append] at hG; have e16 : y 16 = _ := dh_get hG 16 rfl (by kernel_rfl); (first | rw [vg_of hc] at e16 | rw [vg_of (and_l hc)] at e16 | rw [vg_of (and_l (and_l hc))] at e16 | rw [vg_of (and_l (and_l (and_l hc)))] at e16 | rw [vg_and hc] at e16 | skip); have HC := Lib.hid hc; clear hc; simp only [e16]; (go_simp; exact hΦ _ _ (Sub.refl _) H)
        apply ObO.valg
        · intro x; rfl
        · intro s' y hG; simp only [List.nil_append, List.cons_append] at hG; have eg : y 9 = _ := dh_get hG 9 rfl (by kernel_rfl); simp only [eg]; first | exact wanted_f rfl rfl rfl | exact wanted_vf rfl rfl rfl
        · intro hc s' w' y Φ R hs H hG hΦ; simp only [List.nil_append, List.cons_append] at hG; have e13 : y 13 = _ := dh_get hG 13 rfl (by kernel_rfl); have e17 : y 17 = _ := dh_get hG 17 rfl (by kernel_rfl); (first | rw [vg_of hc] at e13 | rw [vg_of (and_l hc)] at e13 | rw [vg_of (and_l (and_l hc))] at e13 | rw [vg_of (and_l (and_l (and_l hc)))] at e13 | rw [vg_and hc] at e13 | skip); (first | rw [vg_of hc] at e17 | rw [vg_of (and_l hc)] at e17 | rw [vg_of (and_l (and_l hc))] at e17 | rw [vg_of (and_l (and_l (and_l hc)))] at e17 | rw [vg_and hc] at e17 | skip); have HC := Lib.hid hc; clear hc; simp only [e13, e17]; (refine G_and _ _ _ rfl rfl rfl rfl ?_; exact hΦ _ _ (Sub.refl _) H)
        apply ObO.valw
        · intro x; rfl
        · intro s' w' y Φ R hs H hG hΦ; simp only [List.nil_append, List.cons_append] at hG; have e9 : y 9 = _ := dh_get hG 9 rfl (by kernel_rfl); have e18 : y 18 = _ := dh_get hG 18 rfl (by kernel_rfl); simp only [e9, e18]; refine wantG rfl ?_; (refine G_or _ _ _ rfl rfl rfl rfl ?_; exact hΦ _ _ (Sub.refl _) H)
        clear H
        intro s3 w3 yy hs3 H hG
        replace H := (show Holds _ _ ([] ++ _) _ from H); rw [List.nil_append] at H
        simp only [List.nil_append, List.cons_append] at hG
        have e0 : yy 0 = _ := gh_get hG 0 rfl
        have e1 : yy 1 = _ := gh_get hG 1 rfl
        have e2 : yy 2 = _ := gh_get hG 2 rfl
        have e3 : yy 3 = _ := gh_get hG 3 rfl
        have e4 : yy 4 = _ := gh_get hG 4 rfl
        have e5 : yy 5 = _ := gh_get hG 5 rfl
        have e6 : yy 6 = _ := gh_get hG 6 rfl
        have e7 : yy 7 = _ := gh_get hG 7 rfl
        have e8 : yy 8 = _ := gh_get hG 8 rfl
        have e9 : yy 9 = _ := gh_get hG 9 rfl
        have e10 : yy 10 = _ := gh_get hG 10 rfl
        have e11 : yy 11 = _ := gh_get hG 11 rfl
        have e12 : yy 12 = _ := gh_get hG 12 rfl
        have e13 : yy 13 = _ := gh_get hG 13 rfl
        have e14 : yy 14 = _ := gh_get hG 14 rfl
        have e15 : yy 15 = _ := gh_get hG 15 rfl
        have e16 : yy 16 = _ := gh_get hG 16 rfl
        have e17 : yy 17 = _ := gh_get hG 17 rfl
        have e18 : yy 18 = _ := gh_get hG 18 rfl
        have e19 : yy 19 = _ := gh_get hG 19 rfl
        simp only [e0, e1, e2, e3, e4, e5, e6, e7, e8, e9, e10, e11, e12, e13, e14, e15, e16, e17, e18, e19]
        clear hG e0 e1 e2 e3 e4 e5 e6 e7 e8 e9 e10 e11 e12 e13 e14 e15 e16 e17 e18 e19
        refine list_end ?_
        simp only [HOK.out]
        refine then_norm ?_
        refine wp_cond_split rfl (fun hc => ?_) (fun hc => ?_)
        · skip
          refine wp_seq ?_
          refine wp_region_lit ?_
          apply seq_op rfl
          · intro Φ hΦ; go_simp; exact hΦ
          (try simp only [Act.put, List.setIfInBounds_toArray, List.set_cons_succ, List.set_cons_zero])
          apply seq_op rfl
          · intro Φ hΦ; go_simp; exact hΦ
          (try simp only [Act.put, List.setIfInBounds_toArray, List.set_cons_succ, List.set_cons_zero])
          refine list_end ?_
          refine then_norm ?_
          refine wp_ret ?_
          refine block_ret ?_
          refine then_ret ?_
          refine then_ret ?_
          refine block_ret ?_
          refine then_ret ?_
          exact ret1 rfl (rv_tmp rfl) rfl ⟨by rw [← HR.out, hdr.out]; simp only [refChk]; rw [if_neg (nt (by exact hcl.out)), if_pos (by exact hc)]; rfl, s3, hs1.trans hs3, H.drop⟩
        · skip
          refine wp_skip ?_
          refine block_norm ?_
          refine then_norm ?_
          have hw := i64w (n := (k : Int) + 1) (by omega) (by omega)
          refine wp_region_lit ?_
          apply seq_op rfl
          · intro Φ hΦ; go_simp; exact hΦ
          (try simp only [Act.put, List.setIfInBounds_toArray, List.set_cons_succ, List.set_cons_zero])
          apply seq_op rfl
          · intro Φ hΦ; go_simp; exact hΦ
          (try simp only [Act.put, List.setIfInBounds_toArray, List.set_cons_succ, List.set_cons_zero])
          refine list_end ?_
          refine then_norm ?_
          refine ⟨⟨⟨rfl, rfl, rfl, rfl, rfl⟩, rfl⟩, ?_, by simp [intOf]; omega⟩
          exact ⟨k + 1, s3, by omega, by go_num, by rw [← HR.out, hdr.out]; simp only [refChk]; rw [if_neg (nt (by exact hcl.out)), if_neg (nt (by exact hc))], hs1.trans hs3, H.drop⟩
    · skip
      have hfin : k = xs.length := by
        have : ¬ k < xs.length := by simpa using hc
        omega
      subst hfin
      refine wp_exit ?_
      refine then_exit ?_
      refine then_exit ?_
      refine block_exit ?_
      refine then_norm ?_
      refine wp_seq ?_
      refine wp_region_lit ?_
      apply seq_op rfl
      · intro Φ hΦ; go_simp; exact hΦ
      (try simp only [Act.put, List.setIfInBounds_toArray, List.set_cons_succ, List.set_cons_zero])
      refine list_end ?_
      refine then_norm ?_
      refine wp_ret ?_
      exact ret1 rfl (rv_tmp rfl) rfl ⟨by rw [← HR.out, List.drop_length]; rfl, s1, hs1, H⟩
end Go.Proofs.Yticpadjheelipaa
