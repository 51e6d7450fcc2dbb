/- The law InnerFinals, walked. -/
import Derived.Test.YticpadjheelipaaFinKey
namespace Go.Proofs.Yticpadjheelipaa
open Go.RowKit
set_option linter.all false
set_option maxRecDepth 10000

theorem any_skip (t : Thing) {o : Op'} (hw : (o.kind == 1 || o.kind == 3) = false) (r : List Op') : (o :: r).any (wrT t) = r.any (wrT t) := by
  rw [List.any_cons]; unfold wrT; rw [hw]; simp
set_option maxHeartbeats 4000000 in
theorem innerFinals_spec {E : World} {s : SH} {L : List HP} {w : World} {v : Value} {xs : List Op'} (hv : kOp.Sl s v xs) (H : Holds E s L w) :
    Calls Try.prog 6 #[v] w fun e w' => e = .returned (.bool true) ∧ ∃ s', Sub s s' ∧ Holds E s' L w' := by
  have hv0 := hv
  obtain ⟨A, cap, rfl, h1, h2, -⟩ := hv
  have h2' : xs.length * 64 ≤ 140737488355328 := h2
  clear h2
  go_enter Try.func6, Try.ntmps6
  refine wp_seq ?_
  refine wp_region_lit ?_
  apply seq_op rfl
  · intro Φ hΦ; go_simp; exact hΦ
  (try simp only [Act.put, List.setIfInBounds_toArray, List.set_cons_succ, List.set_cons_zero])
  refine list_end ?_
  refine then_norm ?_
  refine wp_seq ?_
  refine wp_region_lit ?_
  apply seq_op rfl
  · intro Φ hΦ; go_simp; exact hΦ
  (try simp only [Act.put, List.setIfInBounds_toArray, List.set_cons_succ, List.set_cons_zero])
  refine seq_call rfl (fun Φ hΦ => by go_simp; (try exact hΦ)) (finals_spec hv0 H) ?_
  clear H; rintro e w1 ⟨v9, s2, R, rfl, hs1, hR, hrd, H⟩; refine ⟨_, rfl, ?_⟩
  (try simp only [Act.put, List.setIfInBounds_toArray, List.set_cons_succ, List.set_cons_zero])
  apply seq_op rfl
  · intro Φ hΦ; go_simp; exact hΦ
  (try simp only [Act.put, List.setIfInBounds_toArray, List.set_cons_succ, List.set_cons_zero])
  refine list_end ?_
  rw [fin_eq hR.1 hR.2] at hrd
  clear hR
  obtain ⟨A9, c9, h9, h9a, h9b, -⟩ := id hrd
  rw [h9] at hrd
  simp only [h9]
  clear h9
  refine then_norm ?_
  refine wp_seq ?_
  refine wp_region_lit ?_
  refine OpG.list rfl ?_; refine G_makeMap (κ := Thing) (enc := encA) 33 rfl H ?_; clear H; intro r10 w1 H
  (try simp only [Act.put, List.setIfInBounds_toArray, List.set_cons_succ, List.set_cons_zero])
  apply seq_op rfl
  · intro Φ hΦ; go_simp; exact hΦ
  (try simp only [Act.put, List.setIfInBounds_toArray, List.set_cons_succ, List.set_cons_zero])
  refine list_end ?_
  refine then_norm ?_
  refine wp_seq ?_
  refine wp_region_lit ?_
  apply seq_op rfl
  · intro Φ hΦ; go_simp; exact hΦ
  (try simp only [Act.put, List.setIfInBounds_toArray, List.set_cons_succ, List.set_cons_zero])
  refine list_end ?_
  refine then_norm ?_
  refine wp_seq ?_
  refine wp_seq ?_
  have hw := i64w (n := (xs.length : Int) - 1) (by omega) (by omega)
  refine wp_region_lit ?_
  apply seq_op rfl
  · intro Φ hΦ; go_simp; exact hΦ
  (try simp only [Act.put, List.setIfInBounds_toArray, List.set_cons_succ, List.set_cons_zero])
  apply seq_op rfl
  · intro Φ hΦ; go_simp; exact hΦ
  (try simp only [Act.put, List.setIfInBounds_toArray, List.set_cons_succ, List.set_cons_zero])
  apply seq_op rfl
  · intro Φ hΦ; go_simp; exact hΦ
  (try simp only [Act.put, List.setIfInBounds_toArray, List.set_cons_succ, List.set_cons_zero])
  apply seq_op rfl
  · intro Φ hΦ; go_simp; exact hΦ
  (try simp only [Act.put, List.setIfInBounds_toArray, List.set_cons_succ, List.set_cons_zero])
  refine list_end ?_
  refine then_norm ?_
  refine wp_block ?_
  refine wp_loopF [none, none, some 2, none, none, some 5, some 6, some 7, none, none, none, none, none, none, some 14, some 15, some 16, some 17, some 18, some 19, some 20, some 21, some 22, some 23, some 24, some 25, some 26, some 27, some 28, some 29, some 30, some 31, some 32, some 33, some 34, some 35, some 36, some 37, some 38, some 39, some 40, some 41, some 42, some 43, some 44, some 45, some 46, some 47, some 48, none, none, none, none] rfl (by simp) (fun f w => ∃ k : Nat, ∃ z : Int, ∃ g : Thing → Bool, ∃ l : List (Thing × Value), ∃ n : Nat, z = (k : Int) - 1 ∧ k ≤ xs.length ∧ f 6 = .int .i64 z ∧ f 5 = .int .i64 n ∧ n = (refFin k (xs.drop k)).length ∧ n ≤ xs.length - k ∧ (∀ t, g t = (xs.drop k).any (wrT t)) ∧ BoolsAt g l ∧ Holds E s2 (mpP encA r10 l :: L) w) (fun f w => (intOf (f 6) + 1).toNat) ?_ ?_
  · skip
    exact ⟨xs.length, (xs.length : Int) - 1, fun _ => false, [], 0, rfl, Nat.le_refl _, rfl, rfl, by rw [List.drop_length]; rfl, Nat.zero_le _, fun t => by rw [List.drop_length]; rfl, BoolsAt.nil, H⟩
  · intro f w hI
    clear H
    obtain ⟨k, z, g, l, n, hz, hk, h6, h5, hn0, hnl, hg, hBA, H⟩ := hI
    have HN := Lib.hid hn0
    have HZ := Lib.hid hz
    have HG := Lib.hid hg
    clear hn0 hz hg
    simp only [ovm, mixM]
    simp only [h6, h5]
    clear h6 h5
    refine wp_seq ?_
    refine wp_seq ?_
    refine wp_region_lit ?_
    apply seq_op rfl
    · intro Φ hΦ; go_simp; exact hΦ
    (try simp only [Act.put, List.setIfInBounds_toArray, List.set_cons_succ, List.set_cons_zero])
    apply seq_op rfl
    · intro Φ hΦ; go_simp; exact hΦ
    (try simp only [Act.put, List.setIfInBounds_toArray, List.set_cons_succ, List.set_cons_zero])
    refine list_end ?_
    refine then_norm ?_
    refine wp_cond_split rfl (fun hc => ?_) (fun hc => ?_)
    · skip
      have hz1 := HZ.out
      have hz0 : 0 ≤ z := by simpa using hc
      obtain ⟨j, rfl⟩ : ∃ j, k = j + 1 := ⟨k - 1, by omega⟩
      obtain rfl : z = (j : Int) := by omega
      clear HZ hc hz0 hz1
      have hlt : j < xs.length := by omega
      refine wp_skip ?_
      refine then_norm ?_
      refine wp_seq ?_
      refine wp_block ?_
      refine wp_seq ?_
      obtain ⟨b, off, o, Al, cl, rfl, hdr0, hmem, hC0, hol, hkind, hkey, hval⟩ := elemOp hv0 j (by omega)
      have hC := hC0.mono hs1
      clear hC0
      have ho0 : xs[j] = o := by
        rw [List.drop_eq_getElem_cons (show j < xs.length by omega)] at hdr0
        simp only [List.cons.injEq, and_true] at hdr0; exact hdr0
      have HO := Lib.hid ho0
      clear ho0
      have hdr := Lib.hid hdr0
      clear hdr0
      have hok0 : o.key.size ≤ maxLen := Nat.le_trans hkey (by unfold maxLen; omega)
      refine wp_region_lit ?_
      apply seq_op rfl
      · intro Φ hΦ; go_simp; exact hΦ
      (try simp only [Act.put, List.setIfInBounds_toArray, List.set_cons_succ, List.set_cons_zero])
      apply seq_op rfl
      · intro Φ hΦ; go_simp; exact hΦ
      (try simp only [Act.put, List.setIfInBounds_toArray, List.set_cons_succ, List.set_cons_zero])
      apply seq_op rfl
      · intro Φ hΦ; go_simp; exact hΦ
      (try simp only [Act.put, List.setIfInBounds_toArray, List.set_cons_succ, List.set_cons_zero])
      apply seq_op rfl
      · intro Φ hΦ; go_simp; exact hΦ
      (try simp only [Act.put, List.setIfInBounds_toArray, List.set_cons_succ, List.set_cons_zero])
      apply seq_op rfl
      · intro Φ hΦ; first | (refine L_1 0 _ _ rfl (Try.isAgg9 _) rfl H rfl rfl ?_; exact hΦ) | (refine L_1 1 _ _ rfl (Try.isAgg9 _) rfl H rfl rfl ?_; exact hΦ) | (refine G_pNi 0 _ _ rfl (Try.isAgg9 _) rfl H rfl (Try.sizeOf9 _) ?_; exact hΦ) | (refine G_pNi 1 _ _ rfl (Try.isAgg9 _) rfl H rfl (Try.sizeOf9 _) ?_; exact hΦ) | (refine G_s1 _ _ rfl (Try.isAgg9 _) rfl H hC 0 rfl rfl ?_; exact hΦ) | (refine G_s1 _ _ rfl (Try.isAgg9 _) rfl H hC _ rfl rfl ?_; exact hΦ) | (refine G_sN _ _ rfl (Try.isAgg9 _) rfl H hC (Try.sizeOf9 _) ?_; exact hΦ)
      (try simp only [Act.put, List.setIfInBounds_toArray, List.set_cons_succ, List.set_cons_zero])
      apply seq_op rfl
      · intro Φ hΦ; go_simp; exact hΦ
      (try simp only [Act.put, List.setIfInBounds_toArray, List.set_cons_succ, List.set_cons_zero])
      refine OpG.list rfl ?_; refine G_alloc 34 rfl (Try.zeroValue34 _) H ?_; clear H; intro b7 w1 H; (try simp only [Value.cells] at H)
      (try simp only [Act.put, List.setIfInBounds_toArray, List.set_cons_succ, List.set_cons_zero])
      refine OpG.list rfl ?_; first | (refine S_1 0 _ _ _ rfl (Try.sizeOf34 _) rfl rfl H rfl ?_ ?_ ?_; (focus (first | (simp [Value.oneCell']; done) | assumption)); (focus (simp; done))) | (refine G_setNi 0 _ _ _ rfl (Try.sizeOf34 _) rfl rfl ?_ H rfl rfl ?_; (focus (first | (simp [Value.oneCell']; done) | assumption))) | (refine S_1 1 _ _ _ rfl (Try.sizeOf34 _) rfl rfl H rfl ?_ ?_ ?_; (focus (first | (simp [Value.oneCell']; done) | assumption)); (focus (simp; done))) | (refine G_setNi 1 _ _ _ rfl (Try.sizeOf34 _) rfl rfl ?_ H rfl rfl ?_; (focus (first | (simp [Value.oneCell']; done) | assumption)))
      clear H; intro w1 H; simp only [List.set_cons_succ, List.set_cons_zero] at H
      refine list_end ?_
      refine then_norm ?_
      refine wp_seq ?_
      refine wp_seq ?_
      refine wp_region_lit ?_
      apply seq_op rfl
      · intro Φ hΦ; go_simp; exact hΦ
      (try simp only [Act.put, List.setIfInBounds_toArray, List.set_cons_succ, List.set_cons_zero])
      apply seq_op rfl
      · intro Φ hΦ; go_simp; exact hΦ
      (try simp only [Act.put, List.setIfInBounds_toArray, List.set_cons_succ, List.set_cons_zero])
      apply seq_op rfl
      · intro Φ hΦ; go_simp; exact hΦ
      (try simp only [Act.put, List.setIfInBounds_toArray, List.set_cons_succ, List.set_cons_zero])
      apply seq_op rfl
      · intro Φ hΦ; go_simp; exact hΦ
      (try simp only [Act.put, List.setIfInBounds_toArray, List.set_cons_succ, List.set_cons_zero])
      apply seq_op rfl
      · intro Φ hΦ; first | (refine L_1 0 _ _ rfl (Try.isAgg3 _) rfl H rfl rfl ?_; exact hΦ) | (refine L_1 1 _ _ rfl (Try.isAgg3 _) rfl H rfl rfl ?_; exact hΦ) | (refine G_pNi 0 _ _ rfl (Try.isAgg3 _) rfl H rfl (Try.sizeOf3 _) ?_; exact hΦ) | (refine G_pNi 1 _ _ rfl (Try.isAgg3 _) rfl H rfl (Try.sizeOf3 _) ?_; exact hΦ) | (refine G_s1 _ _ rfl (Try.isAgg3 _) rfl H hC 0 rfl rfl ?_; exact hΦ) | (refine G_s1 _ _ rfl (Try.isAgg3 _) rfl H hC _ rfl rfl ?_; exact hΦ) | (refine G_sN _ _ rfl (Try.isAgg3 _) rfl H hC (Try.sizeOf3 _) ?_; exact hΦ)
      (try simp only [Act.put, List.setIfInBounds_toArray, List.set_cons_succ, List.set_cons_zero])
      refine list_end ?_
      refine then_norm ?_
      refine wp_block ?_
      refine wp_seq ?_
      refine wp_region_lit ?_
      apply seq_op rfl
      · intro Φ hΦ; go_simp; exact hΦ
      (try simp only [Act.put, List.setIfInBounds_toArray, List.set_cons_succ, List.set_cons_zero])
      apply seq_op rfl
      · intro Φ hΦ; go_simp; exact hΦ
      (try simp only [Act.put, List.setIfInBounds_toArray, List.set_cons_succ, List.set_cons_zero])
      refine list_end ?_
      refine then_norm ?_
      refine wp_cond_split rfl (fun hc => ?_) (fun hc => ?_)
      · skip
        have hB := Lib.hid (show (o.kind == 1) = false by rw [show o.kind = 3 from by simpa using hc]; rfl)
        have hwo := Lib.hid (show (o.kind == 1 || o.kind == 3) = true by rw [show o.kind = 3 from by simpa using hc]; rfl)
        refine wp_region_lit ?_
        apply seq_op rfl
        · intro Φ hΦ; go_simp; exact hΦ
        (try simp only [Act.put, List.setIfInBounds_toArray, List.set_cons_succ, List.set_cons_zero])
        refine OpG.list rfl ?_; first | (refine S_1c 0 _ _ rfl (Try.sizeOf9 _) rfl H rfl ?_ ?_ ?_; (focus (first | (simp [Value.oneCell']; done) | assumption)); (focus (simp; done))) | (refine G_setNi 0 _ _ _ rfl (Try.sizeOf9 _) rfl rfl ?_ H rfl rfl ?_; (focus (first | (simp [Value.oneCell']; done) | assumption))) | (refine S_1c 1 _ _ rfl (Try.sizeOf9 _) rfl H rfl ?_ ?_ ?_; (focus (first | (simp [Value.oneCell']; done) | assumption)); (focus (simp; done))) | (refine G_setNi 1 _ _ _ rfl (Try.sizeOf9 _) rfl rfl ?_ H rfl rfl ?_; (focus (first | (simp [Value.oneCell']; done) | assumption)))
        clear H; intro w1 H; simp only [List.set_cons_succ, List.set_cons_zero] at H
        refine list_end ?_
        refine block_norm ?_
        refine then_norm ?_
        refine wp_seq ?_
        refine wp_seq ?_
        have hok : okT ⟨false, o.key⟩ := hok0
        have hlk := Lib.hid (hBA.get ⟨false, o.key⟩)
        have hcon := Lib.hid (show (refFin 0 xs).contains (j : Int) = !g ⟨false, o.key⟩ by
          have h := fin_contains xs 0 j hk
          rw [Nat.zero_add, HO.out, show writesO o = true from hwo.out, lastF_wr hwo.out hB.out, Bool.true_and] at h
          rw [h, HG.out])
        refine wp_draw_obO (k := 7) (sz := 53) (List.replicate 7 7) (fun _ => []) mixed (by simp) rfl (by kernel_rfl) (by kernel_rfl) (by kernel_rfl) H (by simp only [List.take_succ_cons, List.take_zero]; exact rfl) (by simp only [List.drop_succ_cons, List.drop_zero]; exact rfl)
          (fun y => by simp only [ov, Act.put, List.setIfInBounds_toArray, List.set_cons_succ, List.set_cons_zero, Nat.zero_add, Nat.reduceAdd]; exact rfl) ?_
        apply ObO.valw
        · intro x; rfl
        · intro s' w' y Φ R hs H hG hΦ; skip; refine wantG rfl ?_; (go_simp; exact hΦ _ _ (Sub.refl _) H)
        apply ObO.valw
        · intro x; rfl
        · intro s' w' y Φ R hs H hG hΦ; skip; refine wantG rfl ?_; (go_simp; exact hΦ _ _ (Sub.refl _) H)
        apply ObO.valw
        · intro x; rfl
        · intro s' w' y Φ R hs H hG hΦ; simp only [List.nil_append, List.cons_append] at hG; have e0 : y 0 = _ := dh_get hG 0 rfl (by kernel_rfl); have e1 : y 1 = _ := dh_get hG 1 rfl (by kernel_rfl); simp only [e0, e1]; refine wantG rfl ?_; (go_simp; refine (containsI (j : Int) (hrd.mono hs) H).mono ?_; rintro e w2 ⟨rfl, H⟩; rw [hcon.out]; exact ⟨_, rfl, hΦ _ _ (Sub.refl _) H⟩)
        apply ObO.valw
        · intro x; rfl
        · intro s' w' y Φ R hs H hG hΦ; skip; refine wantG rfl ?_; (go_simp; exact hΦ _ _ (Sub.refl _) H)
        apply ObO.valw
        · intro x; rfl
        · intro s' w' y Φ R hs H hG hΦ; skip; refine wantG rfl ?_; first | (refine L_1 0 _ _ rfl (Try.isAgg34 _) rfl H rfl rfl ?_; exact hΦ _ _ (Sub.refl _) H) | (refine L_1 1 _ _ rfl (Try.isAgg34 _) rfl H rfl rfl ?_; exact hΦ _ _ (Sub.refl _) H) | (refine G_pNi 0 _ _ rfl (Try.isAgg34 _) rfl H rfl (Try.sizeOf34 _) ?_; exact hΦ _ _ (Sub.refl _) H) | (refine G_pNi 1 _ _ rfl (Try.isAgg34 _) rfl H rfl (Try.sizeOf34 _) ?_; exact hΦ _ _ (Sub.refl _) H) | (refine G_s1 _ _ rfl (Try.isAgg34 _) rfl H (hC.mono hs) 0 rfl rfl ?_; exact hΦ _ _ (Sub.refl _) H) | (refine G_s1 _ _ rfl (Try.isAgg34 _) rfl H (hC.mono hs) _ rfl rfl ?_; exact hΦ _ _ (Sub.refl _) H) | (refine G_sN _ _ rfl (Try.isAgg34 _) rfl H (hC.mono hs) (Try.sizeOf34 _) ?_; exact hΦ _ _ (Sub.refl _) H)
        apply ObO.valw
        · intro x; rfl
        · intro s' w' y Φ R hs H hG hΦ; simp only [List.nil_append, List.cons_append] at hG; have e3 : y 3 = _ := dh_get hG 3 rfl (by kernel_rfl); have e4 : y 4 = _ := dh_get hG 4 rfl (by kernel_rfl); simp only [e3, e4]; refine wantG rfl ?_; (refine G_lookup mk_arr 1 33 _ _ rfl Try.underlying33 (k := ⟨false, o.key⟩) hok hBA.ok hBA.uniq rfl rfl H rfl (Try.zeroValue4 _) ?_; rw [hlk.out]; exact hΦ _ _ (Sub.refl _) H)
        apply ObO.valw
        · intro x; rfl
        · intro s' w' y Φ R hs H hG hΦ; simp only [List.nil_append, List.cons_append] at hG; have e2 : y 2 = _ := dh_get hG 2 rfl (by kernel_rfl); have e5 : y 5 = _ := dh_get hG 5 rfl (by kernel_rfl); simp only [e2, e5]; refine wantG rfl ?_; (go_simp; exact hΦ _ _ (Sub.refl _) H)
        clear H
        intro s3 w3 yy hs3 H hG
        replace H := (show Holds _ _ ([] ++ _) _ from H); rw [List.nil_append] at H
        simp only [List.nil_append, List.cons_append] at hG
        have e0 : yy 0 = _ := gh_get hG 0 rfl
        have e1 : yy 1 = _ := gh_get hG 1 rfl
        have e2 : yy 2 = _ := gh_get hG 2 rfl
        have e3 : yy 3 = _ := gh_get hG 3 rfl
        have e4 : yy 4 = _ := gh_get hG 4 rfl
        have e5 : yy 5 = _ := gh_get hG 5 rfl
        have e6 : yy 6 = _ := gh_get hG 6 rfl
        simp only [e0, e1, e2, e3, e4, e5, e6]
        clear hG e0 e1 e2 e3 e4 e5 e6
        replace H := H.forget hs3
        refine list_end ?_
        refine then_norm ?_
        refine wp_cond_split rfl (fun hc => ?_) (fun hc => ?_)
        · skip
          exfalso
          revert hc
          cases g ⟨false, o.key⟩ <;> simp
        · skip
          refine wp_skip ?_
          refine then_norm ?_
          refine wp_seq ?_
          refine wp_seq ?_
          refine wp_region_lit ?_
          apply seq_op rfl
          · intro Φ hΦ; go_simp; exact hΦ
          (try simp only [Act.put, List.setIfInBounds_toArray, List.set_cons_succ, List.set_cons_zero])
          apply seq_op rfl
          · intro Φ hΦ; first | (refine L_1 0 _ _ rfl (Try.isAgg34 _) rfl H rfl rfl ?_; exact hΦ) | (refine L_1 1 _ _ rfl (Try.isAgg34 _) rfl H rfl rfl ?_; exact hΦ) | (refine G_pNi 0 _ _ rfl (Try.isAgg34 _) rfl H rfl (Try.sizeOf34 _) ?_; exact hΦ) | (refine G_pNi 1 _ _ rfl (Try.isAgg34 _) rfl H rfl (Try.sizeOf34 _) ?_; exact hΦ) | (refine G_s1 _ _ rfl (Try.isAgg34 _) rfl H hC 0 rfl rfl ?_; exact hΦ) | (refine G_s1 _ _ rfl (Try.isAgg34 _) rfl H hC _ rfl rfl ?_; exact hΦ) | (refine G_sN _ _ rfl (Try.isAgg34 _) rfl H hC (Try.sizeOf34 _) ?_; exact hΦ)
          (try simp only [Act.put, List.setIfInBounds_toArray, List.set_cons_succ, List.set_cons_zero])
          apply seq_op rfl
          · intro Φ hΦ; refine G_lookup mk_arr 1 33 _ _ rfl Try.underlying33 (k := ⟨false, o.key⟩) hok hBA.ok hBA.uniq rfl rfl H rfl (Try.zeroValue4 _) ?_; rw [hlk.out]; exact hΦ
          (try simp only [Act.put, List.setIfInBounds_toArray, List.set_cons_succ, List.set_cons_zero])
          apply seq_op rfl
          · intro Φ hΦ; go_simp; exact hΦ
          (try simp only [Act.put, List.setIfInBounds_toArray, List.set_cons_succ, List.set_cons_zero])
          refine list_end ?_
          refine then_norm ?_
          refine wp_cond_split rfl (fun hc => ?_) (fun hc => ?_)
          · skip
            have hw5 := i64w (n := (n : Int) + 1) (by omega) (by omega)
            refine wp_region_lit ?_
            apply seq_op rfl
            · intro Φ hΦ; go_simp; exact hΦ
            (try simp only [Act.put, List.setIfInBounds_toArray, List.set_cons_succ, List.set_cons_zero])
            apply seq_op rfl
            · intro Φ hΦ; go_simp; exact hΦ
            (try simp only [Act.put, List.setIfInBounds_toArray, List.set_cons_succ, List.set_cons_zero])
            apply seq_op rfl
            · intro Φ hΦ; go_simp; exact hΦ
            (try simp only [Act.put, List.setIfInBounds_toArray, List.set_cons_succ, List.set_cons_zero])
            refine list_end ?_
            refine then_norm ?_
            refine wp_region_lit ?_
            apply seq_op rfl
            · intro Φ hΦ; go_simp; exact hΦ
            (try simp only [Act.put, List.setIfInBounds_toArray, List.set_cons_succ, List.set_cons_zero])
            apply seq_op rfl
            · intro Φ hΦ; first | (refine L_1 0 _ _ rfl (Try.isAgg34 _) rfl H rfl rfl ?_; exact hΦ) | (refine L_1 1 _ _ rfl (Try.isAgg34 _) rfl H rfl rfl ?_; exact hΦ) | (refine G_pNi 0 _ _ rfl (Try.isAgg34 _) rfl H rfl (Try.sizeOf34 _) ?_; exact hΦ) | (refine G_pNi 1 _ _ rfl (Try.isAgg34 _) rfl H rfl (Try.sizeOf34 _) ?_; exact hΦ) | (refine G_s1 _ _ rfl (Try.isAgg34 _) rfl H hC 0 rfl rfl ?_; exact hΦ) | (refine G_s1 _ _ rfl (Try.isAgg34 _) rfl H hC _ rfl rfl ?_; exact hΦ) | (refine G_sN _ _ rfl (Try.isAgg34 _) rfl H hC (Try.sizeOf34 _) ?_; exact hΦ)
            (try simp only [Act.put, List.setIfInBounds_toArray, List.set_cons_succ, List.set_cons_zero])
            refine OpG.list rfl ?_; refine G_mapUpdate mk_arr 1 33 _ _ _ rfl Try.underlying33 (k := ⟨false, o.key⟩) hok hBA.ok hBA.uniq rfl rfl rfl H rfl ?_
            clear H; intro w1 H; simp only [List.set_cons_succ, List.set_cons_zero] at H
            refine list_end ?_
            refine block_norm ?_
            refine then_norm ?_
            have hw := i64w (n := (j : Int) - 1) (by omega) (by omega)
            refine wp_region_lit ?_
            apply seq_op rfl
            · intro Φ hΦ; go_simp; exact hΦ
            (try simp only [Act.put, List.setIfInBounds_toArray, List.set_cons_succ, List.set_cons_zero])
            apply seq_op rfl
            · intro Φ hΦ; go_simp; exact hΦ
            (try simp only [Act.put, List.setIfInBounds_toArray, List.set_cons_succ, List.set_cons_zero])
            apply seq_op rfl
            · intro Φ hΦ; go_simp; exact hΦ
            (try simp only [Act.put, List.setIfInBounds_toArray, List.set_cons_succ, List.set_cons_zero])
            refine list_end ?_
            refine then_norm ?_
            refine ⟨⟨⟨rfl, rfl, rfl, rfl, rfl, rfl, rfl, rfl, rfl, rfl, rfl, rfl, rfl, rfl, rfl⟩, rfl⟩, ?_, by simp [intOf] <;> omega⟩
            exact ⟨j, (j : Int) - 1, _, _, (n + 1), rfl, by omega, rfl, by first | rfl | go_num, by rw [hdr.out]; simp only [refFin]; rw [if_neg (by rw [show writesO o = true from hwo.out]; simp), if_pos (by rw [lastF_wr hwo.out hB.out]; rw [← HG.out ⟨false, o.key⟩]; exact hc)]; rw [HN.out]; rfl, by omega, fun t => by rw [hdr.out, wrT_cons t hwo.out hB.out, ← HG.out t]; by_cases e : t = ⟨false, o.key⟩ <;> simp [e], hBA.put hok true, H.drop⟩
          · skip
            refine wp_skip ?_
            refine then_norm ?_
            refine wp_region_lit ?_
            apply seq_op rfl
            · intro Φ hΦ; go_simp; exact hΦ
            (try simp only [Act.put, List.setIfInBounds_toArray, List.set_cons_succ, List.set_cons_zero])
            apply seq_op rfl
            · intro Φ hΦ; first | (refine L_1 0 _ _ rfl (Try.isAgg34 _) rfl H rfl rfl ?_; exact hΦ) | (refine L_1 1 _ _ rfl (Try.isAgg34 _) rfl H rfl rfl ?_; exact hΦ) | (refine G_pNi 0 _ _ rfl (Try.isAgg34 _) rfl H rfl (Try.sizeOf34 _) ?_; exact hΦ) | (refine G_pNi 1 _ _ rfl (Try.isAgg34 _) rfl H rfl (Try.sizeOf34 _) ?_; exact hΦ) | (refine G_s1 _ _ rfl (Try.isAgg34 _) rfl H hC 0 rfl rfl ?_; exact hΦ) | (refine G_s1 _ _ rfl (Try.isAgg34 _) rfl H hC _ rfl rfl ?_; exact hΦ) | (refine G_sN _ _ rfl (Try.isAgg34 _) rfl H hC (Try.sizeOf34 _) ?_; exact hΦ)
            (try simp only [Act.put, List.setIfInBounds_toArray, List.set_cons_succ, List.set_cons_zero])
            refine OpG.list rfl ?_; refine G_mapUpdate mk_arr 1 33 _ _ _ rfl Try.underlying33 (k := ⟨false, o.key⟩) hok hBA.ok hBA.uniq rfl rfl rfl H rfl ?_
            clear H; intro w1 H; simp only [List.set_cons_succ, List.set_cons_zero] at H
            refine list_end ?_
            refine block_norm ?_
            refine then_norm ?_
            have hw := i64w (n := (j : Int) - 1) (by omega) (by omega)
            refine wp_region_lit ?_
            apply seq_op rfl
            · intro Φ hΦ; go_simp; exact hΦ
            (try simp only [Act.put, List.setIfInBounds_toArray, List.set_cons_succ, List.set_cons_zero])
            apply seq_op rfl
            · intro Φ hΦ; go_simp; exact hΦ
            (try simp only [Act.put, List.setIfInBounds_toArray, List.set_cons_succ, List.set_cons_zero])
            apply seq_op rfl
            · intro Φ hΦ; go_simp; exact hΦ
            (try simp only [Act.put, List.setIfInBounds_toArray, List.set_cons_succ, List.set_cons_zero])
            refine list_end ?_
            refine then_norm ?_
            refine ⟨⟨⟨rfl, rfl, rfl, rfl, rfl, rfl, rfl, rfl, rfl, rfl, rfl, rfl, rfl, rfl, rfl⟩, rfl⟩, ?_, by simp [intOf] <;> omega⟩
            exact ⟨j, (j : Int) - 1, _, _, n, rfl, by omega, rfl, by first | rfl | go_num, by rw [hdr.out]; simp only [refFin]; rw [if_neg (by rw [show writesO o = true from hwo.out]; simp), if_neg (nt (by rw [lastF_wr hwo.out hB.out]; rw [← HG.out ⟨false, o.key⟩]; exact hc))]; exact HN.out, by omega, fun t => by rw [hdr.out, wrT_cons t hwo.out hB.out, ← HG.out t]; by_cases e : t = ⟨false, o.key⟩ <;> simp [e], hBA.put hok true, H.drop⟩
      · skip
        have hn3 := Lib.hid (show (o.kind == 3) = false from hc)
        refine wp_seq ?_
        refine wp_region_lit ?_
        apply seq_op rfl
        · intro Φ hΦ; go_simp; exact hΦ
        (try simp only [Act.put, List.setIfInBounds_toArray, List.set_cons_succ, List.set_cons_zero])
        apply seq_op rfl
        · intro Φ hΦ; go_simp; exact hΦ
        (try simp only [Act.put, List.setIfInBounds_toArray, List.set_cons_succ, List.set_cons_zero])
        refine list_end ?_
        refine then_norm ?_
        refine wp_cond_split rfl (fun hc => ?_) (fun hc => ?_)
        · skip
          have hB := Lib.hid (show (o.kind == 1) = true from hc)
          have hwo := Lib.hid (show (o.kind == 1 || o.kind == 3) = true by rw [show (o.kind == 1) = true from hc]; rfl)
          refine wp_skip ?_
          refine block_norm ?_
          refine then_norm ?_
          refine wp_seq ?_
          refine wp_seq ?_
          have hok : okT ⟨true, o.key⟩ := hok0
          have hlk := Lib.hid (hBA.get ⟨true, o.key⟩)
          have hcon := Lib.hid (show (refFin 0 xs).contains (j : Int) = !g ⟨true, o.key⟩ by
            have h := fin_contains xs 0 j hk
            rw [Nat.zero_add, HO.out, show writesO o = true from hwo.out, lastF_wr hwo.out hB.out, Bool.true_and] at h
            rw [h, HG.out])
          refine wp_draw_obO (k := 7) (sz := 53) (List.replicate 7 7) (fun _ => []) mixed (by simp) rfl (by kernel_rfl) (by kernel_rfl) (by kernel_rfl) H (by simp only [List.take_succ_cons, List.take_zero]; exact rfl) (by simp only [List.drop_succ_cons, List.drop_zero]; exact rfl)
            (fun y => by simp only [ov, Act.put, List.setIfInBounds_toArray, List.set_cons_succ, List.set_cons_zero, Nat.zero_add, Nat.reduceAdd]; exact rfl) ?_
          apply ObO.valw
          · intro x; rfl
          · intro s' w' y Φ R hs H hG hΦ; skip; refine wantG rfl ?_; (go_simp; exact hΦ _ _ (Sub.refl _) H)
          apply ObO.valw
          · intro x; rfl
          · intro s' w' y Φ R hs H hG hΦ; skip; refine wantG rfl ?_; (go_simp; exact hΦ _ _ (Sub.refl _) H)
          apply ObO.valw
          · intro x; rfl
          · intro s' w' y Φ R hs H hG hΦ; simp only [List.nil_append, List.cons_append] at hG; have e0 : y 0 = _ := dh_get hG 0 rfl (by kernel_rfl); have e1 : y 1 = _ := dh_get hG 1 rfl (by kernel_rfl); simp only [e0, e1]; refine wantG rfl ?_; (go_simp; refine (containsI (j : Int) (hrd.mono hs) H).mono ?_; rintro e w2 ⟨rfl, H⟩; rw [hcon.out]; exact ⟨_, rfl, hΦ _ _ (Sub.refl _) H⟩)
          apply ObO.valw
          · intro x; rfl
          · intro s' w' y Φ R hs H hG hΦ; skip; refine wantG rfl ?_; (go_simp; exact hΦ _ _ (Sub.refl _) H)
          apply ObO.valw
          · intro x; rfl
          · intro s' w' y Φ R hs H hG hΦ; skip; refine wantG rfl ?_; first | (refine L_1 0 _ _ rfl (Try.isAgg34 _) rfl H rfl rfl ?_; exact hΦ _ _ (Sub.refl _) H) | (refine L_1 1 _ _ rfl (Try.isAgg34 _) rfl H rfl rfl ?_; exact hΦ _ _ (Sub.refl _) H) | (refine G_pNi 0 _ _ rfl (Try.isAgg34 _) rfl H rfl (Try.sizeOf34 _) ?_; exact hΦ _ _ (Sub.refl _) H) | (refine G_pNi 1 _ _ rfl (Try.isAgg34 _) rfl H rfl (Try.sizeOf34 _) ?_; exact hΦ _ _ (Sub.refl _) H) | (refine G_s1 _ _ rfl (Try.isAgg34 _) rfl H (hC.mono hs) 0 rfl rfl ?_; exact hΦ _ _ (Sub.refl _) H) | (refine G_s1 _ _ rfl (Try.isAgg34 _) rfl H (hC.mono hs) _ rfl rfl ?_; exact hΦ _ _ (Sub.refl _) H) | (refine G_sN _ _ rfl (Try.isAgg34 _) rfl H (hC.mono hs) (Try.sizeOf34 _) ?_; exact hΦ _ _ (Sub.refl _) H)
          apply ObO.valw
          · intro x; rfl
          · intro s' w' y Φ R hs H hG hΦ; simp only [List.nil_append, List.cons_append] at hG; have e3 : y 3 = _ := dh_get hG 3 rfl (by kernel_rfl); have e4 : y 4 = _ := dh_get hG 4 rfl (by kernel_rfl); simp only [e3, e4]; refine wantG rfl ?_; (refine G_lookup mk_arr 1 33 _ _ rfl Try.underlying33 (k := ⟨true, o.key⟩) hok hBA.ok hBA.uniq rfl rfl H rfl (Try.zeroValue4 _) ?_; rw [hlk.out]; exact hΦ _ _ (Sub.refl _) H)
          apply ObO.valw
          · intro x; rfl
          · intro s' w' y Φ R hs H hG hΦ; simp only [List.nil_append, List.cons_append] at hG; have e2 : y 2 = _ := dh_get hG 2 rfl (by kernel_rfl); have e5 : y 5 = _ := dh_get hG 5 rfl (by kernel_rfl); simp only [e2, e5]; refine wantG rfl ?_; (go_simp; exact hΦ _ _ (Sub.refl _) H)
          clear H
          intro s3 w3 yy hs3 H hG
          replace H := (show Holds _ _ ([] ++ _) _ from H); rw [List.nil_append] at H
          simp only [List.nil_append, List.cons_append] at hG
          have e0 : yy 0 = _ := gh_get hG 0 rfl
          have e1 : yy 1 = _ := gh_get hG 1 rfl
          have e2 : yy 2 = _ := gh_get hG 2 rfl
          have e3 : yy 3 = _ := gh_get hG 3 rfl
          have e4 : yy 4 = _ := gh_get hG 4 rfl
          have e5 : yy 5 = _ := gh_get hG 5 rfl
          have e6 : yy 6 = _ := gh_get hG 6 rfl
          simp only [e0, e1, e2, e3, e4, e5, e6]
          clear hG e0 e1 e2 e3 e4 e5 e6
          replace H := H.forget hs3
          refine list_end ?_
          refine then_norm ?_
          refine wp_cond_split rfl (fun hc => ?_) (fun hc => ?_)
          · skip
            exfalso
            revert hc
            cases g ⟨true, o.key⟩ <;> simp
          · skip
            refine wp_skip ?_
            refine then_norm ?_
            refine wp_seq ?_
            refine wp_seq ?_
            refine wp_region_lit ?_
            apply seq_op rfl
            · intro Φ hΦ; go_simp; exact hΦ
            (try simp only [Act.put, List.setIfInBounds_toArray, List.set_cons_succ, List.set_cons_zero])
            apply seq_op rfl
            · intro Φ hΦ; first | (refine L_1 0 _ _ rfl (Try.isAgg34 _) rfl H rfl rfl ?_; exact hΦ) | (refine L_1 1 _ _ rfl (Try.isAgg34 _) rfl H rfl rfl ?_; exact hΦ) | (refine G_pNi 0 _ _ rfl (Try.isAgg34 _) rfl H rfl (Try.sizeOf34 _) ?_; exact hΦ) | (refine G_pNi 1 _ _ rfl (Try.isAgg34 _) rfl H rfl (Try.sizeOf34 _) ?_; exact hΦ) | (refine G_s1 _ _ rfl (Try.isAgg34 _) rfl H hC 0 rfl rfl ?_; exact hΦ) | (refine G_s1 _ _ rfl (Try.isAgg34 _) rfl H hC _ rfl rfl ?_; exact hΦ) | (refine G_sN _ _ rfl (Try.isAgg34 _) rfl H hC (Try.sizeOf34 _) ?_; exact hΦ)
            (try simp only [Act.put, List.setIfInBounds_toArray, List.set_cons_succ, List.set_cons_zero])
            apply seq_op rfl
            · intro Φ hΦ; refine G_lookup mk_arr 1 33 _ _ rfl Try.underlying33 (k := ⟨true, o.key⟩) hok hBA.ok hBA.uniq rfl rfl H rfl (Try.zeroValue4 _) ?_; rw [hlk.out]; exact hΦ
            (try simp only [Act.put, List.setIfInBounds_toArray, List.set_cons_succ, List.set_cons_zero])
            apply seq_op rfl
            · intro Φ hΦ; go_simp; exact hΦ
            (try simp only [Act.put, List.setIfInBounds_toArray, List.set_cons_succ, List.set_cons_zero])
            refine list_end ?_
            refine then_norm ?_
            refine wp_cond_split rfl (fun hc => ?_) (fun hc => ?_)
            · skip
              have hw5 := i64w (n := (n : Int) + 1) (by omega) (by omega)
              refine wp_region_lit ?_
              apply seq_op rfl
              · intro Φ hΦ; go_simp; exact hΦ
              (try simp only [Act.put, List.setIfInBounds_toArray, List.set_cons_succ, List.set_cons_zero])
              apply seq_op rfl
              · intro Φ hΦ; go_simp; exact hΦ
              (try simp only [Act.put, List.setIfInBounds_toArray, List.set_cons_succ, List.set_cons_zero])
              apply seq_op rfl
              · intro Φ hΦ; go_simp; exact hΦ
              (try simp only [Act.put, List.setIfInBounds_toArray, List.set_cons_succ, List.set_cons_zero])
              refine list_end ?_
              refine then_norm ?_
              refine wp_region_lit ?_
              apply seq_op rfl
              · intro Φ hΦ; go_simp; exact hΦ
              (try simp only [Act.put, List.setIfInBounds_toArray, List.set_cons_succ, List.set_cons_zero])
              apply seq_op rfl
              · intro Φ hΦ; first | (refine L_1 0 _ _ rfl (Try.isAgg34 _) rfl H rfl rfl ?_; exact hΦ) | (refine L_1 1 _ _ rfl (Try.isAgg34 _) rfl H rfl rfl ?_; exact hΦ) | (refine G_pNi 0 _ _ rfl (Try.isAgg34 _) rfl H rfl (Try.sizeOf34 _) ?_; exact hΦ) | (refine G_pNi 1 _ _ rfl (Try.isAgg34 _) rfl H rfl (Try.sizeOf34 _) ?_; exact hΦ) | (refine G_s1 _ _ rfl (Try.isAgg34 _) rfl H hC 0 rfl rfl ?_; exact hΦ) | (refine G_s1 _ _ rfl (Try.isAgg34 _) rfl H hC _ rfl rfl ?_; exact hΦ) | (refine G_sN _ _ rfl (Try.isAgg34 _) rfl H hC (Try.sizeOf34 _) ?_; exact hΦ)
              (try simp only [Act.put, List.setIfInBounds_toArray, List.set_cons_succ, List.set_cons_zero])
              refine OpG.list rfl ?_; refine G_mapUpdate mk_arr 1 33 _ _ _ rfl Try.underlying33 (k := ⟨true, o.key⟩) hok hBA.ok hBA.uniq rfl rfl rfl H rfl ?_
              clear H; intro w1 H; simp only [List.set_cons_succ, List.set_cons_zero] at H
              refine list_end ?_
              refine block_norm ?_
              refine then_norm ?_
              have hw := i64w (n := (j : Int) - 1) (by omega) (by omega)
              refine wp_region_lit ?_
              apply seq_op rfl
              · intro Φ hΦ; go_simp; exact hΦ
              (try simp only [Act.put, List.setIfInBounds_toArray, List.set_cons_succ, List.set_cons_zero])
              apply seq_op rfl
              · intro Φ hΦ; go_simp; exact hΦ
              (try simp only [Act.put, List.setIfInBounds_toArray, List.set_cons_succ, List.set_cons_zero])
              apply seq_op rfl
              · intro Φ hΦ; go_simp; exact hΦ
              (try simp only [Act.put, List.setIfInBounds_toArray, List.set_cons_succ, List.set_cons_zero])
              refine list_end ?_
              refine then_norm ?_
              refine ⟨⟨⟨rfl, rfl, rfl, rfl, rfl, rfl, rfl, rfl, rfl, rfl, rfl, rfl, rfl, rfl, rfl⟩, rfl⟩, ?_, by simp [intOf] <;> omega⟩
              exact ⟨j, (j : Int) - 1, _, _, (n + 1), rfl, by omega, rfl, by first | rfl | go_num, by rw [hdr.out]; simp only [refFin]; rw [if_neg (by rw [show writesO o = true from hwo.out]; simp), if_pos (by rw [lastF_wr hwo.out hB.out]; rw [← HG.out ⟨true, o.key⟩]; exact hc)]; rw [HN.out]; rfl, by omega, fun t => by rw [hdr.out, wrT_cons t hwo.out hB.out, ← HG.out t]; by_cases e : t = ⟨true, o.key⟩ <;> simp [e], hBA.put hok true, H.drop⟩
            · skip
              refine wp_skip ?_
              refine then_norm ?_
              refine wp_region_lit ?_
              apply seq_op rfl
              · intro Φ hΦ; go_simp; exact hΦ
              (try simp only [Act.put, List.setIfInBounds_toArray, List.set_cons_succ, List.set_cons_zero])
              apply seq_op rfl
              · intro Φ hΦ; first | (refine L_1 0 _ _ rfl (Try.isAgg34 _) rfl H rfl rfl ?_; exact hΦ) | (refine L_1 1 _ _ rfl (Try.isAgg34 _) rfl H rfl rfl ?_; exact hΦ) | (refine G_pNi 0 _ _ rfl (Try.isAgg34 _) rfl H rfl (Try.sizeOf34 _) ?_; exact hΦ) | (refine G_pNi 1 _ _ rfl (Try.isAgg34 _) rfl H rfl (Try.sizeOf34 _) ?_; exact hΦ) | (refine G_s1 _ _ rfl (Try.isAgg34 _) rfl H hC 0 rfl rfl ?_; exact hΦ) | (refine G_s1 _ _ rfl (Try.isAgg34 _) rfl H hC _ rfl rfl ?_; exact hΦ) | (refine G_sN _ _ rfl (Try.isAgg34 _) rfl H hC (Try.sizeOf34 _) ?_; exact hΦ)
              (try simp only [Act.put, List.setIfInBounds_toArray, List.set_cons_succ, List.set_cons_zero])
              refine OpG.list rfl ?_; refine G_mapUpdate mk_arr 1 33 _ _ _ rfl Try.underlying33 (k := ⟨true, o.key⟩) hok hBA.ok hBA.uniq rfl rfl rfl H rfl ?_
              clear H; intro w1 H; simp only [List.set_cons_succ, List.set_cons_zero] at H
              refine list_end ?_
              refine block_norm ?_
              refine then_norm ?_
              have hw := i64w (n := (j : Int) - 1) (by omega) (by omega)
              refine wp_region_lit ?_
              apply seq_op rfl
              · intro Φ hΦ; go_simp; exact hΦ
              (try simp only [Act.put, List.setIfInBounds_toArray, List.set_cons_succ, List.set_cons_zero])
              apply seq_op rfl
              · intro Φ hΦ; go_simp; exact hΦ
              (try simp only [Act.put, List.setIfInBounds_toArray, List.set_cons_succ, List.set_cons_zero])
              apply seq_op rfl
              · intro Φ hΦ; go_simp; exact hΦ
              (try simp only [Act.put, List.setIfInBounds_toArray, List.set_cons_succ, List.set_cons_zero])
              refine list_end ?_
              refine then_norm ?_
              refine ⟨⟨⟨rfl, rfl, rfl, rfl, rfl, rfl, rfl, rfl, rfl, rfl, rfl, rfl, rfl, rfl, rfl⟩, rfl⟩, ?_, by simp [intOf] <;> omega⟩
              exact ⟨j, (j : Int) - 1, _, _, n, rfl, by omega, rfl, by first | rfl | go_num, by rw [hdr.out]; simp only [refFin]; rw [if_neg (by rw [show writesO o = true from hwo.out]; simp), if_neg (nt (by rw [lastF_wr hwo.out hB.out]; rw [← HG.out ⟨true, o.key⟩]; exact hc))]; exact HN.out, by omega, fun t => by rw [hdr.out, wrT_cons t hwo.out hB.out, ← HG.out t]; by_cases e : t = ⟨true, o.key⟩ <;> simp [e], hBA.put hok true, H.drop⟩
        · skip
          have hwo := Lib.hid (show (o.kind == 1 || o.kind == 3) = false by rw [show (o.kind == 1) = false from hc, hn3.out]; rfl)
          refine wp_exit ?_
          refine block_pass (by decide) ?_
          refine then_exit ?_
          refine block_exit ?_
          refine then_norm ?_
          have hw := i64w (n := (j : Int) - 1) (by omega) (by omega)
          refine wp_region_lit ?_
          apply seq_op rfl
          · intro Φ hΦ; go_simp; exact hΦ
          (try simp only [Act.put, List.setIfInBounds_toArray, List.set_cons_succ, List.set_cons_zero])
          apply seq_op rfl
          · intro Φ hΦ; go_simp; exact hΦ
          (try simp only [Act.put, List.setIfInBounds_toArray, List.set_cons_succ, List.set_cons_zero])
          apply seq_op rfl
          · intro Φ hΦ; go_simp; exact hΦ
          (try simp only [Act.put, List.setIfInBounds_toArray, List.set_cons_succ, List.set_cons_zero])
          refine list_end ?_
          refine then_norm ?_
          refine ⟨⟨⟨rfl, rfl, rfl, rfl, rfl, rfl, rfl, rfl, rfl, rfl, rfl, rfl, rfl, rfl, rfl⟩, rfl⟩, ?_, by simp [intOf] <;> omega⟩
          exact ⟨j, (j : Int) - 1, g, l, n, rfl, by omega, rfl, rfl, by rw [hdr.out]; simp only [refFin]; rw [if_pos (by rw [show writesO o = false from hwo.out]; rfl)]; exact HN.out, by omega, fun t => by rw [hdr.out, HG.out t]; exact (any_skip t hwo.out _).symm, hBA, H.drop⟩
    · skip
      have hz0 : ¬ 0 ≤ z := by simpa using hc
      obtain rfl : k = 0 := by have := HZ.out; omega
      clear hz0 hc
      have hn2 : n = (refFin 0 xs).length := HN.out
      refine wp_exit ?_
      refine then_exit ?_
      refine then_exit ?_
      refine block_exit ?_
      refine then_norm ?_
      refine wp_seq ?_
      refine wp_region_lit ?_
      apply seq_op rfl
      · intro Φ hΦ; go_simp; exact hΦ
      (try simp only [Act.put, List.setIfInBounds_toArray, List.set_cons_succ, List.set_cons_zero])
      apply seq_op rfl
      · intro Φ hΦ; go_simp; exact hΦ
      (try simp only [Act.put, List.setIfInBounds_toArray, List.set_cons_succ, List.set_cons_zero])
      apply seq_op rfl
      · intro Φ hΦ; go_simp; exact hΦ
      (try simp only [Act.put, List.setIfInBounds_toArray, List.set_cons_succ, List.set_cons_zero])
      apply seq_op rfl
      · intro Φ hΦ; go_simp; exact hΦ
      (try simp only [Act.put, List.setIfInBounds_toArray, List.set_cons_succ, List.set_cons_zero])
      apply seq_op rfl
      · intro Φ hΦ; go_simp; exact hΦ
      (try simp only [Act.put, List.setIfInBounds_toArray, List.set_cons_succ, List.set_cons_zero])
      refine list_end ?_
      refine then_norm ?_
      refine wp_ret ?_
      exact ret1 rfl (rv_tmp rfl) rfl ⟨rfl, s2, hs1, H.drop⟩
end Go.Proofs.Yticpadjheelipaa
