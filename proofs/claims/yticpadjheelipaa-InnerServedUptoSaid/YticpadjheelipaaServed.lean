/- The law InnerServed, walked. -/
import Derived.Test.YticpadjheelipaaCheck
import Derived.Test.YticpadjheelipaaOwn
import Derived.Test.YticpadjheelipaaServedP
import Derived.Test.YticpadjheelipaaRefP
namespace Go.Proofs.Yticpadjheelipaa
open Go.RowKit
set_option linter.all false
set_option maxRecDepth 10000

set_option maxHeartbeats 8000000 in
theorem served_spec {E : World} {s : SH} {L : List HP} {w : World} {vb0 vl0 : Value} {bs ls : List Op'} (hbl : bs.length + ls.length ≤ 1048576) (hbv : ∀ p ∈ bs, Kin.inI64 p.value) (hB : ∀ o ∈ served (bs.filter isWr) ls, o.list.length ≤ 2097152) (hb : kOp.Sl s vb0 bs) (hl : kOp.Sl s vl0 ls) (H : Holds E s L w) :
    Calls Try.prog 4 #[vb0, vl0] w fun e w' => e = .returned (.bool (checkV (fun _ => view0) 0 (served (bs.filter isWr) ls) == -1)) ∧ ∃ s', Sub s s' ∧ Holds E s' L w' := by
  have hb0 := hb
  have hl0 := hl
  obtain ⟨Ab, cab, rfl, hb1, -, -⟩ := hb
  obtain ⟨Ac, cac, rfl, hl1, -, -⟩ := hl
  have hn : (2097152 + (served (bs.filter isWr) ls).length + 1) * 8 ≤ 140737488355328 := by
    have : ∀ (r : List Op') (D : List Op'), (served D r).length = r.length := fun r => by
      induction r with
      | nil => intro D; rfl
      | cons o r ih => intro D; simp only [served, List.length_cons, ih]
    rw [this]; omega
  go_enter Try.func4, Try.ntmps4
  refine wp_seq ?_
  refine wp_region_lit ?_
  apply seq_op rfl
  · intro Φ hΦ; go_simp; exact hΦ
  (try simp only [Act.put, List.setIfInBounds_toArray, List.set_cons_succ, List.set_cons_zero])
  refine list_end ?_
  refine then_norm ?_
  refine wp_seq ?_
  refine wp_region_lit ?_
  apply seq_op rfl
  · intro Φ hΦ; go_simp; exact hΦ
  (try simp only [Act.put, List.setIfInBounds_toArray, List.set_cons_succ, List.set_cons_zero])
  apply seq_op rfl
  · intro Φ hΦ; go_simp; exact hΦ
  (try simp only [Act.put, List.setIfInBounds_toArray, List.set_cons_succ, List.set_cons_zero])
  refine list_end ?_
  refine then_norm ?_
  refine wp_seq ?_
  refine wp_seq ?_
  refine wp_region_lit ?_
  apply seq_op rfl
  · intro Φ hΦ; go_simp; exact hΦ
  (try simp only [Act.put, List.setIfInBounds_toArray, List.set_cons_succ, List.set_cons_zero])
  apply seq_op rfl
  · intro Φ hΦ; go_simp; exact hΦ
  (try simp only [Act.put, List.setIfInBounds_toArray, List.set_cons_succ, List.set_cons_zero])
  apply seq_op rfl
  · intro Φ hΦ; go_simp; exact hΦ
  (try simp only [Act.put, List.setIfInBounds_toArray, List.set_cons_succ, List.set_cons_zero])
  refine list_end ?_
  refine then_norm ?_
  refine wp_block ?_
  refine wp_loopF [none, none, none, none, none, some 5, none, none, some 8, none, none, none, none, none, none, none, none, some 17, some 18, some 19, some 20, some 21, some 22, some 23, some 24, some 25, some 26, some 27, some 28, some 29, some 30, some 31, some 32, some 33, none, none, none, none, none, none, none, none, none, none, none, none, none, none, none, none, none, none, none, none, none, none, none, none, none, none, none, none, none, none, none, none, none, none, none, none, none, none, none, none, none, none, none, none, none, none, none, none, none, none, none, none, none, none, none, none, none, none, none, none, none, none, none, none, none, none, none, none, none, none, none, none, none, none, none, none] rfl (by simp) (fun f w => ∃ k : Nat, ∃ ds, k ≤ bs.length ∧ f 17 = .int .i64 k ∧ ds ++ (bs.drop k).filter isWr = bs.filter isWr ∧ Holds E s ((kOp.sh s).Osl (f 5) ds :: L) w) (fun f w => bs.length - (intOf (f 17)).toNat) ?_ ?_
  · skip
    exact ⟨0, [], Nat.zero_le _, rfl, by rw [List.drop_zero]; rfl, Kin.Osl.nil H⟩
  · intro f w hI
    clear H
    obtain ⟨k, ds, hk, h17, hR, H⟩ := hI
    have HR := Lib.hid hR
    clear hR
    simp only [ovm, mixM]
    simp only [h17]
    clear h17
    refine wp_seq ?_
    refine wp_region_lit ?_
    apply seq_op rfl
    · intro Φ hΦ; go_simp; exact hΦ
    (try simp only [Act.put, List.setIfInBounds_toArray, List.set_cons_succ, List.set_cons_zero])
    refine list_end ?_
    refine then_norm ?_
    refine wp_seq ?_
    refine wp_cond_split rfl (fun hc => ?_) (fun hc => ?_)
    · skip
      refine wp_skip ?_
      refine then_norm ?_
      refine wp_seq ?_
      refine wp_block ?_
      refine wp_seq ?_
      have hlt : k < bs.length := by simpa using hc
      obtain ⟨b, off, o, Al, cl, rfl, hdr0, hmem, hC, hol, hkind, hkey, hval⟩ := elemOp hb0 k hlt
      have hdr := Lib.hid hdr0
      clear hdr0
      refine wp_region_lit ?_
      apply seq_op rfl
      · intro Φ hΦ; go_simp; exact hΦ
      (try simp only [Act.put, List.setIfInBounds_toArray, List.set_cons_succ, List.set_cons_zero])
      apply seq_op rfl
      · intro Φ hΦ; first | (refine L_1 0 _ _ rfl (Try.isAgg25 _) rfl H rfl rfl ?_; exact hΦ) | (refine L_1 1 _ _ rfl (Try.isAgg25 _) rfl H rfl rfl ?_; exact hΦ) | (refine G_pNi 0 _ _ rfl (Try.isAgg25 _) rfl H rfl (Try.sizeOf25 _) ?_; exact hΦ) | (refine G_pNi 1 _ _ rfl (Try.isAgg25 _) rfl H rfl (Try.sizeOf25 _) ?_; exact hΦ) | (refine G_s1 _ _ rfl (Try.isAgg25 _) rfl H hC 0 rfl rfl ?_; exact hΦ) | (refine G_s1 _ _ rfl (Try.isAgg25 _) rfl H hC _ rfl rfl ?_; exact hΦ) | (refine G_sN _ _ rfl (Try.isAgg25 _) rfl H hC (Try.sizeOf25 _) ?_; exact hΦ)
      (try simp only [Act.put, List.setIfInBounds_toArray, List.set_cons_succ, List.set_cons_zero])
      refine OpG.list rfl ?_; refine G_alloc 25 rfl (Try.zeroValue25 _) H ?_; clear H; intro b8 w1 H; (try simp only [Value.cells] at H)
      (try simp only [Act.put, List.setIfInBounds_toArray, List.set_cons_succ, List.set_cons_zero])
      refine OpG.list rfl ?_; first | (refine S_1 0 _ _ _ rfl (Try.sizeOf25 _) rfl rfl H rfl ?_ ?_ ?_; (focus (first | (simp [Value.oneCell']; done) | assumption)); (focus (simp; done))) | (refine G_setNi 0 _ _ _ rfl (Try.sizeOf25 _) rfl rfl ?_ H rfl rfl ?_; (focus (first | (simp [Value.oneCell']; done) | assumption))) | (refine S_1 1 _ _ _ rfl (Try.sizeOf25 _) rfl rfl H rfl ?_ ?_ ?_; (focus (first | (simp [Value.oneCell']; done) | assumption)); (focus (simp; done))) | (refine G_setNi 1 _ _ _ rfl (Try.sizeOf25 _) rfl rfl ?_ H rfl rfl ?_; (focus (first | (simp [Value.oneCell']; done) | assumption)))
      clear H; intro w1 H; simp only [List.set_cons_succ, List.set_cons_zero] at H
      refine list_end ?_
      refine then_norm ?_
      refine wp_seq ?_
      refine wp_plain_obO (k := 8) (sz := 110) (List.replicate 8 8) (fun _ => []) rfl rfl (by kernel_rfl) (by kernel_rfl) H (by simp only [List.take_succ_cons, List.take_zero]; exact rfl)
        (fun y => by simp only [ov, Act.put, List.setIfInBounds_toArray, List.set_cons_succ, List.set_cons_zero, Nat.zero_add, Nat.reduceAdd]; exact rfl) ?_
      apply ObO.valw
      · intro x; rfl
      · intro s' w' y Φ R hs H hG hΦ; skip; refine wantG rfl ?_; (go_simp; exact hΦ _ _ (Sub.refl _) H)
      apply ObO.valw
      · intro x; rfl
      · intro s' w' y Φ R hs H hG hΦ; simp only [List.nil_append, List.cons_append] at hG; have e0 : y 0 = _ := dh_get hG 0 rfl (by kernel_rfl); simp only [e0]; refine wantG rfl ?_; first | (refine L_1 0 _ _ rfl (Try.isAgg3 _) rfl H rfl rfl ?_; exact hΦ _ _ (Sub.refl _) H) | (refine L_1 1 _ _ rfl (Try.isAgg3 _) rfl H rfl rfl ?_; exact hΦ _ _ (Sub.refl _) H) | (refine G_pNi 0 _ _ rfl (Try.isAgg3 _) rfl H rfl (Try.sizeOf3 _) ?_; exact hΦ _ _ (Sub.refl _) H) | (refine G_pNi 1 _ _ rfl (Try.isAgg3 _) rfl H rfl (Try.sizeOf3 _) ?_; exact hΦ _ _ (Sub.refl _) H) | (refine G_s1 _ _ rfl (Try.isAgg3 _) rfl H (hC.mono hs) 0 rfl rfl ?_; exact hΦ _ _ (Sub.refl _) H) | (refine G_s1 _ _ rfl (Try.isAgg3 _) rfl H (hC.mono hs) _ rfl rfl ?_; exact hΦ _ _ (Sub.refl _) H) | (refine G_sN _ _ rfl (Try.isAgg3 _) rfl H (hC.mono hs) (Try.sizeOf3 _) ?_; exact hΦ _ _ (Sub.refl _) H)
      apply ObO.valw
      · intro x; rfl
      · intro s' w' y Φ R hs H hG hΦ; simp only [List.nil_append, List.cons_append] at hG; have e1 : y 1 = _ := dh_get hG 1 rfl (by kernel_rfl); simp only [e1]; refine wantG rfl ?_; (go_simp; exact hΦ _ _ (Sub.refl _) H)
      apply ObO.valw
      · intro x; rfl
      · intro s' w' y Φ R hs H hG hΦ; simp only [List.nil_append, List.cons_append] at hG; have e2 : y 2 = _ := dh_get hG 2 rfl (by kernel_rfl); simp only [e2]; refine wantG rfl ?_; (go_simp; exact hΦ _ _ (Sub.refl _) H)
      apply ObO.valg
      · intro x; rfl
      · intro s' y hG; simp only [List.nil_append, List.cons_append] at hG; have eg : y 3 = _ := dh_get hG 3 rfl (by kernel_rfl); simp only [eg]; first | exact wanted_f rfl rfl rfl | exact wanted_vf rfl rfl rfl
      · intro hc s' w' y Φ R hs H hG hΦ; have HC := Lib.hid hc; clear hc; skip; (go_simp; exact hΦ _ _ (Sub.refl _) H)
      apply ObO.valg
      · intro x; rfl
      · intro s' y hG; simp only [List.nil_append, List.cons_append] at hG; have eg : y 3 = _ := dh_get hG 3 rfl (by kernel_rfl); simp only [eg]; first | exact wanted_f rfl rfl rfl | exact wanted_vf rfl rfl rfl
      · intro hc s' w' y Φ R hs H hG hΦ; simp only [List.nil_append, List.cons_append] at hG; have e4 : y 4 = _ := dh_get hG 4 rfl (by kernel_rfl); (first | rw [vg_of hc] at e4 | rw [vg_of (and_l hc)] at e4 | rw [vg_of (and_l (and_l hc))] at e4 | rw [vg_of (and_l (and_l (and_l hc)))] at e4 | rw [vg_and hc] at e4 | skip); have HC := Lib.hid hc; clear hc; simp only [e4]; first | (refine L_1 0 _ _ rfl (Try.isAgg3 _) rfl H rfl rfl ?_; exact hΦ _ _ (Sub.refl _) H) | (refine L_1 1 _ _ rfl (Try.isAgg3 _) rfl H rfl rfl ?_; exact hΦ _ _ (Sub.refl _) H) | (refine G_pNi 0 _ _ rfl (Try.isAgg3 _) rfl H rfl (Try.sizeOf3 _) ?_; exact hΦ _ _ (Sub.refl _) H) | (refine G_pNi 1 _ _ rfl (Try.isAgg3 _) rfl H rfl (Try.sizeOf3 _) ?_; exact hΦ _ _ (Sub.refl _) H) | (refine G_s1 _ _ rfl (Try.isAgg3 _) rfl H (hC.mono hs) 0 rfl rfl ?_; exact hΦ _ _ (Sub.refl _) H) | (refine G_s1 _ _ rfl (Try.isAgg3 _) rfl H (hC.mono hs) _ rfl rfl ?_; exact hΦ _ _ (Sub.refl _) H) | (refine G_sN _ _ rfl (Try.isAgg3 _) rfl H (hC.mono hs) (Try.sizeOf3 _) ?_; exact hΦ _ _ (Sub.refl _) H)
      apply ObO.valg
      · intro x; rfl
      · intro s' y hG; simp only [List.nil_append, List.cons_append] at hG; have eg : y 3 = _ := dh_get hG 3 rfl (by kernel_rfl); simp only [eg]; first | exact wanted_f rfl rfl rfl | exact wanted_vf rfl rfl rfl
      · intro hc s' w' y Φ R hs H hG hΦ; simp only [List.nil_append, List.cons_append] at hG; have e5 : y 5 = _ := dh_get hG 5 rfl (by kernel_rfl); (first | rw [vg_of hc] at e5 | rw [vg_of (and_l hc)] at e5 | rw [vg_of (and_l (and_l hc))] at e5 | rw [vg_of (and_l (and_l (and_l hc)))] at e5 | rw [vg_and hc] at e5 | skip); have HC := Lib.hid hc; clear hc; simp only [e5]; (go_simp; exact hΦ _ _ (Sub.refl _) H)
      apply ObO.valw
      · intro x; rfl
      · intro s' w' y Φ R hs H hG hΦ; simp only [List.nil_append, List.cons_append] at hG; have e3 : y 3 = _ := dh_get hG 3 rfl (by kernel_rfl); have e6 : y 6 = _ := dh_get hG 6 rfl (by kernel_rfl); simp only [e3, e6]; refine wantG rfl ?_; (refine G_or _ _ _ rfl rfl rfl rfl ?_; exact hΦ _ _ (Sub.refl _) H)
      clear H
      intro s3 w3 yy hs3 H hG
      replace H := (show Holds _ _ ([] ++ _) _ from H); rw [List.nil_append] at H
      simp only [List.nil_append, List.cons_append] at hG
      have e0 : yy 0 = _ := gh_get hG 0 rfl
      have e1 : yy 1 = _ := gh_get hG 1 rfl
      have e2 : yy 2 = _ := gh_get hG 2 rfl
      have e3 : yy 3 = _ := gh_get hG 3 rfl
      have e4 : yy 4 = _ := gh_get hG 4 rfl
      have e5 : yy 5 = _ := gh_get hG 5 rfl
      have e6 : yy 6 = _ := gh_get hG 6 rfl
      have e7 : yy 7 = _ := gh_get hG 7 rfl
      simp only [e0, e1, e2, e3, e4, e5, e6, e7]
      clear hG e0 e1 e2 e3 e4 e5 e6 e7
      replace H := H.forget hs3
      refine list_end ?_
      refine then_norm ?_
      refine wp_cond_split rfl (fun hc => ?_) (fun hc => ?_)
      · skip
        have hroom : (ds.length + 1) * kOp.by_ ≤ 140737488355328 := by
          have h := congrArg List.length HR.out
          have h2 := List.length_filter_le isWr bs
          rw [List.length_append, hdr.out, List.filter_cons_of_pos (show isWr o = true from hc), List.length_cons] at h
          show (ds.length + 1) * 64 ≤ _
          omega
        refine wp_region_lit ?_
        apply seq_op rfl
        · intro Φ hΦ; go_simp; exact hΦ
        (try simp only [Act.put, List.setIfInBounds_toArray, List.set_cons_succ, List.set_cons_zero])
        apply seq_op rfl
        · intro Φ hΦ; first | (refine L_1 0 _ _ rfl (Try.isAgg25 _) rfl H rfl rfl ?_; exact hΦ) | (refine L_1 1 _ _ rfl (Try.isAgg25 _) rfl H rfl rfl ?_; exact hΦ) | (refine G_pNi 0 _ _ rfl (Try.isAgg25 _) rfl H rfl (Try.sizeOf25 _) ?_; exact hΦ) | (refine G_pNi 1 _ _ rfl (Try.isAgg25 _) rfl H rfl (Try.sizeOf25 _) ?_; exact hΦ) | (refine G_s1 _ _ rfl (Try.isAgg25 _) rfl H hC 0 rfl rfl ?_; exact hΦ) | (refine G_s1 _ _ rfl (Try.isAgg25 _) rfl H hC _ rfl rfl ?_; exact hΦ) | (refine G_sN _ _ rfl (Try.isAgg25 _) rfl H hC (Try.sizeOf25 _) ?_; exact hΦ)
        (try simp only [Act.put, List.setIfInBounds_toArray, List.set_cons_succ, List.set_cons_zero])
        refine OpG.list rfl ?_; refine SL_1 rfl rfl Try.underlying22 Try.sizeOf25 Try.zeroValue25 rfl rfl (by decide) (by decide) H ?_; clear H; intro b31 w1 H; (try simp only [Value.cells] at H)
        (try simp only [Act.put, List.setIfInBounds_toArray, List.set_cons_succ, List.set_cons_zero])
        refine OpG.list rfl ?_; refine AP_1 1 kOp_at _ _ rfl (kOp_mk hol hkind hkey hval) H rfl rfl rfl hroom ?_; clear H; intro v32 w1 H; (try simp only [List.set_cons_succ, List.set_cons_zero] at H)
        (try simp only [Act.put, List.setIfInBounds_toArray, List.set_cons_succ, List.set_cons_zero])
        apply seq_op rfl
        · intro Φ hΦ; go_simp; exact hΦ
        (try simp only [Act.put, List.setIfInBounds_toArray, List.set_cons_succ, List.set_cons_zero])
        refine list_end ?_
        refine block_norm ?_
        refine then_norm ?_
        have hw := i64w (n := (k : Int) + 1) (by omega) (by omega)
        refine wp_region_lit ?_
        apply seq_op rfl
        · intro Φ hΦ; go_simp; exact hΦ
        (try simp only [Act.put, List.setIfInBounds_toArray, List.set_cons_succ, List.set_cons_zero])
        apply seq_op rfl
        · intro Φ hΦ; go_simp; exact hΦ
        (try simp only [Act.put, List.setIfInBounds_toArray, List.set_cons_succ, List.set_cons_zero])
        refine list_end ?_
        refine then_norm ?_
        refine ⟨⟨⟨rfl, rfl, rfl, rfl, rfl, rfl, rfl, rfl, rfl, rfl, rfl, rfl, rfl, rfl, rfl, rfl, rfl, rfl, rfl, rfl, rfl, rfl, rfl, rfl, rfl, rfl, rfl, rfl, rfl, rfl, rfl, rfl, rfl, rfl, rfl, rfl, rfl, rfl, rfl, rfl, rfl, rfl, rfl, rfl, rfl, rfl, rfl, rfl, rfl, rfl, rfl, rfl, rfl, rfl, rfl, rfl, rfl, rfl, rfl, rfl, rfl, rfl, rfl, rfl, rfl, rfl, rfl, rfl, rfl, rfl, rfl, rfl, rfl, rfl, rfl, rfl, rfl, rfl, rfl, rfl, rfl, rfl, rfl, rfl, rfl, rfl, rfl, rfl, rfl, rfl, rfl, rfl⟩, rfl⟩, ?_, by simp [intOf]; omega⟩
        exact ⟨k + 1, ds ++ [o], by omega, by go_num, by rw [List.append_assoc, ← HR.out, hdr.out, List.filter_cons_of_pos (by exact hc)]; rfl, H.drop⟩
      · skip
        refine wp_skip ?_
        refine block_norm ?_
        refine then_norm ?_
        have hw := i64w (n := (k : Int) + 1) (by omega) (by omega)
        refine wp_region_lit ?_
        apply seq_op rfl
        · intro Φ hΦ; go_simp; exact hΦ
        (try simp only [Act.put, List.setIfInBounds_toArray, List.set_cons_succ, List.set_cons_zero])
        apply seq_op rfl
        · intro Φ hΦ; go_simp; exact hΦ
        (try simp only [Act.put, List.setIfInBounds_toArray, List.set_cons_succ, List.set_cons_zero])
        refine list_end ?_
        refine then_norm ?_
        refine ⟨⟨⟨rfl, rfl, rfl, rfl, rfl, rfl, rfl, rfl, rfl, rfl, rfl, rfl, rfl, rfl, rfl, rfl, rfl, rfl, rfl, rfl, rfl, rfl, rfl, rfl, rfl, rfl, rfl, rfl, rfl, rfl, rfl, rfl, rfl, rfl, rfl, rfl, rfl, rfl, rfl, rfl, rfl, rfl, rfl, rfl, rfl, rfl, rfl, rfl, rfl, rfl, rfl, rfl, rfl, rfl, rfl, rfl, rfl, rfl, rfl, rfl, rfl, rfl, rfl, rfl, rfl, rfl, rfl, rfl, rfl, rfl, rfl, rfl, rfl, rfl, rfl, rfl, rfl, rfl, rfl, rfl, rfl, rfl, rfl, rfl, rfl, rfl, rfl, rfl, rfl, rfl, rfl, rfl⟩, rfl⟩, ?_, by simp [intOf]; omega⟩
        exact ⟨k + 1, ds, by omega, by go_num, by rw [← HR.out, hdr.out, List.filter_cons_of_neg (nt (by exact hc))], H.drop⟩
    · skip
      have hfin : k = bs.length := by
        have : ¬ k < bs.length := by simpa using hc
        omega
      subst hfin
      have hys := HR.out
      rw [List.drop_length, List.filter_nil, List.append_nil] at hys
      subst hys
      clear HR
      refine wp_exit ?_
      refine then_exit ?_
      refine then_exit ?_
      refine block_exit ?_
      refine then_norm ?_
      refine wp_seq ?_
      refine wp_seq ?_
      refine wp_region_lit ?_
      apply seq_op rfl
      · intro Φ hΦ; go_simp; exact hΦ
      (try simp only [Act.put, List.setIfInBounds_toArray, List.set_cons_succ, List.set_cons_zero])
      apply seq_op rfl
      · intro Φ hΦ; go_simp; exact hΦ
      (try simp only [Act.put, List.setIfInBounds_toArray, List.set_cons_succ, List.set_cons_zero])
      apply seq_op rfl
      · intro Φ hΦ; go_simp; exact hΦ
      (try simp only [Act.put, List.setIfInBounds_toArray, List.set_cons_succ, List.set_cons_zero])
      refine list_end ?_
      refine then_norm ?_
      refine wp_block ?_
      refine wp_loopF [none, none, none, none, none, some 5, some 6, none, none, none, some 10, none, some 12, none, some 14, none, none, none, none, none, none, none, none, none, none, none, none, none, none, none, none, none, none, none, none, none, some 36, some 37, some 38, some 39, some 40, some 41, some 42, some 43, some 44, some 45, some 46, some 47, some 48, some 49, some 50, some 51, some 52, some 53, some 54, some 55, some 56, some 57, some 58, some 59, some 60, some 61, some 62, some 63, some 64, some 65, some 66, some 67, some 68, some 69, some 70, some 71, some 72, some 73, some 74, some 75, some 76, some 77, some 78, some 79, some 80, some 81, some 82, some 83, some 84, some 85, some 86, some 87, some 88, some 89, some 90, some 91, some 92, some 93, some 94, some 95, some 96, some 97, some 98, some 99, some 100, some 101, some 102, some 103, some 104, some 105, some 106, none, none, none] rfl (by simp) (fun f w => ∃ k : Nat, ∃ D T, ∃ s', k ≤ ls.length ∧ f 36 = .int .i64 k ∧ T ++ served D (ls.drop k) = served (bs.filter isWr) ls ∧ D.length ≤ bs.length + k ∧ T.length = k ∧ (∀ p ∈ D, Kin.inI64 p.value) ∧ Sub s s' ∧ Holds E s' ((kOp.sh s').Osl (f 5) D :: (kOp.sh s').Osl (f 6) T :: L) w) (fun f w => ls.length - (intOf (f 36)).toNat) ?_ ?_
      · skip
        exact ⟨0, bs.filter isWr, [], s, Nat.zero_le _, rfl, by rw [List.drop_zero]; rfl, by have := List.length_filter_le isWr bs; omega, rfl, fun p hp => hbv p (List.mem_filter.1 hp).1, Sub.refl s, (Kin.Osl.nil H).swap⟩
      · intro f w hI
        clear H
        obtain ⟨k, D, T, s1, hk, h36, hR, hDl, hTl, hDv, hs1, H⟩ := hI
        have HR := Lib.hid hR
        clear hR
        simp only [ovm, mixM]
        simp only [h36]
        clear h36
        refine wp_seq ?_
        refine wp_region_lit ?_
        apply seq_op rfl
        · intro Φ hΦ; go_simp; exact hΦ
        (try simp only [Act.put, List.setIfInBounds_toArray, List.set_cons_succ, List.set_cons_zero])
        refine list_end ?_
        refine then_norm ?_
        refine wp_seq ?_
        refine wp_cond_split rfl (fun hc => ?_) (fun hc => ?_)
        · skip
          refine wp_skip ?_
          refine then_norm ?_
          refine wp_seq ?_
          refine wp_block ?_
          refine wp_seq ?_
          have hlt : k < ls.length := by simpa using hc
          obtain ⟨b, off, o, Al, cl, rfl, hdr0, hmem, hC, hol, hkind, hkey, hval⟩ := elemOp (hl0.mono hs1) k hlt
          have hdr := Lib.hid hdr0
          clear hdr0
          refine wp_region_lit ?_
          apply seq_op rfl
          · intro Φ hΦ; go_simp; exact hΦ
          (try simp only [Act.put, List.setIfInBounds_toArray, List.set_cons_succ, List.set_cons_zero])
          apply seq_op rfl
          · intro Φ hΦ; first | (refine L_1 0 _ _ rfl (Try.isAgg25 _) rfl H rfl rfl ?_; exact hΦ) | (refine L_1 1 _ _ rfl (Try.isAgg25 _) rfl H rfl rfl ?_; exact hΦ) | (refine G_pNi 0 _ _ rfl (Try.isAgg25 _) rfl H rfl (Try.sizeOf25 _) ?_; exact hΦ) | (refine G_pNi 1 _ _ rfl (Try.isAgg25 _) rfl H rfl (Try.sizeOf25 _) ?_; exact hΦ) | (refine G_s1 _ _ rfl (Try.isAgg25 _) rfl H hC 0 rfl rfl ?_; exact hΦ) | (refine G_s1 _ _ rfl (Try.isAgg25 _) rfl H hC _ rfl rfl ?_; exact hΦ) | (refine G_sN _ _ rfl (Try.isAgg25 _) rfl H hC (Try.sizeOf25 _) ?_; exact hΦ)
          (try simp only [Act.put, List.setIfInBounds_toArray, List.set_cons_succ, List.set_cons_zero])
          refine OpG.list rfl ?_; refine G_alloc 25 rfl (Try.zeroValue25 _) H ?_; clear H; intro b10 w1 H; (try simp only [Value.cells] at H)
          (try simp only [Act.put, List.setIfInBounds_toArray, List.set_cons_succ, List.set_cons_zero])
          refine OpG.list rfl ?_; first | (refine S_1 0 _ _ _ rfl (Try.sizeOf25 _) rfl rfl H rfl ?_ ?_ ?_; (focus (first | (simp [Value.oneCell']; done) | assumption)); (focus (simp; done))) | (refine G_setNi 0 _ _ _ rfl (Try.sizeOf25 _) rfl rfl ?_ H rfl rfl ?_; (focus (first | (simp [Value.oneCell']; done) | assumption))) | (refine S_1 1 _ _ _ rfl (Try.sizeOf25 _) rfl rfl H rfl ?_ ?_ ?_; (focus (first | (simp [Value.oneCell']; done) | assumption)); (focus (simp; done))) | (refine G_setNi 1 _ _ _ rfl (Try.sizeOf25 _) rfl rfl ?_ H rfl rfl ?_; (focus (first | (simp [Value.oneCell']; done) | assumption)))
          clear H; intro w1 H; simp only [List.set_cons_succ, List.set_cons_zero] at H
          refine list_end ?_
          refine then_norm ?_
          refine wp_seq ?_
          refine wp_seq ?_
          refine wp_region_lit ?_
          apply seq_op rfl
          · intro Φ hΦ; go_simp; exact hΦ
          (try simp only [Act.put, List.setIfInBounds_toArray, List.set_cons_succ, List.set_cons_zero])
          apply seq_op rfl
          · intro Φ hΦ; first | (refine L_1 0 _ _ rfl (Try.isAgg3 _) rfl H rfl rfl ?_; exact hΦ) | (refine L_1 1 _ _ rfl (Try.isAgg3 _) rfl H rfl rfl ?_; exact hΦ) | (refine G_pNi 0 _ _ rfl (Try.isAgg3 _) rfl H rfl (Try.sizeOf3 _) ?_; exact hΦ) | (refine G_pNi 1 _ _ rfl (Try.isAgg3 _) rfl H rfl (Try.sizeOf3 _) ?_; exact hΦ) | (refine G_s1 _ _ rfl (Try.isAgg3 _) rfl H hC 0 rfl rfl ?_; exact hΦ) | (refine G_s1 _ _ rfl (Try.isAgg3 _) rfl H hC _ rfl rfl ?_; exact hΦ) | (refine G_sN _ _ rfl (Try.isAgg3 _) rfl H hC (Try.sizeOf3 _) ?_; exact hΦ)
          (try simp only [Act.put, List.setIfInBounds_toArray, List.set_cons_succ, List.set_cons_zero])
          refine list_end ?_
          refine then_norm ?_
          refine wp_block ?_
          refine wp_seq ?_
          refine wp_seq ?_
          refine wp_region_lit ?_
          apply seq_op rfl
          · intro Φ hΦ; go_simp; exact hΦ
          (try simp only [Act.put, List.setIfInBounds_toArray, List.set_cons_succ, List.set_cons_zero])
          apply seq_op rfl
          · intro Φ hΦ; go_simp; exact hΦ
          (try simp only [Act.put, List.setIfInBounds_toArray, List.set_cons_succ, List.set_cons_zero])
          refine list_end ?_
          refine then_norm ?_
          refine wp_cond_split rfl (fun hc => ?_) (fun hc => ?_)
          · skip
            have hk1 := Lib.hid (show (o.kind == 1) = true from hc)
            refine wp_skip ?_
            refine then_norm ?_
            simp only [show (o.kind == 1) = true from hk1.out]
            refine wp_cond_true rfl ?_
            have hroomD : (D.length + 1) * kOp.by_ ≤ 140737488355328 := by show (D.length + 1) * 64 ≤ _; omega
            refine wp_region_lit ?_
            apply seq_op rfl
            · intro Φ hΦ; go_simp; exact hΦ
            (try simp only [Act.put, List.setIfInBounds_toArray, List.set_cons_succ, List.set_cons_zero])
            apply seq_op rfl
            · intro Φ hΦ; first | (refine L_1 0 _ _ rfl (Try.isAgg25 _) rfl H rfl rfl ?_; exact hΦ) | (refine L_1 1 _ _ rfl (Try.isAgg25 _) rfl H rfl rfl ?_; exact hΦ) | (refine G_pNi 0 _ _ rfl (Try.isAgg25 _) rfl H rfl (Try.sizeOf25 _) ?_; exact hΦ) | (refine G_pNi 1 _ _ rfl (Try.isAgg25 _) rfl H rfl (Try.sizeOf25 _) ?_; exact hΦ) | (refine G_s1 _ _ rfl (Try.isAgg25 _) rfl H hC 0 rfl rfl ?_; exact hΦ) | (refine G_s1 _ _ rfl (Try.isAgg25 _) rfl H hC _ rfl rfl ?_; exact hΦ) | (refine G_sN _ _ rfl (Try.isAgg25 _) rfl H hC (Try.sizeOf25 _) ?_; exact hΦ)
            (try simp only [Act.put, List.setIfInBounds_toArray, List.set_cons_succ, List.set_cons_zero])
            refine OpG.list rfl ?_; refine SL_1 rfl rfl Try.underlying22 Try.sizeOf25 Try.zeroValue25 rfl rfl (by decide) (by decide) H ?_; clear H; intro b47 w1 H; (try simp only [Value.cells] at H)
            (try simp only [Act.put, List.setIfInBounds_toArray, List.set_cons_succ, List.set_cons_zero])
            refine OpG.list rfl ?_; refine AP_1 1 kOp_at _ _ rfl (kOp_mk hol hkind hkey hval) H rfl rfl rfl hroomD ?_; clear H; intro v48 w1 H; (try simp only [List.set_cons_succ, List.set_cons_zero] at H)
            (try simp only [Act.put, List.setIfInBounds_toArray, List.set_cons_succ, List.set_cons_zero])
            apply seq_op rfl
            · intro Φ hΦ; go_simp; exact hΦ
            (try simp only [Act.put, List.setIfInBounds_toArray, List.set_cons_succ, List.set_cons_zero])
            refine list_end ?_
            refine block_norm ?_
            refine then_norm ?_
            have hroomT : (T.length + 1) * kOp.by_ ≤ 140737488355328 := by show (T.length + 1) * 64 ≤ _; omega
            refine wp_region_lit ?_
            apply seq_op rfl
            · intro Φ hΦ; go_simp; exact hΦ
            (try simp only [Act.put, List.setIfInBounds_toArray, List.set_cons_succ, List.set_cons_zero])
            apply seq_op rfl
            · intro Φ hΦ; first | (refine L_1 0 _ _ rfl (Try.isAgg25 _) rfl H rfl rfl ?_; exact hΦ) | (refine L_1 1 _ _ rfl (Try.isAgg25 _) rfl H rfl rfl ?_; exact hΦ) | (refine G_pNi 0 _ _ rfl (Try.isAgg25 _) rfl H rfl (Try.sizeOf25 _) ?_; exact hΦ) | (refine G_pNi 1 _ _ rfl (Try.isAgg25 _) rfl H rfl (Try.sizeOf25 _) ?_; exact hΦ) | (refine G_s1 _ _ rfl (Try.isAgg25 _) rfl H hC 0 rfl rfl ?_; exact hΦ) | (refine G_s1 _ _ rfl (Try.isAgg25 _) rfl H hC _ rfl rfl ?_; exact hΦ) | (refine G_sN _ _ rfl (Try.isAgg25 _) rfl H hC (Try.sizeOf25 _) ?_; exact hΦ)
            (try simp only [Act.put, List.setIfInBounds_toArray, List.set_cons_succ, List.set_cons_zero])
            refine OpG.list rfl ?_; refine SL_1 rfl rfl Try.underlying22 Try.sizeOf25 Try.zeroValue25 rfl rfl (by decide) (by decide) H ?_; clear H; intro b104 w1 H; (try simp only [Value.cells] at H)
            (try simp only [Act.put, List.setIfInBounds_toArray, List.set_cons_succ, List.set_cons_zero])
            refine OpG.list rfl ?_; refine AP_1 2 kOp_at _ _ rfl (kOp_mk (hol) hkind hkey hval) H rfl rfl rfl hroomT ?_; clear H; intro v105 w1 H; (try simp only [List.set_cons_succ, List.set_cons_zero] at H)
            (try simp only [Act.put, List.setIfInBounds_toArray, List.set_cons_succ, List.set_cons_zero])
            apply seq_op rfl
            · intro Φ hΦ; go_simp; exact hΦ
            (try simp only [Act.put, List.setIfInBounds_toArray, List.set_cons_succ, List.set_cons_zero])
            refine list_end ?_
            refine block_norm ?_
            refine then_norm ?_
            have hw := i64w (n := (k : Int) + 1) (by omega) (by omega)
            refine wp_region_lit ?_
            apply seq_op rfl
            · intro Φ hΦ; go_simp; exact hΦ
            (try simp only [Act.put, List.setIfInBounds_toArray, List.set_cons_succ, List.set_cons_zero])
            apply seq_op rfl
            · intro Φ hΦ; go_simp; exact hΦ
            (try simp only [Act.put, List.setIfInBounds_toArray, List.set_cons_succ, List.set_cons_zero])
            refine list_end ?_
            refine then_norm ?_
            have ht := told_w1 (D := D) hk1.out
            refine ⟨⟨⟨rfl, rfl, rfl, rfl, rfl, rfl, rfl, rfl, rfl, rfl, rfl, rfl, rfl, rfl, rfl, rfl, rfl, rfl, rfl, rfl, rfl, rfl, rfl, rfl, rfl, rfl, rfl, rfl, rfl, rfl, rfl, rfl, rfl, rfl, rfl⟩, rfl⟩, ?_, by simp [intOf]; omega⟩
            exact ⟨k + 1, D ++ [o], T ++ [o], s1, by omega, by go_num, by rw [List.append_assoc, ← HR.out, hdr.out, served_cons, ht.1, ht.2]; rfl, by rw [List.length_append, List.length_singleton]; omega, by rw [List.length_append, List.length_singleton, hTl], (fun p hp => (List.mem_append.1 hp).elim (hDv p) (fun h => by rw [List.mem_singleton.1 h]; exact hval)), hs1, H.drop⟩
          · skip
            have hk1 := Lib.hid (show (o.kind == 1) = false from hc)
            refine wp_region_lit ?_
            apply seq_op rfl
            · intro Φ hΦ; go_simp; exact hΦ
            (try simp only [Act.put, List.setIfInBounds_toArray, List.set_cons_succ, List.set_cons_zero])
            apply seq_op rfl
            · intro Φ hΦ; go_simp; exact hΦ
            (try simp only [Act.put, List.setIfInBounds_toArray, List.set_cons_succ, List.set_cons_zero])
            refine list_end ?_
            refine then_norm ?_
            refine wp_cond_split rfl (fun hc => ?_) (fun hc => ?_)
            · skip
              have hk3 := Lib.hid (show (o.kind == 3) = true from hc)
              have hroomD : (D.length + 1) * kOp.by_ ≤ 140737488355328 := by show (D.length + 1) * 64 ≤ _; omega
              refine wp_region_lit ?_
              apply seq_op rfl
              · intro Φ hΦ; go_simp; exact hΦ
              (try simp only [Act.put, List.setIfInBounds_toArray, List.set_cons_succ, List.set_cons_zero])
              apply seq_op rfl
              · intro Φ hΦ; first | (refine L_1 0 _ _ rfl (Try.isAgg25 _) rfl H rfl rfl ?_; exact hΦ) | (refine L_1 1 _ _ rfl (Try.isAgg25 _) rfl H rfl rfl ?_; exact hΦ) | (refine G_pNi 0 _ _ rfl (Try.isAgg25 _) rfl H rfl (Try.sizeOf25 _) ?_; exact hΦ) | (refine G_pNi 1 _ _ rfl (Try.isAgg25 _) rfl H rfl (Try.sizeOf25 _) ?_; exact hΦ) | (refine G_s1 _ _ rfl (Try.isAgg25 _) rfl H hC 0 rfl rfl ?_; exact hΦ) | (refine G_s1 _ _ rfl (Try.isAgg25 _) rfl H hC _ rfl rfl ?_; exact hΦ) | (refine G_sN _ _ rfl (Try.isAgg25 _) rfl H hC (Try.sizeOf25 _) ?_; exact hΦ)
              (try simp only [Act.put, List.setIfInBounds_toArray, List.set_cons_succ, List.set_cons_zero])
              refine OpG.list rfl ?_; refine SL_1 rfl rfl Try.underlying22 Try.sizeOf25 Try.zeroValue25 rfl rfl (by decide) (by decide) H ?_; clear H; intro b47 w1 H; (try simp only [Value.cells] at H)
              (try simp only [Act.put, List.setIfInBounds_toArray, List.set_cons_succ, List.set_cons_zero])
              refine OpG.list rfl ?_; refine AP_1 1 kOp_at _ _ rfl (kOp_mk hol hkind hkey hval) H rfl rfl rfl hroomD ?_; clear H; intro v48 w1 H; (try simp only [List.set_cons_succ, List.set_cons_zero] at H)
              (try simp only [Act.put, List.setIfInBounds_toArray, List.set_cons_succ, List.set_cons_zero])
              apply seq_op rfl
              · intro Φ hΦ; go_simp; exact hΦ
              (try simp only [Act.put, List.setIfInBounds_toArray, List.set_cons_succ, List.set_cons_zero])
              refine list_end ?_
              refine block_norm ?_
              refine then_norm ?_
              have hroomT : (T.length + 1) * kOp.by_ ≤ 140737488355328 := by show (T.length + 1) * 64 ≤ _; omega
              refine wp_region_lit ?_
              apply seq_op rfl
              · intro Φ hΦ; go_simp; exact hΦ
              (try simp only [Act.put, List.setIfInBounds_toArray, List.set_cons_succ, List.set_cons_zero])
              apply seq_op rfl
              · intro Φ hΦ; first | (refine L_1 0 _ _ rfl (Try.isAgg25 _) rfl H rfl rfl ?_; exact hΦ) | (refine L_1 1 _ _ rfl (Try.isAgg25 _) rfl H rfl rfl ?_; exact hΦ) | (refine G_pNi 0 _ _ rfl (Try.isAgg25 _) rfl H rfl (Try.sizeOf25 _) ?_; exact hΦ) | (refine G_pNi 1 _ _ rfl (Try.isAgg25 _) rfl H rfl (Try.sizeOf25 _) ?_; exact hΦ) | (refine G_s1 _ _ rfl (Try.isAgg25 _) rfl H hC 0 rfl rfl ?_; exact hΦ) | (refine G_s1 _ _ rfl (Try.isAgg25 _) rfl H hC _ rfl rfl ?_; exact hΦ) | (refine G_sN _ _ rfl (Try.isAgg25 _) rfl H hC (Try.sizeOf25 _) ?_; exact hΦ)
              (try simp only [Act.put, List.setIfInBounds_toArray, List.set_cons_succ, List.set_cons_zero])
              refine OpG.list rfl ?_; refine SL_1 rfl rfl Try.underlying22 Try.sizeOf25 Try.zeroValue25 rfl rfl (by decide) (by decide) H ?_; clear H; intro b104 w1 H; (try simp only [Value.cells] at H)
              (try simp only [Act.put, List.setIfInBounds_toArray, List.set_cons_succ, List.set_cons_zero])
              refine OpG.list rfl ?_; refine AP_1 2 kOp_at _ _ rfl (kOp_mk (hol) hkind hkey hval) H rfl rfl rfl hroomT ?_; clear H; intro v105 w1 H; (try simp only [List.set_cons_succ, List.set_cons_zero] at H)
              (try simp only [Act.put, List.setIfInBounds_toArray, List.set_cons_succ, List.set_cons_zero])
              apply seq_op rfl
              · intro Φ hΦ; go_simp; exact hΦ
              (try simp only [Act.put, List.setIfInBounds_toArray, List.set_cons_succ, List.set_cons_zero])
              refine list_end ?_
              refine block_norm ?_
              refine then_norm ?_
              have hw := i64w (n := (k : Int) + 1) (by omega) (by omega)
              refine wp_region_lit ?_
              apply seq_op rfl
              · intro Φ hΦ; go_simp; exact hΦ
              (try simp only [Act.put, List.setIfInBounds_toArray, List.set_cons_succ, List.set_cons_zero])
              apply seq_op rfl
              · intro Φ hΦ; go_simp; exact hΦ
              (try simp only [Act.put, List.setIfInBounds_toArray, List.set_cons_succ, List.set_cons_zero])
              refine list_end ?_
              refine then_norm ?_
              have ht := told_w3 (D := D) hk1.out hk3.out
              refine ⟨⟨⟨rfl, rfl, rfl, rfl, rfl, rfl, rfl, rfl, rfl, rfl, rfl, rfl, rfl, rfl, rfl, rfl, rfl, rfl, rfl, rfl, rfl, rfl, rfl, rfl, rfl, rfl, rfl, rfl, rfl, rfl, rfl, rfl, rfl, rfl, rfl⟩, rfl⟩, ?_, by simp [intOf]; omega⟩
              exact ⟨k + 1, D ++ [o], T ++ [o], s1, by omega, by go_num, by rw [List.append_assoc, ← HR.out, hdr.out, served_cons, ht.1, ht.2]; rfl, by rw [List.length_append, List.length_singleton]; omega, by rw [List.length_append, List.length_singleton, hTl], (fun p hp => (List.mem_append.1 hp).elim (hDv p) (fun h => by rw [List.mem_singleton.1 h]; exact hval)), hs1, H.drop⟩
            · skip
              have hk3 := Lib.hid (show (o.kind == 3) = false from hc)
              refine wp_seq ?_
              refine wp_region_lit ?_
              apply seq_op rfl
              · intro Φ hΦ; go_simp; exact hΦ
              (try simp only [Act.put, List.setIfInBounds_toArray, List.set_cons_succ, List.set_cons_zero])
              apply seq_op rfl
              · intro Φ hΦ; go_simp; exact hΦ
              (try simp only [Act.put, List.setIfInBounds_toArray, List.set_cons_succ, List.set_cons_zero])
              refine list_end ?_
              refine then_norm ?_
              refine wp_cond_split rfl (fun hc => ?_) (fun hc => ?_)
              · skip
                have hk2 := Lib.hid (show (o.kind == 2) = true from hc)
                refine wp_seq ?_
                refine wp_region_lit ?_
                apply seq_op rfl
                · intro Φ hΦ; go_simp; exact hΦ
                (try simp only [Act.put, List.setIfInBounds_toArray, List.set_cons_succ, List.set_cons_zero])
                refine OpG.list rfl ?_; first | (refine S_1c 0 _ _ rfl (Try.sizeOf4 _) rfl H rfl ?_ ?_ ?_; (focus (first | (simp [Value.oneCell']; done) | assumption)); (focus (simp; done))) | (refine G_setNi 0 _ _ _ rfl (Try.sizeOf4 _) rfl rfl ?_ H rfl rfl ?_; (focus (first | (simp [Value.oneCell']; done) | assumption))) | (refine S_1c 1 _ _ rfl (Try.sizeOf4 _) rfl H rfl ?_ ?_ ?_; (focus (first | (simp [Value.oneCell']; done) | assumption)); (focus (simp; done))) | (refine G_setNi 1 _ _ _ rfl (Try.sizeOf4 _) rfl rfl ?_ H rfl rfl ?_; (focus (first | (simp [Value.oneCell']; done) | assumption)))
                clear H; intro w1 H; simp only [List.set_cons_succ, List.set_cons_zero] at H
                apply seq_op rfl
                · intro Φ hΦ; go_simp; exact hΦ
                (try simp only [Act.put, List.setIfInBounds_toArray, List.set_cons_succ, List.set_cons_zero])
                refine OpG.list rfl ?_; first | (refine S_1c 0 _ _ rfl (Try.sizeOf23 _) rfl H rfl ?_ ?_ ?_; (focus (first | (simp [Value.oneCell']; done) | assumption)); (focus (simp; done))) | (refine G_setNi 0 _ _ _ rfl (Try.sizeOf23 _) rfl rfl ?_ H rfl rfl ?_; (focus (first | (simp [Value.oneCell']; done) | assumption))) | (refine S_1c 1 _ _ rfl (Try.sizeOf23 _) rfl H rfl ?_ ?_ ?_; (focus (first | (simp [Value.oneCell']; done) | assumption)); (focus (simp; done))) | (refine G_setNi 1 _ _ _ rfl (Try.sizeOf23 _) rfl rfl ?_ H rfl rfl ?_; (focus (first | (simp [Value.oneCell']; done) | assumption)))
                clear H; intro w1 H; simp only [List.set_cons_succ, List.set_cons_zero] at H
                refine list_end ?_
                refine then_norm ?_
                refine wp_seq ?_
                obtain ⟨A5, c5, h5, hd1, hd2, hd3⟩ := (H.swap).addr0
                have HF := Lib.hid h5
                simp only [h5] at H
                simp only [h5]
                clear h5
                have hd2' : D.length * 64 ≤ 140737488355328 := hd2
                clear hd2
                obtain ⟨v6, hv6⟩ : ∃ v6, f 6 = v6 := ⟨_, rfl⟩
                simp only [hv6] at H
                simp only [hv6]
                clear hv6
                refine wp_region_lit ?_
                apply seq_op rfl
                · intro Φ hΦ; go_simp; exact hΦ
                (try simp only [Act.put, List.setIfInBounds_toArray, List.set_cons_succ, List.set_cons_zero])
                apply seq_op rfl
                · intro Φ hΦ; go_simp; exact hΦ
                (try simp only [Act.put, List.setIfInBounds_toArray, List.set_cons_succ, List.set_cons_zero])
                apply seq_op rfl
                · intro Φ hΦ; go_simp; exact hΦ
                (try simp only [Act.put, List.setIfInBounds_toArray, List.set_cons_succ, List.set_cons_zero])
                refine list_end ?_
                refine then_norm ?_
                refine wp_block ?_
                replace H := Kin.Osl.nil (d := kI.sh s1) H
                replace H := H.swap
                refine wp_loopF [none, none, none, none, none, none, none, none, none, none, none, none, some 12, none, none, none, none, none, none, none, none, none, none, none, none, none, none, none, none, none, none, none, none, none, none, none, none, none, none, none, none, none, none, none, none, none, none, none, none, none, none, none, none, none, none, some 55, some 56, some 57, some 58, some 59, some 60, some 61, some 62, some 63, some 64, some 65, some 66, some 67, some 68, some 69, some 70, some 71, some 72, some 73, some 74, some 75, some 76, none, none, none, none, none, none, none, none, none, none, none, none, none, none, none, none, none, none, none, none, none, none, none, none, none, none, none, none, none, none, none, none, none] rfl (by simp) (fun f w => ∃ j : Nat, ∃ zs u, j ≤ D.length ∧ f 55 = .int .i64 j ∧ zs ++ readL o.key (D.drop j) = readL o.key D ∧ Holds E s1 (pt b10 (.cells #[.int .i64 o.kind, .string o.key, .int .i64 o.value, u, .bool true, .bool o.isNil] 25 (0, 0)) :: (kI.sh s1).Osl u zs :: (kOp.sh s1).Osl (.slice A5 D.length c5) D :: (kOp.sh s1).Osl v6 T :: L) w) (fun f w => D.length - (intOf (f 55)).toNat) ?_ ?_
                · skip
                  exact ⟨0, [], _, Nat.zero_le _, rfl, by rw [List.drop_zero]; rfl, H⟩
                · intro f w hI
                  clear H
                  obtain ⟨j, zs, u, hj, h55, hZ, H⟩ := hI
                  have HZ := Lib.hid hZ
                  clear hZ
                  simp only [ovm, mixM]
                  simp only [h55]
                  clear h55
                  refine wp_seq ?_
                  refine wp_region_lit ?_
                  apply seq_op rfl
                  · intro Φ hΦ; go_simp; exact hΦ
                  (try simp only [Act.put, List.setIfInBounds_toArray, List.set_cons_succ, List.set_cons_zero])
                  refine list_end ?_
                  refine then_norm ?_
                  refine wp_seq ?_
                  refine wp_cond_split rfl (fun hc => ?_) (fun hc => ?_)
                  · skip
                    refine wp_skip ?_
                    refine then_norm ?_
                    refine wp_seq ?_
                    refine wp_block ?_
                    refine wp_seq ?_
                    have hlt2 : j < D.length := by simpa using hc
                    obtain ⟨b5, rfl⟩ := hd3 (fun e => by rw [e] at hlt2; simp at hlt2)
                    obtain ⟨q, Aq, cq, hdq0, hmemq, hcell, hql, hkindq, hkeyq, hvalq⟩ := ownOp (H.front 2 rfl) j hlt2
                    have hdq := Lib.hid hdq0
                    clear hdq0
                    refine wp_region_lit ?_
                    apply seq_op rfl
                    · intro Φ hΦ; go_simp; exact hΦ
                    (try simp only [Act.put, List.setIfInBounds_toArray, List.set_cons_succ, List.set_cons_zero])
                    apply seq_op rfl
                    · intro Φ hΦ; first | (refine G_agg _ _ rfl (Try.isAgg25 _) (c := [.int .i64 q.kind, .string q.key, .int .i64 q.value, .slice Aq q.list.length cq, .bool q.has, .bool q.isNil]) (Try.sizeOf25 _) rfl hcell hΦ)
                    (try simp only [Act.put, List.setIfInBounds_toArray, List.set_cons_succ, List.set_cons_zero])
                    refine OpG.list rfl ?_; refine G_alloc 25 rfl (Try.zeroValue25 _) H ?_; clear H; intro b12 w1 H; (try simp only [Value.cells] at H)
                    (try simp only [Act.put, List.setIfInBounds_toArray, List.set_cons_succ, List.set_cons_zero])
                    refine OpG.list rfl ?_; first | (refine S_1 0 _ _ _ rfl (Try.sizeOf25 _) rfl rfl H rfl ?_ ?_ ?_; (focus (first | (simp [Value.oneCell']; done) | assumption)); (focus (simp; done))) | (refine G_setNi 0 _ _ _ rfl (Try.sizeOf25 _) rfl rfl ?_ H rfl rfl ?_; (focus (first | (simp [Value.oneCell']; done) | assumption))) | (refine S_1 1 _ _ _ rfl (Try.sizeOf25 _) rfl rfl H rfl ?_ ?_ ?_; (focus (first | (simp [Value.oneCell']; done) | assumption)); (focus (simp; done))) | (refine G_setNi 1 _ _ _ rfl (Try.sizeOf25 _) rfl rfl ?_ H rfl rfl ?_; (focus (first | (simp [Value.oneCell']; done) | assumption)))
                    clear H; intro w1 H; simp only [List.set_cons_succ, List.set_cons_zero] at H
                    refine list_end ?_
                    refine then_norm ?_
                    refine wp_seq ?_
                    refine wp_plain_obO (k := 10) (sz := 110) (List.replicate 10 10) (fun _ => []) rfl rfl (by kernel_rfl) (by kernel_rfl) H (by simp only [List.take_succ_cons, List.take_zero]; exact rfl)
                      (fun y => by simp only [ov, Act.put, List.setIfInBounds_toArray, List.set_cons_succ, List.set_cons_zero, Nat.zero_add, Nat.reduceAdd]; exact rfl) ?_
                    apply ObO.valw
                    · intro x; rfl
                    · intro s' w' y Φ R hs H hG hΦ; skip; refine wantG rfl ?_; (go_simp; exact hΦ _ _ (Sub.refl _) H)
                    apply ObO.valw
                    · intro x; rfl
                    · intro s' w' y Φ R hs H hG hΦ; simp only [List.nil_append, List.cons_append] at hG; have e0 : y 0 = _ := dh_get hG 0 rfl (by kernel_rfl); simp only [e0]; refine wantG rfl ?_; first | (refine L_1 0 _ _ rfl (Try.isAgg3 _) rfl H rfl rfl ?_; exact hΦ _ _ (Sub.refl _) H) | (refine L_1 1 _ _ rfl (Try.isAgg3 _) rfl H rfl rfl ?_; exact hΦ _ _ (Sub.refl _) H) | (refine G_pNi 0 _ _ rfl (Try.isAgg3 _) rfl H rfl (Try.sizeOf3 _) ?_; exact hΦ _ _ (Sub.refl _) H) | (refine G_pNi 1 _ _ rfl (Try.isAgg3 _) rfl H rfl (Try.sizeOf3 _) ?_; exact hΦ _ _ (Sub.refl _) H) | (refine G_s1 _ _ rfl (Try.isAgg3 _) rfl H (hC.mono hs) 0 rfl rfl ?_; exact hΦ _ _ (Sub.refl _) H) | (refine G_s1 _ _ rfl (Try.isAgg3 _) rfl H (hC.mono hs) _ rfl rfl ?_; exact hΦ _ _ (Sub.refl _) H) | (refine G_sN _ _ rfl (Try.isAgg3 _) rfl H (hC.mono hs) (Try.sizeOf3 _) ?_; exact hΦ _ _ (Sub.refl _) H)
                    apply ObO.valw
                    · intro x; rfl
                    · intro s' w' y Φ R hs H hG hΦ; simp only [List.nil_append, List.cons_append] at hG; have e1 : y 1 = _ := dh_get hG 1 rfl (by kernel_rfl); simp only [e1]; refine wantG rfl ?_; (go_simp; exact hΦ _ _ (Sub.refl _) H)
                    apply ObO.valw
                    · intro x; rfl
                    · intro s' w' y Φ R hs H hG hΦ; simp only [List.nil_append, List.cons_append] at hG; have e2 : y 2 = _ := dh_get hG 2 rfl (by kernel_rfl); simp only [e2]; refine wantG rfl ?_; (go_simp; exact hΦ _ _ (Sub.refl _) H)
                    apply ObO.valg
                    · intro x; rfl
                    · intro s' y hG; simp only [List.nil_append, List.cons_append] at hG; have eg : y 3 = _ := dh_get hG 3 rfl (by kernel_rfl); simp only [eg]; first | exact wanted_t rfl rfl rfl | exact wanted_vt rfl rfl rfl
                    · intro hc s' w' y Φ R hs H hG hΦ; have HC := Lib.hid hc; clear hc; skip; (go_simp; exact hΦ _ _ (Sub.refl _) H)
                    apply ObO.valg
                    · intro x; rfl
                    · intro s' y hG; simp only [List.nil_append, List.cons_append] at hG; have eg : y 3 = _ := dh_get hG 3 rfl (by kernel_rfl); simp only [eg]; first | exact wanted_t rfl rfl rfl | exact wanted_vt rfl rfl rfl
                    · intro hc s' w' y Φ R hs H hG hΦ; simp only [List.nil_append, List.cons_append] at hG; have e4 : y 4 = _ := dh_get hG 4 rfl (by kernel_rfl); (first | rw [vg_of hc] at e4 | rw [vg_of (and_l hc)] at e4 | rw [vg_of (and_l (and_l hc))] at e4 | rw [vg_of (and_l (and_l (and_l hc)))] at e4 | rw [vg_and hc] at e4 | skip); have HC := Lib.hid hc; clear hc; simp only [e4]; first | (refine L_1 0 _ _ rfl (Try.isAgg9 _) rfl H rfl rfl ?_; exact hΦ _ _ (Sub.refl _) H) | (refine L_1 1 _ _ rfl (Try.isAgg9 _) rfl H rfl rfl ?_; exact hΦ _ _ (Sub.refl _) H) | (refine G_pNi 0 _ _ rfl (Try.isAgg9 _) rfl H rfl (Try.sizeOf9 _) ?_; exact hΦ _ _ (Sub.refl _) H) | (refine G_pNi 1 _ _ rfl (Try.isAgg9 _) rfl H rfl (Try.sizeOf9 _) ?_; exact hΦ _ _ (Sub.refl _) H) | (refine G_s1 _ _ rfl (Try.isAgg9 _) rfl H (hC.mono hs) 0 rfl rfl ?_; exact hΦ _ _ (Sub.refl _) H) | (refine G_s1 _ _ rfl (Try.isAgg9 _) rfl H (hC.mono hs) _ rfl rfl ?_; exact hΦ _ _ (Sub.refl _) H) | (refine G_sN _ _ rfl (Try.isAgg9 _) rfl H (hC.mono hs) (Try.sizeOf9 _) ?_; exact hΦ _ _ (Sub.refl _) H)
                    apply ObO.valg
                    · intro x; rfl
                    · intro s' y hG; simp only [List.nil_append, List.cons_append] at hG; have eg : y 3 = _ := dh_get hG 3 rfl (by kernel_rfl); simp only [eg]; first | exact wanted_t rfl rfl rfl | exact wanted_vt rfl rfl rfl
                    · intro hc s' w' y Φ R hs H hG hΦ; have HC := Lib.hid hc; clear hc; skip; (go_simp; exact hΦ _ _ (Sub.refl _) H)
                    apply ObO.valg
                    · intro x; rfl
                    · intro s' y hG; simp only [List.nil_append, List.cons_append] at hG; have eg : y 3 = _ := dh_get hG 3 rfl (by kernel_rfl); simp only [eg]; first | exact wanted_t rfl rfl rfl | exact wanted_vt rfl rfl rfl
                    · intro hc s' w' y Φ R hs H hG hΦ; simp only [List.nil_append, List.cons_append] at hG; have e6 : y 6 = _ := dh_get hG 6 rfl (by kernel_rfl); (first | rw [vg_of hc] at e6 | rw [vg_of (and_l hc)] at e6 | rw [vg_of (and_l (and_l hc))] at e6 | rw [vg_of (and_l (and_l (and_l hc)))] at e6 | rw [vg_and hc] at e6 | skip); have HC := Lib.hid hc; clear hc; simp only [e6]; first | (refine L_1 0 _ _ rfl (Try.isAgg9 _) rfl H rfl rfl ?_; exact hΦ _ _ (Sub.refl _) H) | (refine L_1 1 _ _ rfl (Try.isAgg9 _) rfl H rfl rfl ?_; exact hΦ _ _ (Sub.refl _) H) | (refine G_pNi 0 _ _ rfl (Try.isAgg9 _) rfl H rfl (Try.sizeOf9 _) ?_; exact hΦ _ _ (Sub.refl _) H) | (refine G_pNi 1 _ _ rfl (Try.isAgg9 _) rfl H rfl (Try.sizeOf9 _) ?_; exact hΦ _ _ (Sub.refl _) H) | (refine G_s1 _ _ rfl (Try.isAgg9 _) rfl H (hC.mono hs) 0 rfl rfl ?_; exact hΦ _ _ (Sub.refl _) H) | (refine G_s1 _ _ rfl (Try.isAgg9 _) rfl H (hC.mono hs) _ rfl rfl ?_; exact hΦ _ _ (Sub.refl _) H) | (refine G_sN _ _ rfl (Try.isAgg9 _) rfl H (hC.mono hs) (Try.sizeOf9 _) ?_; exact hΦ _ _ (Sub.refl _) H)
                    apply ObO.valg
                    · intro x; rfl
                    · intro s' y hG; simp only [List.nil_append, List.cons_append] at hG; have eg : y 3 = _ := dh_get hG 3 rfl (by kernel_rfl); simp only [eg]; first | exact wanted_t rfl rfl rfl | exact wanted_vt rfl rfl rfl
                    · intro hc s' w' y Φ R hs H hG hΦ; simp only [List.nil_append, List.cons_append] at hG; have e5 : y 5 = _ := dh_get hG 5 rfl (by kernel_rfl); have e7 : y 7 = _ := dh_get hG 7 rfl (by kernel_rfl); (first | rw [vg_of hc] at e5 | rw [vg_of (and_l hc)] at e5 | rw [vg_of (and_l (and_l hc))] at e5 | rw [vg_of (and_l (and_l (and_l hc)))] at e5 | rw [vg_and hc] at e5 | skip); (first | rw [vg_of hc] at e7 | rw [vg_of (and_l hc)] at e7 | rw [vg_of (and_l (and_l hc))] at e7 | rw [vg_of (and_l (and_l (and_l hc)))] at e7 | rw [vg_and hc] at e7 | skip); have HC := Lib.hid hc; clear hc; simp only [e5, e7]; (go_simp; exact hΦ _ _ (Sub.refl _) H)
                    apply ObO.valw
                    · intro x; rfl
                    · intro s' w' y Φ R hs H hG hΦ; simp only [List.nil_append, List.cons_append] at hG; have e3 : y 3 = _ := dh_get hG 3 rfl (by kernel_rfl); have e8 : y 8 = _ := dh_get hG 8 rfl (by kernel_rfl); simp only [e3, e8]; refine wantG rfl ?_; (refine G_and _ _ _ rfl rfl rfl rfl ?_; exact hΦ _ _ (Sub.refl _) H)
                    clear H
                    intro s3 w3 yy hs3 H hG
                    replace H := (show Holds _ _ ([] ++ _) _ from H); rw [List.nil_append] at H
                    simp only [List.nil_append, List.cons_append] at hG
                    have e0 : yy 0 = _ := gh_get hG 0 rfl
                    have e1 : yy 1 = _ := gh_get hG 1 rfl
                    have e2 : yy 2 = _ := gh_get hG 2 rfl
                    have e3 : yy 3 = _ := gh_get hG 3 rfl
                    have e4 : yy 4 = _ := gh_get hG 4 rfl
                    have e5 : yy 5 = _ := gh_get hG 5 rfl
                    have e6 : yy 6 = _ := gh_get hG 6 rfl
                    have e7 : yy 7 = _ := gh_get hG 7 rfl
                    have e8 : yy 8 = _ := gh_get hG 8 rfl
                    have e9 : yy 9 = _ := gh_get hG 9 rfl
                    simp only [e0, e1, e2, e3, e4, e5, e6, e7, e8, e9]
                    clear hG e0 e1 e2 e3 e4 e5 e6 e7 e8 e9
                    replace H := H.forget hs3
                    refine list_end ?_
                    refine then_norm ?_
                    refine wp_cond_split rfl (fun hc => ?_) (fun hc => ?_)
                    · skip
                      have hroomZ : (zs.length + 1) * kI.by_ ≤ 140737488355328 := by
                        have h := congrArg List.length HZ.out
                        have h2 := readL_len o.key D
                        rw [List.length_append] at h
                        show (zs.length + 1) * 8 ≤ _
                        omega
                      refine wp_region_lit ?_
                      apply seq_op rfl
                      · intro Φ hΦ; go_simp; exact hΦ
                      (try simp only [Act.put, List.setIfInBounds_toArray, List.set_cons_succ, List.set_cons_zero])
                      apply seq_op rfl
                      · intro Φ hΦ; first | (refine L_1 0 _ _ rfl (Try.isAgg23 _) rfl H rfl rfl ?_; exact hΦ) | (refine L_1 1 _ _ rfl (Try.isAgg23 _) rfl H rfl rfl ?_; exact hΦ) | (refine G_pNi 0 _ _ rfl (Try.isAgg23 _) rfl H rfl (Try.sizeOf23 _) ?_; exact hΦ) | (refine G_pNi 1 _ _ rfl (Try.isAgg23 _) rfl H rfl (Try.sizeOf23 _) ?_; exact hΦ) | (refine G_s1 _ _ rfl (Try.isAgg23 _) rfl H hC 0 rfl rfl ?_; exact hΦ) | (refine G_s1 _ _ rfl (Try.isAgg23 _) rfl H hC _ rfl rfl ?_; exact hΦ) | (refine G_sN _ _ rfl (Try.isAgg23 _) rfl H hC (Try.sizeOf23 _) ?_; exact hΦ)
                      (try simp only [Act.put, List.setIfInBounds_toArray, List.set_cons_succ, List.set_cons_zero])
                      apply seq_op rfl
                      · intro Φ hΦ; go_simp; exact hΦ
                      (try simp only [Act.put, List.setIfInBounds_toArray, List.set_cons_succ, List.set_cons_zero])
                      apply seq_op rfl
                      · intro Φ hΦ; first | (refine L_1 0 _ _ rfl (Try.isAgg3 _) rfl H rfl rfl ?_; exact hΦ) | (refine L_1 1 _ _ rfl (Try.isAgg3 _) rfl H rfl rfl ?_; exact hΦ) | (refine G_pNi 0 _ _ rfl (Try.isAgg3 _) rfl H rfl (Try.sizeOf3 _) ?_; exact hΦ) | (refine G_pNi 1 _ _ rfl (Try.isAgg3 _) rfl H rfl (Try.sizeOf3 _) ?_; exact hΦ) | (refine G_s1 _ _ rfl (Try.isAgg3 _) rfl H hC 0 rfl rfl ?_; exact hΦ) | (refine G_s1 _ _ rfl (Try.isAgg3 _) rfl H hC _ rfl rfl ?_; exact hΦ) | (refine G_sN _ _ rfl (Try.isAgg3 _) rfl H hC (Try.sizeOf3 _) ?_; exact hΦ)
                      (try simp only [Act.put, List.setIfInBounds_toArray, List.set_cons_succ, List.set_cons_zero])
                      refine OpG.list rfl ?_; refine SL_1 rfl rfl Try.underlying23 Try.sizeOf3 Try.zeroValue3 rfl rfl (by decide) (by decide) H ?_; clear H; intro b73 w1 H; (try simp only [Value.cells] at H)
                      (try simp only [Act.put, List.setIfInBounds_toArray, List.set_cons_succ, List.set_cons_zero])
                      refine OpG.list rfl ?_; refine AP_1 2 kI_at _ _ rfl (show kI.K s1 q.value [.int .i64 q.value] from ⟨rfl, hvalq⟩) H rfl rfl rfl hroomZ ?_; clear H; intro v74 w1 H; (try simp only [List.set_cons_succ, List.set_cons_zero] at H)
                      (try simp only [Act.put, List.setIfInBounds_toArray, List.set_cons_succ, List.set_cons_zero])
                      apply seq_op rfl
                      · intro Φ hΦ; go_simp; exact hΦ
                      (try simp only [Act.put, List.setIfInBounds_toArray, List.set_cons_succ, List.set_cons_zero])
                      obtain ⟨A74, c74, hv74, -⟩ := (H.front 2 rfl).len
                      have hone : v74.oneCell' = true := by rw [hv74]; rfl
                      refine OpG.list rfl ?_; refine S_1 1 _ _ _ rfl (Try.sizeOf23 _) rfl rfl H rfl hone (by simp) ?_
                      clear H hv74; intro w1 H; simp only [List.set_cons_succ, List.set_cons_zero] at H
                      refine list_end ?_
                      refine block_norm ?_
                      refine then_norm ?_
                      have hw := i64w (n := (j : Int) + 1) (by omega) (by omega)
                      refine wp_region_lit ?_
                      apply seq_op rfl
                      · intro Φ hΦ; go_simp; exact hΦ
                      (try simp only [Act.put, List.setIfInBounds_toArray, List.set_cons_succ, List.set_cons_zero])
                      apply seq_op rfl
                      · intro Φ hΦ; go_simp; exact hΦ
                      (try simp only [Act.put, List.setIfInBounds_toArray, List.set_cons_succ, List.set_cons_zero])
                      refine list_end ?_
                      refine then_norm ?_
                      refine ⟨⟨⟨rfl, rfl, rfl, rfl, rfl, rfl, rfl, rfl, rfl, rfl, rfl, rfl, rfl, rfl, rfl, rfl, rfl, rfl, rfl, rfl, rfl, rfl, rfl, rfl, rfl, rfl, rfl, rfl, rfl, rfl, rfl, rfl, rfl, rfl, rfl, rfl, rfl, rfl, rfl, rfl, rfl, rfl, rfl, rfl, rfl, rfl, rfl, rfl, rfl, rfl, rfl, rfl, rfl, rfl, rfl, rfl, rfl, rfl, rfl, rfl, rfl, rfl, rfl, rfl, rfl, rfl, rfl, rfl, rfl, rfl, rfl, rfl, rfl, rfl, rfl, rfl, rfl, rfl, rfl, rfl, rfl, rfl, rfl, rfl, rfl, rfl, rfl, rfl⟩, rfl⟩, ?_, by simp [intOf]; omega⟩
                      exact ⟨j + 1, zs ++ [q.value], v74, by omega, by go_num, by rw [List.append_assoc, ← HZ.out, hdq.out]; simp only [readL]; rw [if_pos (by exact hc)]; rfl, H.drop⟩
                    · skip
                      refine wp_skip ?_
                      refine block_norm ?_
                      refine then_norm ?_
                      have hw := i64w (n := (j : Int) + 1) (by omega) (by omega)
                      refine wp_region_lit ?_
                      apply seq_op rfl
                      · intro Φ hΦ; go_simp; exact hΦ
                      (try simp only [Act.put, List.setIfInBounds_toArray, List.set_cons_succ, List.set_cons_zero])
                      apply seq_op rfl
                      · intro Φ hΦ; go_simp; exact hΦ
                      (try simp only [Act.put, List.setIfInBounds_toArray, List.set_cons_succ, List.set_cons_zero])
                      refine list_end ?_
                      refine then_norm ?_
                      refine ⟨⟨⟨rfl, rfl, rfl, rfl, rfl, rfl, rfl, rfl, rfl, rfl, rfl, rfl, rfl, rfl, rfl, rfl, rfl, rfl, rfl, rfl, rfl, rfl, rfl, rfl, rfl, rfl, rfl, rfl, rfl, rfl, rfl, rfl, rfl, rfl, rfl, rfl, rfl, rfl, rfl, rfl, rfl, rfl, rfl, rfl, rfl, rfl, rfl, rfl, rfl, rfl, rfl, rfl, rfl, rfl, rfl, rfl, rfl, rfl, rfl, rfl, rfl, rfl, rfl, rfl, rfl, rfl, rfl, rfl, rfl, rfl, rfl, rfl, rfl, rfl, rfl, rfl, rfl, rfl, rfl, rfl, rfl, rfl, rfl, rfl, rfl, rfl, rfl, rfl⟩, rfl⟩, ?_, by simp [intOf]; omega⟩
                      exact ⟨j + 1, zs, u, by omega, by go_num, by rw [← HZ.out, hdq.out]; simp only [readL]; rw [if_neg (nt (by exact hc))], H.drop⟩
                  · skip
                    have hfin : j = D.length := by
                      have : ¬ j < D.length := by simpa using hc
                      omega
                    subst hfin
                    have hys := HZ.out
                    rw [List.drop_length, show readL o.key [] = [] from rfl, List.append_nil] at hys
                    subst hys
                    clear HZ
                    obtain ⟨s2, hs2, H, hu0⟩ := Kin.Osl.fr H.swap
                    have hu := hu0.unsh hs2
                    clear hu0
                    obtain ⟨Au, cu, rfl, -⟩ := id hu
                    replace H := ((H.swap.map (Kin.Osl.sh_mono hs2)).swap.swap2.swap.map (Kin.Osl.sh_mono hs2)).swap.swap2
                    refine wp_exit ?_
                    refine then_exit ?_
                    refine then_exit ?_
                    refine block_exit ?_
                    refine block_norm ?_
                    refine then_norm ?_
                    have hroomT : (T.length + 1) * kOp.by_ ≤ 140737488355328 := by show (T.length + 1) * 64 ≤ _; omega
                    refine wp_region_lit ?_
                    apply seq_op rfl
                    · intro Φ hΦ; go_simp; exact hΦ
                    (try simp only [Act.put, List.setIfInBounds_toArray, List.set_cons_succ, List.set_cons_zero])
                    apply seq_op rfl
                    · intro Φ hΦ; first | (refine L_1 0 _ _ rfl (Try.isAgg25 _) rfl H rfl rfl ?_; exact hΦ) | (refine L_1 1 _ _ rfl (Try.isAgg25 _) rfl H rfl rfl ?_; exact hΦ) | (refine G_pNi 0 _ _ rfl (Try.isAgg25 _) rfl H rfl (Try.sizeOf25 _) ?_; exact hΦ) | (refine G_pNi 1 _ _ rfl (Try.isAgg25 _) rfl H rfl (Try.sizeOf25 _) ?_; exact hΦ) | (refine G_s1 _ _ rfl (Try.isAgg25 _) rfl H hC 0 rfl rfl ?_; exact hΦ) | (refine G_s1 _ _ rfl (Try.isAgg25 _) rfl H hC _ rfl rfl ?_; exact hΦ) | (refine G_sN _ _ rfl (Try.isAgg25 _) rfl H hC (Try.sizeOf25 _) ?_; exact hΦ)
                    (try simp only [Act.put, List.setIfInBounds_toArray, List.set_cons_succ, List.set_cons_zero])
                    refine OpG.list rfl ?_; refine SL_1 rfl rfl Try.underlying22 Try.sizeOf25 Try.zeroValue25 rfl rfl (by decide) (by decide) H ?_; clear H; intro b104 w1 H; (try simp only [Value.cells] at H)
                    (try simp only [Act.put, List.setIfInBounds_toArray, List.set_cons_succ, List.set_cons_zero])
                    refine OpG.list rfl ?_; refine AP_1 2 kOp_at _ _ rfl (show kOp.K s2 { o with has := true, list := readL o.key D } _ from kOp_mk hu (hkind) (hkey) (hval)) H rfl rfl rfl hroomT ?_; clear H; intro v105 w1 H; (try simp only [List.set_cons_succ, List.set_cons_zero] at H)
                    (try simp only [Act.put, List.setIfInBounds_toArray, List.set_cons_succ, List.set_cons_zero])
                    apply seq_op rfl
                    · intro Φ hΦ; go_simp; exact hΦ
                    (try simp only [Act.put, List.setIfInBounds_toArray, List.set_cons_succ, List.set_cons_zero])
                    refine list_end ?_
                    refine block_norm ?_
                    refine then_norm ?_
                    have hw := i64w (n := (k : Int) + 1) (by omega) (by omega)
                    refine wp_region_lit ?_
                    apply seq_op rfl
                    · intro Φ hΦ; go_simp; exact hΦ
                    (try simp only [Act.put, List.setIfInBounds_toArray, List.set_cons_succ, List.set_cons_zero])
                    apply seq_op rfl
                    · intro Φ hΦ; go_simp; exact hΦ
                    (try simp only [Act.put, List.setIfInBounds_toArray, List.set_cons_succ, List.set_cons_zero])
                    refine list_end ?_
                    refine then_norm ?_
                    have ht := told_r2 (D := D) hk1.out hk3.out hk2.out
                    refine ⟨⟨⟨rfl, rfl, rfl, rfl, rfl, rfl, rfl, rfl, rfl, rfl, rfl, rfl, rfl, rfl, rfl, rfl, rfl, rfl, rfl, rfl, rfl, rfl, rfl, rfl, rfl, rfl, rfl, rfl, rfl, rfl, rfl, rfl, rfl, rfl, rfl⟩, rfl⟩, ?_, by simp [intOf]; omega⟩
                    exact ⟨k + 1, D, T ++ [(⟨o.kind, o.key, o.value, readL o.key D, true, o.isNil⟩ : Op')], s2, by omega, by go_num, by rw [List.append_assoc, ← HR.out, hdr.out, served_cons, ht.1, ht.2]; rfl, by omega, by rw [List.length_append, List.length_singleton, hTl], hDv, (hs1.trans hs2), H.drop⟩
              · skip
                have hk2 := Lib.hid (show (o.kind == 2) = false from hc)
                refine wp_seq ?_
                refine wp_region_lit ?_
                apply seq_op rfl
                · intro Φ hΦ; go_simp; exact hΦ
                (try simp only [Act.put, List.setIfInBounds_toArray, List.set_cons_succ, List.set_cons_zero])
                apply seq_op rfl
                · intro Φ hΦ; go_simp; exact hΦ
                (try simp only [Act.put, List.setIfInBounds_toArray, List.set_cons_succ, List.set_cons_zero])
                refine list_end ?_
                refine then_norm ?_
                refine wp_cond_split rfl (fun hc => ?_) (fun hc => ?_)
                · skip
                  have hk4 := Lib.hid (show (o.kind == 4) = true from hc)
                  refine wp_seq ?_
                  refine wp_region_lit ?_
                  apply seq_op rfl
                  · intro Φ hΦ; go_simp; exact hΦ
                  (try simp only [Act.put, List.setIfInBounds_toArray, List.set_cons_succ, List.set_cons_zero])
                  refine OpG.list rfl ?_; first | (refine S_1c 0 _ _ rfl (Try.sizeOf4 _) rfl H rfl ?_ ?_ ?_; (focus (first | (simp [Value.oneCell']; done) | assumption)); (focus (simp; done))) | (refine G_setNi 0 _ _ _ rfl (Try.sizeOf4 _) rfl rfl ?_ H rfl rfl ?_; (focus (first | (simp [Value.oneCell']; done) | assumption))) | (refine S_1c 1 _ _ rfl (Try.sizeOf4 _) rfl H rfl ?_ ?_ ?_; (focus (first | (simp [Value.oneCell']; done) | assumption)); (focus (simp; done))) | (refine G_setNi 1 _ _ _ rfl (Try.sizeOf4 _) rfl rfl ?_ H rfl rfl ?_; (focus (first | (simp [Value.oneCell']; done) | assumption)))
                  clear H; intro w1 H; simp only [List.set_cons_succ, List.set_cons_zero] at H
                  apply seq_op rfl
                  · intro Φ hΦ; go_simp; exact hΦ
                  (try simp only [Act.put, List.setIfInBounds_toArray, List.set_cons_succ, List.set_cons_zero])
                  refine OpG.list rfl ?_; first | (refine S_1c 0 _ _ rfl (Try.sizeOf4 _) rfl H rfl ?_ ?_ ?_; (focus (first | (simp [Value.oneCell']; done) | assumption)); (focus (simp; done))) | (refine G_setNi 0 _ _ _ rfl (Try.sizeOf4 _) rfl rfl ?_ H rfl rfl ?_; (focus (first | (simp [Value.oneCell']; done) | assumption))) | (refine S_1c 1 _ _ rfl (Try.sizeOf4 _) rfl H rfl ?_ ?_ ?_; (focus (first | (simp [Value.oneCell']; done) | assumption)); (focus (simp; done))) | (refine G_setNi 1 _ _ _ rfl (Try.sizeOf4 _) rfl rfl ?_ H rfl rfl ?_; (focus (first | (simp [Value.oneCell']; done) | assumption)))
                  clear H; intro w1 H; simp only [List.set_cons_succ, List.set_cons_zero] at H
                  refine list_end ?_
                  refine then_norm ?_
                  refine wp_seq ?_
                  obtain ⟨A5, c5, h5, hd1, hd2, hd3⟩ := (H.swap).addr0
                  have HF := Lib.hid h5
                  simp only [h5] at H
                  simp only [h5]
                  clear h5
                  have hd2' : D.length * 64 ≤ 140737488355328 := hd2
                  clear hd2
                  obtain ⟨v6, hv6⟩ : ∃ v6, f 6 = v6 := ⟨_, rfl⟩
                  simp only [hv6] at H
                  simp only [hv6]
                  clear hv6
                  refine wp_region_lit ?_
                  apply seq_op rfl
                  · intro Φ hΦ; go_simp; exact hΦ
                  (try simp only [Act.put, List.setIfInBounds_toArray, List.set_cons_succ, List.set_cons_zero])
                  apply seq_op rfl
                  · intro Φ hΦ; go_simp; exact hΦ
                  (try simp only [Act.put, List.setIfInBounds_toArray, List.set_cons_succ, List.set_cons_zero])
                  apply seq_op rfl
                  · intro Φ hΦ; go_simp; exact hΦ
                  (try simp only [Act.put, List.setIfInBounds_toArray, List.set_cons_succ, List.set_cons_zero])
                  refine list_end ?_
                  refine then_norm ?_
                  refine wp_block ?_
                  refine wp_loopF [none, none, none, none, none, none, none, none, none, none, none, none, none, none, some 14, none, none, none, none, none, none, none, none, none, none, none, none, none, none, none, none, none, none, none, none, none, none, none, none, none, none, none, none, none, none, none, none, none, none, none, none, none, none, none, none, none, none, none, none, none, none, none, none, none, none, none, none, none, none, none, none, none, none, none, none, none, none, none, none, none, none, none, none, some 83, some 84, some 85, some 86, some 87, some 88, some 89, some 90, some 91, some 92, some 93, some 94, some 95, some 96, some 97, some 98, some 99, some 100, some 101, none, none, none, none, none, none, none, none] rfl (by simp) (fun f w => ∃ j : Nat, ∃ nb : Bool, ∃ vb : Int, j ≤ D.length ∧ f 83 = .int .i64 j ∧ getR o.key (nb, vb) (D.drop j) = getR o.key (true, o.value) D ∧ Holds E s1 (pt b10 (.cells #[.int .i64 o.kind, .string o.key, .int .i64 vb, (.slice Al o.list.length cl), .bool true, .bool nb] 25 (0, 0)) :: (kOp.sh s1).Osl (.slice A5 D.length c5) D :: (kOp.sh s1).Osl v6 T :: L) w) (fun f w => D.length - (intOf (f 83)).toNat) ?_ ?_
                  · skip
                    exact ⟨0, true, o.value, Nat.zero_le _, rfl, by rw [List.drop_zero], H⟩
                  · intro f w hI
                    clear H
                    obtain ⟨j, nb, vb, hj, h83, hZ, H⟩ := hI
                    have HZ := Lib.hid hZ
                    clear hZ
                    simp only [ovm, mixM]
                    simp only [h83]
                    clear h83
                    refine wp_seq ?_
                    refine wp_region_lit ?_
                    apply seq_op rfl
                    · intro Φ hΦ; go_simp; exact hΦ
                    (try simp only [Act.put, List.setIfInBounds_toArray, List.set_cons_succ, List.set_cons_zero])
                    refine list_end ?_
                    refine then_norm ?_
                    refine wp_seq ?_
                    refine wp_cond_split rfl (fun hc => ?_) (fun hc => ?_)
                    · skip
                      refine wp_skip ?_
                      refine then_norm ?_
                      refine wp_seq ?_
                      refine wp_block ?_
                      refine wp_seq ?_
                      have hlt2 : j < D.length := by simpa using hc
                      obtain ⟨b5, rfl⟩ := hd3 (fun e => by rw [e] at hlt2; simp at hlt2)
                      obtain ⟨q, Aq, cq, hdq0, hmemq, hcell, hql, hkindq, hkeyq, hvalq⟩ := ownOp (H.front 1 rfl) j hlt2
                      have hdq := Lib.hid hdq0
                      clear hdq0
                      refine wp_region_lit ?_
                      apply seq_op rfl
                      · intro Φ hΦ; go_simp; exact hΦ
                      (try simp only [Act.put, List.setIfInBounds_toArray, List.set_cons_succ, List.set_cons_zero])
                      apply seq_op rfl
                      · intro Φ hΦ; first | (refine G_agg _ _ rfl (Try.isAgg25 _) (c := [.int .i64 q.kind, .string q.key, .int .i64 q.value, .slice Aq q.list.length cq, .bool q.has, .bool q.isNil]) (Try.sizeOf25 _) rfl hcell hΦ)
                      (try simp only [Act.put, List.setIfInBounds_toArray, List.set_cons_succ, List.set_cons_zero])
                      refine OpG.list rfl ?_; refine G_alloc 25 rfl (Try.zeroValue25 _) H ?_; clear H; intro b14 w1 H; (try simp only [Value.cells] at H)
                      (try simp only [Act.put, List.setIfInBounds_toArray, List.set_cons_succ, List.set_cons_zero])
                      refine OpG.list rfl ?_; first | (refine S_1 0 _ _ _ rfl (Try.sizeOf25 _) rfl rfl H rfl ?_ ?_ ?_; (focus (first | (simp [Value.oneCell']; done) | assumption)); (focus (simp; done))) | (refine G_setNi 0 _ _ _ rfl (Try.sizeOf25 _) rfl rfl ?_ H rfl rfl ?_; (focus (first | (simp [Value.oneCell']; done) | assumption))) | (refine S_1 1 _ _ _ rfl (Try.sizeOf25 _) rfl rfl H rfl ?_ ?_ ?_; (focus (first | (simp [Value.oneCell']; done) | assumption)); (focus (simp; done))) | (refine G_setNi 1 _ _ _ rfl (Try.sizeOf25 _) rfl rfl ?_ H rfl rfl ?_; (focus (first | (simp [Value.oneCell']; done) | assumption)))
                      clear H; intro w1 H; simp only [List.set_cons_succ, List.set_cons_zero] at H
                      refine list_end ?_
                      refine then_norm ?_
                      refine wp_seq ?_
                      refine wp_plain_obO (k := 10) (sz := 110) (List.replicate 10 10) (fun _ => []) rfl rfl (by kernel_rfl) (by kernel_rfl) H (by simp only [List.take_succ_cons, List.take_zero]; exact rfl)
                        (fun y => by simp only [ov, Act.put, List.setIfInBounds_toArray, List.set_cons_succ, List.set_cons_zero, Nat.zero_add, Nat.reduceAdd]; exact rfl) ?_
                      apply ObO.valw
                      · intro x; rfl
                      · intro s' w' y Φ R hs H hG hΦ; skip; refine wantG rfl ?_; (go_simp; exact hΦ _ _ (Sub.refl _) H)
                      apply ObO.valw
                      · intro x; rfl
                      · intro s' w' y Φ R hs H hG hΦ; simp only [List.nil_append, List.cons_append] at hG; have e0 : y 0 = _ := dh_get hG 0 rfl (by kernel_rfl); simp only [e0]; refine wantG rfl ?_; first | (refine L_1 0 _ _ rfl (Try.isAgg3 _) rfl H rfl rfl ?_; exact hΦ _ _ (Sub.refl _) H) | (refine L_1 1 _ _ rfl (Try.isAgg3 _) rfl H rfl rfl ?_; exact hΦ _ _ (Sub.refl _) H) | (refine G_pNi 0 _ _ rfl (Try.isAgg3 _) rfl H rfl (Try.sizeOf3 _) ?_; exact hΦ _ _ (Sub.refl _) H) | (refine G_pNi 1 _ _ rfl (Try.isAgg3 _) rfl H rfl (Try.sizeOf3 _) ?_; exact hΦ _ _ (Sub.refl _) H) | (refine G_s1 _ _ rfl (Try.isAgg3 _) rfl H (hC.mono hs) 0 rfl rfl ?_; exact hΦ _ _ (Sub.refl _) H) | (refine G_s1 _ _ rfl (Try.isAgg3 _) rfl H (hC.mono hs) _ rfl rfl ?_; exact hΦ _ _ (Sub.refl _) H) | (refine G_sN _ _ rfl (Try.isAgg3 _) rfl H (hC.mono hs) (Try.sizeOf3 _) ?_; exact hΦ _ _ (Sub.refl _) H)
                      apply ObO.valw
                      · intro x; rfl
                      · intro s' w' y Φ R hs H hG hΦ; simp only [List.nil_append, List.cons_append] at hG; have e1 : y 1 = _ := dh_get hG 1 rfl (by kernel_rfl); simp only [e1]; refine wantG rfl ?_; (go_simp; exact hΦ _ _ (Sub.refl _) H)
                      apply ObO.valw
                      · intro x; rfl
                      · intro s' w' y Φ R hs H hG hΦ; simp only [List.nil_append, List.cons_append] at hG; have e2 : y 2 = _ := dh_get hG 2 rfl (by kernel_rfl); simp only [e2]; refine wantG rfl ?_; (go_simp; exact hΦ _ _ (Sub.refl _) H)
                      apply ObO.valg
                      · intro x; rfl
                      · intro s' y hG; simp only [List.nil_append, List.cons_append] at hG; have eg : y 3 = _ := dh_get hG 3 rfl (by kernel_rfl); simp only [eg]; first | exact wanted_t rfl rfl rfl | exact wanted_vt rfl rfl rfl
                      · intro hc s' w' y Φ R hs H hG hΦ; have HC := Lib.hid hc; clear hc; skip; (go_simp; exact hΦ _ _ (Sub.refl _) H)
                      apply ObO.valg
                      · intro x; rfl
                      · intro s' y hG; simp only [List.nil_append, List.cons_append] at hG; have eg : y 3 = _ := dh_get hG 3 rfl (by kernel_rfl); simp only [eg]; first | exact wanted_t rfl rfl rfl | exact wanted_vt rfl rfl rfl
                      · intro hc s' w' y Φ R hs H hG hΦ; simp only [List.nil_append, List.cons_append] at hG; have e4 : y 4 = _ := dh_get hG 4 rfl (by kernel_rfl); (first | rw [vg_of hc] at e4 | rw [vg_of (and_l hc)] at e4 | rw [vg_of (and_l (and_l hc))] at e4 | rw [vg_of (and_l (and_l (and_l hc)))] at e4 | rw [vg_and hc] at e4 | skip); have HC := Lib.hid hc; clear hc; simp only [e4]; first | (refine L_1 0 _ _ rfl (Try.isAgg9 _) rfl H rfl rfl ?_; exact hΦ _ _ (Sub.refl _) H) | (refine L_1 1 _ _ rfl (Try.isAgg9 _) rfl H rfl rfl ?_; exact hΦ _ _ (Sub.refl _) H) | (refine G_pNi 0 _ _ rfl (Try.isAgg9 _) rfl H rfl (Try.sizeOf9 _) ?_; exact hΦ _ _ (Sub.refl _) H) | (refine G_pNi 1 _ _ rfl (Try.isAgg9 _) rfl H rfl (Try.sizeOf9 _) ?_; exact hΦ _ _ (Sub.refl _) H) | (refine G_s1 _ _ rfl (Try.isAgg9 _) rfl H (hC.mono hs) 0 rfl rfl ?_; exact hΦ _ _ (Sub.refl _) H) | (refine G_s1 _ _ rfl (Try.isAgg9 _) rfl H (hC.mono hs) _ rfl rfl ?_; exact hΦ _ _ (Sub.refl _) H) | (refine G_sN _ _ rfl (Try.isAgg9 _) rfl H (hC.mono hs) (Try.sizeOf9 _) ?_; exact hΦ _ _ (Sub.refl _) H)
                      apply ObO.valg
                      · intro x; rfl
                      · intro s' y hG; simp only [List.nil_append, List.cons_append] at hG; have eg : y 3 = _ := dh_get hG 3 rfl (by kernel_rfl); simp only [eg]; first | exact wanted_t rfl rfl rfl | exact wanted_vt rfl rfl rfl
                      · intro hc s' w' y Φ R hs H hG hΦ; have HC := Lib.hid hc; clear hc; skip; (go_simp; exact hΦ _ _ (Sub.refl _) H)
                      apply ObO.valg
                      · intro x; rfl
                      · intro s' y hG; simp only [List.nil_append, List.cons_append] at hG; have eg : y 3 = _ := dh_get hG 3 rfl (by kernel_rfl); simp only [eg]; first | exact wanted_t rfl rfl rfl | exact wanted_vt rfl rfl rfl
                      · intro hc s' w' y Φ R hs H hG hΦ; simp only [List.nil_append, List.cons_append] at hG; have e6 : y 6 = _ := dh_get hG 6 rfl (by kernel_rfl); (first | rw [vg_of hc] at e6 | rw [vg_of (and_l hc)] at e6 | rw [vg_of (and_l (and_l hc))] at e6 | rw [vg_of (and_l (and_l (and_l hc)))] at e6 | rw [vg_and hc] at e6 | skip); have HC := Lib.hid hc; clear hc; simp only [e6]; first | (refine L_1 0 _ _ rfl (Try.isAgg9 _) rfl H rfl rfl ?_; exact hΦ _ _ (Sub.refl _) H) | (refine L_1 1 _ _ rfl (Try.isAgg9 _) rfl H rfl rfl ?_; exact hΦ _ _ (Sub.refl _) H) | (refine G_pNi 0 _ _ rfl (Try.isAgg9 _) rfl H rfl (Try.sizeOf9 _) ?_; exact hΦ _ _ (Sub.refl _) H) | (refine G_pNi 1 _ _ rfl (Try.isAgg9 _) rfl H rfl (Try.sizeOf9 _) ?_; exact hΦ _ _ (Sub.refl _) H) | (refine G_s1 _ _ rfl (Try.isAgg9 _) rfl H (hC.mono hs) 0 rfl rfl ?_; exact hΦ _ _ (Sub.refl _) H) | (refine G_s1 _ _ rfl (Try.isAgg9 _) rfl H (hC.mono hs) _ rfl rfl ?_; exact hΦ _ _ (Sub.refl _) H) | (refine G_sN _ _ rfl (Try.isAgg9 _) rfl H (hC.mono hs) (Try.sizeOf9 _) ?_; exact hΦ _ _ (Sub.refl _) H)
                      apply ObO.valg
                      · intro x; rfl
                      · intro s' y hG; simp only [List.nil_append, List.cons_append] at hG; have eg : y 3 = _ := dh_get hG 3 rfl (by kernel_rfl); simp only [eg]; first | exact wanted_t rfl rfl rfl | exact wanted_vt rfl rfl rfl
                      · intro hc s' w' y Φ R hs H hG hΦ; simp only [List.nil_append, List.cons_append] at hG; have e5 : y 5 = _ := dh_get hG 5 rfl (by kernel_rfl); have e7 : y 7 = _ := dh_get hG 7 rfl (by kernel_rfl); (first | rw [vg_of hc] at e5 | rw [vg_of (and_l hc)] at e5 | rw [vg_of (and_l (and_l hc))] at e5 | rw [vg_of (and_l (and_l (and_l hc)))] at e5 | rw [vg_and hc] at e5 | skip); (first | rw [vg_of hc] at e7 | rw [vg_of (and_l hc)] at e7 | rw [vg_of (and_l (and_l hc))] at e7 | rw [vg_of (and_l (and_l (and_l hc)))] at e7 | rw [vg_and hc] at e7 | skip); have HC := Lib.hid hc; clear hc; simp only [e5, e7]; (go_simp; exact hΦ _ _ (Sub.refl _) H)
                      apply ObO.valw
                      · intro x; rfl
                      · intro s' w' y Φ R hs H hG hΦ; simp only [List.nil_append, List.cons_append] at hG; have e3 : y 3 = _ := dh_get hG 3 rfl (by kernel_rfl); have e8 : y 8 = _ := dh_get hG 8 rfl (by kernel_rfl); simp only [e3, e8]; refine wantG rfl ?_; (refine G_and _ _ _ rfl rfl rfl rfl ?_; exact hΦ _ _ (Sub.refl _) H)
                      clear H
                      intro s3 w3 yy hs3 H hG
                      replace H := (show Holds _ _ ([] ++ _) _ from H); rw [List.nil_append] at H
                      simp only [List.nil_append, List.cons_append] at hG
                      have e0 : yy 0 = _ := gh_get hG 0 rfl
                      have e1 : yy 1 = _ := gh_get hG 1 rfl
                      have e2 : yy 2 = _ := gh_get hG 2 rfl
                      have e3 : yy 3 = _ := gh_get hG 3 rfl
                      have e4 : yy 4 = _ := gh_get hG 4 rfl
                      have e5 : yy 5 = _ := gh_get hG 5 rfl
                      have e6 : yy 6 = _ := gh_get hG 6 rfl
                      have e7 : yy 7 = _ := gh_get hG 7 rfl
                      have e8 : yy 8 = _ := gh_get hG 8 rfl
                      have e9 : yy 9 = _ := gh_get hG 9 rfl
                      simp only [e0, e1, e2, e3, e4, e5, e6, e7, e8, e9]
                      clear hG e0 e1 e2 e3 e4 e5 e6 e7 e8 e9
                      replace H := H.forget hs3
                      refine list_end ?_
                      refine then_norm ?_
                      refine wp_cond_split rfl (fun hc => ?_) (fun hc => ?_)
                      · skip
                        replace H := H.swap
                        refine wp_draw_obO (k := 4) (sz := 110) [4, 4, 4, 4] (fun i => if i = 3 then [pt b10 (.cells #[.int .i64 o.kind, .string o.key, .int .i64 vb, (.slice Al o.list.length cl), .bool true, .bool nb] 25 (0, 0))] else []) mixed (by simp) rfl (by kernel_rfl) (by kernel_rfl) (by kernel_rfl) H (by simp only [List.take_succ_cons, List.take_zero]; exact rfl) (by simp only [List.drop_succ_cons, List.drop_zero]; exact rfl)
                          (fun y => by simp only [ov, Act.put, List.setIfInBounds_toArray, List.set_cons_succ, List.set_cons_zero, Nat.zero_add, Nat.reduceAdd]; exact rfl) ?_
                        apply ObO.valw
                        · intro x; rfl
                        · intro s' w' y Φ R hs H hG hΦ; skip; refine wantG rfl ?_; (go_simp; exact hΦ _ _ (Sub.refl _) H)
                        apply ObO.valw
                        · intro x; rfl
                        · intro s' w' y Φ R hs H hG hΦ; simp only [List.nil_append, List.cons_append] at hG; have e0 : y 0 = _ := dh_get hG 0 rfl (by kernel_rfl); simp only [e0]; refine wantG rfl ?_; first | (refine L_1 0 _ _ rfl (Try.isAgg3 _) rfl H rfl rfl ?_; exact hΦ _ _ (Sub.refl _) H) | (refine L_1 1 _ _ rfl (Try.isAgg3 _) rfl H rfl rfl ?_; exact hΦ _ _ (Sub.refl _) H) | (refine G_pNi 0 _ _ rfl (Try.isAgg3 _) rfl H rfl (Try.sizeOf3 _) ?_; exact hΦ _ _ (Sub.refl _) H) | (refine G_pNi 1 _ _ rfl (Try.isAgg3 _) rfl H rfl (Try.sizeOf3 _) ?_; exact hΦ _ _ (Sub.refl _) H) | (refine G_s1 _ _ rfl (Try.isAgg3 _) rfl H (hC.mono hs) 0 rfl rfl ?_; exact hΦ _ _ (Sub.refl _) H) | (refine G_s1 _ _ rfl (Try.isAgg3 _) rfl H (hC.mono hs) _ rfl rfl ?_; exact hΦ _ _ (Sub.refl _) H) | (refine G_sN _ _ rfl (Try.isAgg3 _) rfl H (hC.mono hs) (Try.sizeOf3 _) ?_; exact hΦ _ _ (Sub.refl _) H)
                        apply ObO.valw
                        · intro x; rfl
                        · intro s' w' y Φ R hs H hG hΦ; skip; refine wantG rfl ?_; (go_simp; exact hΦ _ _ (Sub.refl _) H)
                        refine ObO.own (fun _ _ => True) (fun v => [pt b10 (.cells #[.int .i64 o.kind, .string o.key, .int .i64 vb, (.slice Al o.list.length cl), .bool true, .bool false] 25 (0, 0))]) (fun _ _ _ _ h => h) ?_ ?_
                        · intro s' w' y Φ R hs H hG hΦ
                          replace H : Holds E s' (pt b10 (.cells #[.int .i64 o.kind, .string o.key, .int .i64 vb, (.slice Al o.list.length cl), .bool true, .bool nb] 25 (0, 0)) :: ((pt b14 (.cells #[.int .i64 q.kind, .string q.key, .int .i64 q.value, (.slice Aq q.list.length cq), .bool q.has, .bool q.isNil] 25 (0, 0)) :: (kOp.sh s1).Osl (.slice (some ⟨b5, 0, none⟩) D.length c5) D :: (kOp.sh s1).Osl v6 T :: L) ++ R)) w' := H
                          simp only [List.nil_append, List.cons_append] at hG; have e2 : y 2 = _ := dh_get hG 2 rfl (by kernel_rfl); (try simp only [e2])
                          refine wantY rfl ?_
                          refine S_1c 0 _ _ rfl (Try.sizeOf4 _) rfl H rfl rfl (by simp) ?_
                          intro w5 H
                          exact hΦ _ _ _ (Sub.refl _) H trivial
                        clear H
                        intro s3 w3 yy hs3 H hG
                        replace H : Holds E s3 (pt b10 (.cells #[.int .i64 o.kind, .string o.key, .int .i64 vb, (.slice Al o.list.length cl), .bool true, .bool false] 25 (0, 0)) :: pt b14 (.cells #[.int .i64 q.kind, .string q.key, .int .i64 q.value, (.slice Aq q.list.length cq), .bool q.has, .bool q.isNil] 25 (0, 0)) :: (kOp.sh s1).Osl (.slice (some ⟨b5, 0, none⟩) D.length c5) D :: (kOp.sh s1).Osl v6 T :: L) w3 := H
                        simp only [List.nil_append, List.cons_append] at hG
                        have e0 : yy 0 = _ := gh_get hG 0 rfl
                        have e1 : yy 1 = _ := gh_get hG 1 rfl
                        have e2 : yy 2 = _ := gh_get hG 2 rfl
                        simp only [e0, e1, e2]
                        clear hG e0 e1 e2
                        replace H := H.forget hs3
                        apply seq_op rfl
                        · intro Φ hΦ; go_simp; exact hΦ
                        (try simp only [Act.put, List.setIfInBounds_toArray, List.set_cons_succ, List.set_cons_zero])
                        refine OpG.list rfl ?_; first | (refine S_1 0 _ _ _ rfl (Try.sizeOf3 _) rfl rfl H rfl ?_ ?_ ?_; (focus (first | (simp [Value.oneCell']; done) | assumption)); (focus (simp; done))) | (refine G_setNi 0 _ _ _ rfl (Try.sizeOf3 _) rfl rfl ?_ H rfl rfl ?_; (focus (first | (simp [Value.oneCell']; done) | assumption))) | (refine S_1 1 _ _ _ rfl (Try.sizeOf3 _) rfl rfl H rfl ?_ ?_ ?_; (focus (first | (simp [Value.oneCell']; done) | assumption)); (focus (simp; done))) | (refine G_setNi 1 _ _ _ rfl (Try.sizeOf3 _) rfl rfl ?_ H rfl rfl ?_; (focus (first | (simp [Value.oneCell']; done) | assumption)))
                        clear H; intro w1 H; simp only [List.set_cons_succ, List.set_cons_zero] at H
                        refine list_end ?_
                        refine block_norm ?_
                        refine then_norm ?_
                        have hw := i64w (n := (j : Int) + 1) (by omega) (by omega)
                        refine wp_region_lit ?_
                        apply seq_op rfl
                        · intro Φ hΦ; go_simp; exact hΦ
                        (try simp only [Act.put, List.setIfInBounds_toArray, List.set_cons_succ, List.set_cons_zero])
                        apply seq_op rfl
                        · intro Φ hΦ; go_simp; exact hΦ
                        (try simp only [Act.put, List.setIfInBounds_toArray, List.set_cons_succ, List.set_cons_zero])
                        refine list_end ?_
                        refine then_norm ?_
                        refine ⟨⟨⟨rfl, rfl, rfl, rfl, rfl, rfl, rfl, rfl, rfl, rfl, rfl, rfl, rfl, rfl, rfl, rfl, rfl, rfl, rfl, rfl, rfl, rfl, rfl, rfl, rfl, rfl, rfl, rfl, rfl, rfl, rfl, rfl, rfl, rfl, rfl, rfl, rfl, rfl, rfl, rfl, rfl, rfl, rfl, rfl, rfl, rfl, rfl, rfl, rfl, rfl, rfl, rfl, rfl, rfl, rfl, rfl, rfl, rfl, rfl, rfl, rfl, rfl, rfl, rfl, rfl, rfl, rfl, rfl, rfl, rfl, rfl, rfl, rfl, rfl, rfl, rfl, rfl, rfl, rfl, rfl, rfl, rfl, rfl, rfl, rfl, rfl, rfl, rfl, rfl, rfl, rfl⟩, rfl⟩, ?_, by simp [intOf]; omega⟩
                        exact ⟨j + 1, false, q.value, by omega, by go_num, by rw [← HZ.out, hdq.out]; simp only [getR]; rw [if_pos (by exact hc)], H.swap.drop⟩
                      · skip
                        refine wp_skip ?_
                        refine block_norm ?_
                        refine then_norm ?_
                        have hw := i64w (n := (j : Int) + 1) (by omega) (by omega)
                        refine wp_region_lit ?_
                        apply seq_op rfl
                        · intro Φ hΦ; go_simp; exact hΦ
                        (try simp only [Act.put, List.setIfInBounds_toArray, List.set_cons_succ, List.set_cons_zero])
                        apply seq_op rfl
                        · intro Φ hΦ; go_simp; exact hΦ
                        (try simp only [Act.put, List.setIfInBounds_toArray, List.set_cons_succ, List.set_cons_zero])
                        refine list_end ?_
                        refine then_norm ?_
                        refine ⟨⟨⟨rfl, rfl, rfl, rfl, rfl, rfl, rfl, rfl, rfl, rfl, rfl, rfl, rfl, rfl, rfl, rfl, rfl, rfl, rfl, rfl, rfl, rfl, rfl, rfl, rfl, rfl, rfl, rfl, rfl, rfl, rfl, rfl, rfl, rfl, rfl, rfl, rfl, rfl, rfl, rfl, rfl, rfl, rfl, rfl, rfl, rfl, rfl, rfl, rfl, rfl, rfl, rfl, rfl, rfl, rfl, rfl, rfl, rfl, rfl, rfl, rfl, rfl, rfl, rfl, rfl, rfl, rfl, rfl, rfl, rfl, rfl, rfl, rfl, rfl, rfl, rfl, rfl, rfl, rfl, rfl, rfl, rfl, rfl, rfl, rfl, rfl, rfl, rfl, rfl, rfl, rfl⟩, rfl⟩, ?_, by simp [intOf]; omega⟩
                        exact ⟨j + 1, nb, vb, by omega, by go_num, by rw [← HZ.out, hdq.out]; simp only [getR]; rw [if_neg (nt (by exact hc))], H.drop⟩
                    · skip
                      have hfin : j = D.length := by
                        have : ¬ j < D.length := by simpa using hc
                        omega
                      subst hfin
                      have hys := HZ.out
                      rw [List.drop_length] at hys
                      have hys2 : getR o.key (true, o.value) D = (nb, vb) := hys.symm
                      have hvb : Kin.inI64 vb := by have := getR_ok o.key D (true, o.value) hval hDv; rw [hys2] at this; exact this
                      have HG := Lib.hid hys2
                      clear hys hys2 HZ
                      refine wp_exit ?_
                      refine then_exit ?_
                      refine then_exit ?_
                      refine block_exit ?_
                      refine block_norm ?_
                      refine then_norm ?_
                      have hroomT : (T.length + 1) * kOp.by_ ≤ 140737488355328 := by show (T.length + 1) * 64 ≤ _; omega
                      refine wp_region_lit ?_
                      apply seq_op rfl
                      · intro Φ hΦ; go_simp; exact hΦ
                      (try simp only [Act.put, List.setIfInBounds_toArray, List.set_cons_succ, List.set_cons_zero])
                      apply seq_op rfl
                      · intro Φ hΦ; first | (refine L_1 0 _ _ rfl (Try.isAgg25 _) rfl H rfl rfl ?_; exact hΦ) | (refine L_1 1 _ _ rfl (Try.isAgg25 _) rfl H rfl rfl ?_; exact hΦ) | (refine G_pNi 0 _ _ rfl (Try.isAgg25 _) rfl H rfl (Try.sizeOf25 _) ?_; exact hΦ) | (refine G_pNi 1 _ _ rfl (Try.isAgg25 _) rfl H rfl (Try.sizeOf25 _) ?_; exact hΦ) | (refine G_s1 _ _ rfl (Try.isAgg25 _) rfl H hC 0 rfl rfl ?_; exact hΦ) | (refine G_s1 _ _ rfl (Try.isAgg25 _) rfl H hC _ rfl rfl ?_; exact hΦ) | (refine G_sN _ _ rfl (Try.isAgg25 _) rfl H hC (Try.sizeOf25 _) ?_; exact hΦ)
                      (try simp only [Act.put, List.setIfInBounds_toArray, List.set_cons_succ, List.set_cons_zero])
                      refine OpG.list rfl ?_; refine SL_1 rfl rfl Try.underlying22 Try.sizeOf25 Try.zeroValue25 rfl rfl (by decide) (by decide) H ?_; clear H; intro b104 w1 H; (try simp only [Value.cells] at H)
                      (try simp only [Act.put, List.setIfInBounds_toArray, List.set_cons_succ, List.set_cons_zero])
                      refine OpG.list rfl ?_; refine AP_1 2 kOp_at _ _ rfl (show kOp.K s1 { o with has := true, isNil := (getR o.key (true, o.value) D).1, value := (getR o.key (true, o.value) D).2 } _ from by rw [HG.out]; exact kOp_mk (hol.mono (Sub.refl _)) hkind hkey hvb) H rfl rfl rfl hroomT ?_; clear H; intro v105 w1 H; (try simp only [List.set_cons_succ, List.set_cons_zero] at H)
                      (try simp only [Act.put, List.setIfInBounds_toArray, List.set_cons_succ, List.set_cons_zero])
                      apply seq_op rfl
                      · intro Φ hΦ; go_simp; exact hΦ
                      (try simp only [Act.put, List.setIfInBounds_toArray, List.set_cons_succ, List.set_cons_zero])
                      refine list_end ?_
                      refine block_norm ?_
                      refine then_norm ?_
                      have hw := i64w (n := (k : Int) + 1) (by omega) (by omega)
                      refine wp_region_lit ?_
                      apply seq_op rfl
                      · intro Φ hΦ; go_simp; exact hΦ
                      (try simp only [Act.put, List.setIfInBounds_toArray, List.set_cons_succ, List.set_cons_zero])
                      apply seq_op rfl
                      · intro Φ hΦ; go_simp; exact hΦ
                      (try simp only [Act.put, List.setIfInBounds_toArray, List.set_cons_succ, List.set_cons_zero])
                      refine list_end ?_
                      refine then_norm ?_
                      have ht := told_g4 (D := D) hk1.out hk3.out hk2.out hk4.out
                      refine ⟨⟨⟨rfl, rfl, rfl, rfl, rfl, rfl, rfl, rfl, rfl, rfl, rfl, rfl, rfl, rfl, rfl, rfl, rfl, rfl, rfl, rfl, rfl, rfl, rfl, rfl, rfl, rfl, rfl, rfl, rfl, rfl, rfl, rfl, rfl, rfl, rfl⟩, rfl⟩, ?_, by simp [intOf]; omega⟩
                      exact ⟨k + 1, D, T ++ [(⟨o.kind, o.key, (getR o.key (true, o.value) D).2, o.list, true, (getR o.key (true, o.value) D).1⟩ : Op')], s1, by omega, by go_num, by rw [List.append_assoc, ← HR.out, hdr.out, served_cons, ht.1, ht.2]; rfl, by omega, by rw [List.length_append, List.length_singleton, hTl], hDv, hs1, H.drop⟩
                · skip
                  have hk4 := Lib.hid (show (o.kind == 4) = false from hc)
                  refine wp_skip ?_
                  refine block_norm ?_
                  refine then_norm ?_
                  have hroomT : (T.length + 1) * kOp.by_ ≤ 140737488355328 := by show (T.length + 1) * 64 ≤ _; omega
                  refine wp_region_lit ?_
                  apply seq_op rfl
                  · intro Φ hΦ; go_simp; exact hΦ
                  (try simp only [Act.put, List.setIfInBounds_toArray, List.set_cons_succ, List.set_cons_zero])
                  apply seq_op rfl
                  · intro Φ hΦ; first | (refine L_1 0 _ _ rfl (Try.isAgg25 _) rfl H rfl rfl ?_; exact hΦ) | (refine L_1 1 _ _ rfl (Try.isAgg25 _) rfl H rfl rfl ?_; exact hΦ) | (refine G_pNi 0 _ _ rfl (Try.isAgg25 _) rfl H rfl (Try.sizeOf25 _) ?_; exact hΦ) | (refine G_pNi 1 _ _ rfl (Try.isAgg25 _) rfl H rfl (Try.sizeOf25 _) ?_; exact hΦ) | (refine G_s1 _ _ rfl (Try.isAgg25 _) rfl H hC 0 rfl rfl ?_; exact hΦ) | (refine G_s1 _ _ rfl (Try.isAgg25 _) rfl H hC _ rfl rfl ?_; exact hΦ) | (refine G_sN _ _ rfl (Try.isAgg25 _) rfl H hC (Try.sizeOf25 _) ?_; exact hΦ)
                  (try simp only [Act.put, List.setIfInBounds_toArray, List.set_cons_succ, List.set_cons_zero])
                  refine OpG.list rfl ?_; refine SL_1 rfl rfl Try.underlying22 Try.sizeOf25 Try.zeroValue25 rfl rfl (by decide) (by decide) H ?_; clear H; intro b104 w1 H; (try simp only [Value.cells] at H)
                  (try simp only [Act.put, List.setIfInBounds_toArray, List.set_cons_succ, List.set_cons_zero])
                  refine OpG.list rfl ?_; refine AP_1 2 kOp_at _ _ rfl (kOp_mk (hol) hkind hkey hval) H rfl rfl rfl hroomT ?_; clear H; intro v105 w1 H; (try simp only [List.set_cons_succ, List.set_cons_zero] at H)
                  (try simp only [Act.put, List.setIfInBounds_toArray, List.set_cons_succ, List.set_cons_zero])
                  apply seq_op rfl
                  · intro Φ hΦ; go_simp; exact hΦ
                  (try simp only [Act.put, List.setIfInBounds_toArray, List.set_cons_succ, List.set_cons_zero])
                  refine list_end ?_
                  refine block_norm ?_
                  refine then_norm ?_
                  have hw := i64w (n := (k : Int) + 1) (by omega) (by omega)
                  refine wp_region_lit ?_
                  apply seq_op rfl
                  · intro Φ hΦ; go_simp; exact hΦ
                  (try simp only [Act.put, List.setIfInBounds_toArray, List.set_cons_succ, List.set_cons_zero])
                  apply seq_op rfl
                  · intro Φ hΦ; go_simp; exact hΦ
                  (try simp only [Act.put, List.setIfInBounds_toArray, List.set_cons_succ, List.set_cons_zero])
                  refine list_end ?_
                  refine then_norm ?_
                  have ht := told_no (D := D) hk1.out hk3.out hk2.out hk4.out
                  refine ⟨⟨⟨rfl, rfl, rfl, rfl, rfl, rfl, rfl, rfl, rfl, rfl, rfl, rfl, rfl, rfl, rfl, rfl, rfl, rfl, rfl, rfl, rfl, rfl, rfl, rfl, rfl, rfl, rfl, rfl, rfl, rfl, rfl, rfl, rfl, rfl, rfl⟩, rfl⟩, ?_, by simp [intOf]; omega⟩
                  exact ⟨k + 1, D, T ++ [o], s1, by omega, by go_num, by rw [List.append_assoc, ← HR.out, hdr.out, served_cons, ht.1, ht.2]; rfl, by omega, by rw [List.length_append, List.length_singleton, hTl], hDv, hs1, H.drop⟩
        · skip
          have hfin : k = ls.length := by
            have : ¬ k < ls.length := by simpa using hc
            omega
          subst hfin
          have hys := HR.out
          rw [List.drop_length, show served D [] = [] from rfl, List.append_nil] at hys
          subst hys
          clear HR
          obtain ⟨s2, hs2, H, hrd0⟩ := Kin.Osl.fr H.drop
          have hrd := hrd0.unsh hs2
          clear hrd0
          refine wp_exit ?_
          refine then_exit ?_
          refine then_exit ?_
          refine block_exit ?_
          refine then_norm ?_
          refine wp_seq ?_
          refine wp_region_lit ?_
          apply seq_op rfl
          · intro Φ hΦ; go_simp; exact hΦ
          (try simp only [Act.put, List.setIfInBounds_toArray, List.set_cons_succ, List.set_cons_zero])
          refine seq_call rfl (fun Φ hΦ => by go_simp; (try exact hΦ)) (check_spec 2097152 hB (.inr hn) (hrd) H) ?_
          clear H; rintro e w1 ⟨rfl, H⟩; refine ⟨_, rfl, ?_⟩
          (try simp only [Act.put, List.setIfInBounds_toArray, List.set_cons_succ, List.set_cons_zero])
          apply seq_op rfl
          · intro Φ hΦ; go_simp; exact hΦ
          (try simp only [Act.put, List.setIfInBounds_toArray, List.set_cons_succ, List.set_cons_zero])
          apply seq_op rfl
          · intro Φ hΦ; go_simp; exact hΦ
          (try simp only [Act.put, List.setIfInBounds_toArray, List.set_cons_succ, List.set_cons_zero])
          refine list_end ?_
          refine then_norm ?_
          refine wp_ret ?_
          exact ret1 rfl (rv_tmp rfl) rfl ⟨rfl, s2, hs1.trans hs2, H⟩
end Go.Proofs.Yticpadjheelipaa
